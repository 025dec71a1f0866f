/- Several texts, one behind the other. -/
import Derived.Test.YtiohgpipanopaaaGreatBbDet
section
namespace Go.Am
theorem aHo(n lo hi:Int):fM n lo hi=some (wi n lo hi):=by simp[fM,cW,wi]
theorem aGn(n lo hi:Int):kR n lo hi=some (wi n lo hi):=by simp[kR,cW,wi]
def rK(p:aQ):Bool:=
 (decide (p.Size=4)||decide (p.Size=8))&&(wi p.Persons.length 2 p.Size&&(wi p.Seeds 0 (min p.Persons.length (p.Size/2))&&(!decide (p.Size/2<p.Size-p.Persons.length)&&!decide (10<(p.Lots.length:Int)))))
def pp(p:aQ)(i:Nat):cJ:=p.Persons.getD i default
def aJn(p:aQ)(i:Nat):Bool:=
 (wi (pp p i).Player 0 999&&wi (pp p i).Nation 0 9&&!(decide ((i:Int)<p.Seeds)&&(pp p i).Qualified))&&!((p.Persons.take i).any λy=>decide (y.Player=(pp p i).Player))
def lN(p:aQ):Bool:=rK p&&((List.range p.Persons.length).all (aJn p)&&p.Lots.all λn=>wi n 0 999999)
theorem bBc{p:aQ}(h:p.Size=4\/p.Size=8):w64 (p.Size.tdiv 2)=p.Size/2:=by
 rcases h with h|h<;>rw[h]<;>decide+kernel
theorem fT{p:aQ}(h:rK p=true):(p.Size=4\/p.Size=8)/\2<=p.Persons.length/\(p.Persons.length:Int)<=p.Size/\p.Persons.length<=8/\p.Lots.length<=10/\0<=p.Seeds/\p.Seeds<=p.Persons.length/\p.Seeds<=p.Size/2/\p.Size-p.Persons.length<=p.Size/2:=by
 simp only[rK,Bool.and_eq_true,Bool.or_eq_true,decide_eq_true_eq,gY,Bool.not_eq_true',decide_eq_false_iff_not] at h
 omega
theorem bPm{α:Type}(p:aQ)(a b:Option α):
  ((bif !decide (p.Size=4) then(some (!decide (p.Size=8))) else(some false)).bind λb2=>
  (bif b2 then(some true) else((fM (p.Persons.length:Int) 2 p.Size).bind λr3=>some (!r3))).bind λb4=>
  (bif b4 then(some true) else((fM p.Seeds 0 (min (p.Persons.length:Int) (w64 (p.Size.tdiv 2)))).bind λr5=>some (!r5))).bind λb6=>
  (bif b6 then(some true) else(some (decide ((w64 (p.Size.tdiv 2))<(w64 (p.Size-(p.Persons.length:Int))))))).bind λb7=>
  (bif b7 then(some true) else(some (decide (10<(p.Lots.length:Int))))).bind λb8=>bif b8 then a else b)=bif rK p then b else a:=by
 simp only[aHo,Option.bind_some,cW,dJ]
 by_cases hs:p.Size=4\/p.Size=8
 ·have h0:(!decide (p.Size=4)&&!decide (p.Size=8))=false:=by rcases hs with h|h<;>simp[h]
  have h1:(decide (p.Size=4)||decide (p.Size=8))=true:=by rcases hs with h|h<;>simp[h]
  rw[h0,bBc hs];simp only[Bool.false_or,rK,h1,Bool.true_and];cases hw:wi p.Persons.length 2 p.Size with
  |false=>simp
  | true=>
   have:=gY.1 hw;rw[cD (n:=p.Size-p.Persons.length) (by omega) (by omega)];cases wi p.Seeds 0 (min p.Persons.length (p.Size/2))<;>cases decide (p.Size/2<p.Size-p.Persons.length)<;>cases decide (10<(p.Lots.length:Int))<;>rfl
 ·have h0:(!decide (p.Size=4)&&!decide (p.Size=8))=true:=by simp;omega
  have h1:(decide (p.Size=4)||decide (p.Size=8))=false:=by simp;omega
  simp[h0,rK,h1]
theorem bMd{α:Type}(p:aQ)(a b:Option α):
  ((bif !decide (p.Size=4) then(some (!decide (p.Size=8))) else(some false)).bind λb2=>
  (bif b2 then(some true) else((kR (p.Persons.length:Int) 2 p.Size).bind λr3=>some (!r3))).bind λb4=>
  (bif b4 then(some true) else(some (decide ((w64 (p.Size.tdiv 2))<(w64 (p.Size-(p.Persons.length:Int))))))).bind λb5=>
  (bif b5 then(some true) else((kR p.Seeds 0 (min (w64 (p.Size.tdiv 2)) (p.Persons.length:Int))).bind λr6=>some (!r6))).bind λb7=>
  (bif b7 then(some true) else(some (decide (10<(p.Lots.length:Int))))).bind λb8=>bif b8 then a else b)=bif rK p then b else a:=by
 simp only[aGn,Option.bind_some,cW,dJ]
 by_cases hs:p.Size=4\/p.Size=8
 ·have h0:(!decide (p.Size=4)&&!decide (p.Size=8))=false:=by rcases hs with h|h<;>simp[h]
  have h1:(decide (p.Size=4)||decide (p.Size=8))=true:=by rcases hs with h|h<;>simp[h]
  rw[h0,bBc hs,Int.min_comm (p.Size/2)];simp only[Bool.false_or,rK,h1,Bool.true_and];cases hw:wi p.Persons.length 2 p.Size with
  |false=>simp
  | true=>
   have:=gY.1 hw;rw[cD (n:=p.Size-p.Persons.length) (by omega) (by omega)];cases wi p.Seeds 0 (min p.Persons.length (p.Size/2))<;>cases decide (p.Size/2<p.Size-p.Persons.length)<;>cases decide (10<(p.Lots.length:Int))<;>rfl
 ·have h0:(!decide (p.Size=4)&&!decide (p.Size=8))=true:=by simp;omega
  have h1:(decide (p.Size=4)||decide (p.Size=8))=false:=by simp;omega
  simp[h0,rK,h1]
theorem aNt(l:List cJ)(hl:l.length<=9223372036854775807)(f:cJ->Option Bool)(g:cJ->Bool)(hf:∀x∈l,f x=some (g x)):jA l f=some (match l.findIdx? g with|some i=>(i:Int)|none=> -1):=by
 unfold jA;rw[dD (S:=Unit) (λk i _=>eJ l f l.length k i) l.length (λi _=>some (match(l.drop i).findIdx? g with|some j=>((i+j:Nat):Int)|none=> -1)) (λ_ _=>True) ?_ ?_ BIG () (bI hl) trivial]
 ·simp
 ·intro k i _ hi _ ih;have:=ih () trivial;simp only[eJ,aY hi,Option.bind_some,aZ (show i<9223372036854775807 by omega),Int.ofNat_lt,hi,decide_true,cond_true,this,hf _ (List.getElem_mem hi)];rw[List.drop_eq_getElem_cons hi,List.findIdx?_cons];cases h:g l[i] with
  |true=>simp
  | false=>
   simp only[cond_false,Bool.false_eq_true,if_false];cases List.findIdx? g (List.drop (i+1) l) with
   |none=>rfl
   |some j=>simp;omega
 ·intro k _ _
  simp[eJ,nC]
theorem bIj{α:Type}(l:List α)(g:α->Bool):decide ((0:Int)<=(match l.findIdx? g with|some i=>(i:Int)|none=> -1))=l.any g:=by
 cases h:l.findIdx? g with
 | none=>
  have h':=List.findIdx?_eq_none_iff.1 h;have:l.any g=false:=by rw[Bool.eq_false_iff];intro h2;obtain⟨x,hx,hg⟩:=List.any_eq_true.1 h2;rw[h' x hx] at hg;cases hg
  rw[this];decide
 | some i=>
  obtain⟨h1,h2,_⟩:=List.findIdx?_eq_some_iff_getElem.1 h;have:l.any g=true:=List.any_eq_true.2 ⟨_,List.getElem_mem h1,h2⟩;rw[this];exact decide_eq_true (Int.natCast_nonneg i)
theorem aIz(l:List cJ)(hl:l.length<=9223372036854775807)(f:cJ->Option Bool)(g:cJ->Bool)(hf:∀x∈l,f x=some (g x)):gQ l f=some (l.any g):=by
 unfold gQ;rw[aNt l hl f g hf,Option.bind_some,bIj]
theorem aSl(l:List Int)(hl:l.length<=9223372036854775807)(f:Int->Option Bool)(g:Int->Bool)(hf:∀x∈l,f x=some (g x)):jN l f=some (match l.findIdx? g with|some i=>(i:Int)|none=> -1):=by
 unfold jN;rw[dD (S:=Unit) (λk i _=>dW l f l.length k i) l.length (λi _=>some (match(l.drop i).findIdx? g with|some j=>((i+j:Nat):Int)|none=> -1)) (λ_ _=>True) ?_ ?_ BIG () (bI hl) trivial]
 ·simp
 ·intro k i _ hi _ ih;have:=ih () trivial;simp only[dW,aY hi,Option.bind_some,aZ (show i<9223372036854775807 by omega),Int.ofNat_lt,hi,decide_true,cond_true,this,hf _ (List.getElem_mem hi)];rw[List.drop_eq_getElem_cons hi,List.findIdx?_cons];cases h:g l[i] with
  |true=>simp
  | false=>
   simp only[cond_false,Bool.false_eq_true,if_false];cases List.findIdx? g (List.drop (i+1) l) with
   |none=>rfl
   |some j=>simp;omega
 ·intro k _ _
  simp[dW,nQ]
theorem vW(l:List Int)(hl:l.length<=9223372036854775807)(f:Int->Option Bool)(g:Int->Bool)(hf:∀x∈l,f x=some (g x)):fL l f=some (l.any g):=by
 unfold fL;rw[aSl l hl f g hf,Option.bind_some,bIj]
theorem nY{p:aQ}{i:Nat}(h:i<p.Persons.length):pp p i=p.Persons[i]:=by simp[pp,h]
theorem aXx(p:aQ):vR p=some (if lN p then 0 else 60):=by
 unfold vR;rw[bMd];cases hs:rK p with
 |false=>simp[lN,hs]
 | true=>
  obtain⟨_,_,_,h8,h10,_⟩:=fT hs;rw[cond_true,eH (λk i=>oG p.Persons p.Persons.length p k i) p.Persons.length (aJn p) (some 60) (yQ p) ?_ ?_ BIG (bI (by omega))]
  ·simp only[lN,hs,Bool.true_and];cases(List.range p.Persons.length).all (aJn p) with
   |false=>rfl
   | true=>
    simp only[cond_true,Bool.true_and,yQ];rw[vW p.Lots (by omega) _ (λn=>!wi n 0 999999) (λx _=>by simp[zQ,aGn]),Option.bind_some];have:(p.Lots.any λn=>!wi n 0 999999)=!(p.Lots.all λn=>wi n 0 999999):=by rw[List.not_all_eq_any_not]
    rw[this];cases p.Lots.all λn=>wi n 0 999999<;>rfl
  ·intro k i hi;simp only[oG,Int.ofNat_lt,hi,decide_true,cond_true,aY hi,Option.bind_some,aRe (Nat.le_of_lt hi),aGn,cW,dJ,aZ (show i<9223372036854775807 by omega)];rw[aIz (p.Persons.take i) (by rw[List.length_take];omega) (λy12=>zP y12 p.Persons[i]) (λy=>decide (y.Player=p.Persons[i].Player)) (λy _=>rfl),Option.bind_some];simp only[aJn,nY hi];cases(p.Persons.take i).any λy=>decide (y.Player=p.Persons[i].Player)<;>cases wi p.Persons[i].Player 0 999<;>cases wi p.Persons[i].Nation 0 9<;>cases decide ((i:Int)<p.Seeds)<;>cases p.Persons[i].Qualified<;>rfl
  ·intro k
   simp[oG]
theorem aNq(p:aQ):oF p=some (if lN p then 0 else 60):=by
 unfold oF;rw[bPm];cases hs:rK p with
 |false=>simp[lN,hs]
 | true =>
  obtain⟨_,_,_,h8,h10,_⟩:=fT hs;rw[cond_true,eH (λk i=>fG p.Persons.length p k i) p.Persons.length (aJn p) (some 60) (rO p) ?_ ?_ BIG (bI (by omega))]
  ·simp only[lN,hs,Bool.true_and];cases(List.range p.Persons.length).all (aJn p) with
   |false=>rfl
   | true=>
    simp only[cond_true,Bool.true_and,rO];rw[eH (λk i=>kA p k i) p.Lots.length (λi=>wi (p.Lots.getD i 0) 0 999999) (some 60) (some 0) ?_ ?_ BIG (bI (by omega))]
    ·have:((List.range p.Lots.length).all λi=>wi (p.Lots.getD i 0) 0 999999)=p.Lots.all λn=>wi n 0 999999:=by
      rw[Bool.eq_iff_iff,dL,List.all_eq_true]
      constructor
      ·intro h x hx;obtain⟨i,hi,rfl⟩:=List.getElem_of_mem hx;have:=h i hi
       rwa[aW hi] at this
      ·intro h i hi;rw[aW hi];exact h _ (List.getElem_mem hi)
     rw[this];cases p.Lots.all λn=>wi n 0 999999<;>rfl
    ·intro k i hi;simp only[kA,Int.ofNat_lt,hi,decide_true,cond_true,aY hi,Option.bind_some,aHo,aZ (show i<9223372036854775807 by omega),aW hi];cases wi p.Lots[i] 0 999999<;>rfl
    ·intro k
     simp[kA,wA]
  ·intro k i hi;simp only[fG,Int.ofNat_lt,hi,decide_true,cond_true,aY hi,Option.bind_some,aHo,cW,dJ];rw[eH (λk2 j=>jZ (fG p.Persons.length p k) p.Persons.length i p p.Persons[i] k2 j) i (λj=>!decide ((pp p j).Player=p.Persons[i].Player)) (some 60) (fG p.Persons.length p k ((i+1:Nat):Int)) ?_ ?_ BIG (bI (by omega))]
   ·have e:((List.range i).all λj=>!decide ((pp p j).Player=p.Persons[i].Player))=!((p.Persons.take i).any λy=>decide (y.Player=p.Persons[i].Player)):=by
     rw[Bool.eq_iff_iff,dL,Bool.not_eq_true',Bool.eq_false_iff]
     constructor
     ·intro h h2;obtain⟨x,hx,hp⟩:=List.any_eq_true.1 h2;obtain⟨j,hj,rfl⟩:=List.getElem_of_mem hx;rw[List.length_take] at hj;have:=h j (by omega);rw[nY (by omega)] at this;rw[List.getElem_take] at hp;rw[hp] at this;cases this
     ·intro h j hj;cases hd:decide ((pp p j).Player=p.Persons[i].Player) with
      |false=>rfl
      | true=>
       refine absurd (List.any_eq_true.2 ⟨p.Persons[j],?_,?_⟩) h
       ·refine List.mem_of_getElem? (i:=j) ?_;rw[List.getElem?_take_of_lt hj,List.getElem?_eq_getElem (by omega)]
       ·rwa[nY (by omega)] at hd
    rw[e];simp only[aJn,nY hi];cases(p.Persons.take i).any λy=>decide (y.Player=p.Persons[i].Player)<;>cases wi p.Persons[i].Player 0 999<;>cases wi p.Persons[i].Nation 0 9<;>cases decide ((i:Int)<p.Seeds)<;>cases p.Persons[i].Qualified<;>rfl
   ·intro k2 j hj;simp only[jZ,Int.ofNat_lt,hj,decide_true,cond_true,aY (show j<p.Persons.length by omega),Option.bind_some,aZ (show j<9223372036854775807 by omega),nY (show j<p.Persons.length by omega)];cases decide (p.Persons[j].Player=p.Persons[i].Player)<;>rfl
   ·intro k2
    simp[jZ,vZ,vY,aZ (show i<9223372036854775807 by omega)]
  ·intro k
   simp[fG]
end Go.Am
end
section
namespace Go.Am
def aMm(p:aQ)(x:Int):Option Nat:=p.Persons.findIdx? λy=>decide (y.Player=x)
theorem aPo{p:aQ}{x:Int}{i:Nat}(h:aMm p x=some i):i<p.Persons.length/\(pp p i).Player=x:=by
 obtain⟨h1,h2,_⟩:=List.findIdx?_eq_some_iff_getElem.1 h;exact⟨h1,by rw[nY h1];simpa using h2⟩
theorem bIs{p:aQ}{x:Int}(h:∃i,i<p.Persons.length/\(pp p i).Player=x):∃i,aMm p x=some i:=by
 obtain⟨i,hi,he⟩:=h;cases hn:aMm p x with
 |some j=>exact⟨j,rfl⟩
 | none=>
  have:=List.findIdx?_eq_none_iff.1 hn p.Persons[i] (List.getElem_mem hi);rw[<-nY hi] at this
  simp[he] at this
def aHd(p:aQ)(x:Int):Int:=match aMm p x with|some i=>(i:Int)|none=> -1
theorem aYr(p:aQ)(hl:p.Persons.length<=9223372036854775807)(x:Int):nF p x=some (aHd p x):=by
 unfold nF;rw[dD (S:=Unit) (λk i _=>jG x p k i) p.Persons.length (λi _=>some (match(p.Persons.drop i).findIdx? (λy=>decide (y.Player=x)) with|some j=>((i+j:Nat):Int)|none=> -1)) (λ_ _=>True) ?_ ?_ BIG () (bI hl) trivial]
 ·simp[aHd,aMm]
 ·intro k i _ hi _ ih;have:=ih () trivial;simp only[jG,aY hi,Option.bind_some,aZ (show i<9223372036854775807 by omega),Int.ofNat_lt,hi,decide_true,cond_true,this];rw[List.drop_eq_getElem_cons hi,List.findIdx?_cons];cases h:decide (p.Persons[i].Player=x) with
  |true=>simp
  | false=>
   simp only[cond_false,Bool.false_eq_true,if_false];cases List.findIdx? (λy=>decide (y.Player=x)) (List.drop (i+1) p.Persons) with
   |none=>rfl
   |some j=>simp;omega
 ·intro k _ _
  simp[jG,uW]
theorem aWo(l:List Int)(hl:l.length<=9223372036854775807)(n:Int):qA l n=some (decide (n∈l)):=by
 unfold qA;rw[dD (S:=Unit) (λk i _=>lT l n k i) l.length (λi _=>some (decide (n∈l.drop i))) (λ_ _=>True) ?_ ?_ BIG () (bI hl) trivial]
 ·simp
 ·intro k i _ hi _ ih;have:=ih () trivial;simp only[lT,aY hi,Option.bind_some,aZ (show i<9223372036854775807 by omega),Int.ofNat_lt,hi,decide_true,cond_true,this];rw[List.drop_eq_getElem_cons hi]
  by_cases h:l[i]=n
  ·simp[h]
  ·have h':¬n=l[i]:=λe=>h e.symm;simp only[h,decide_false,cond_false,List.mem_cons,h',false_or]
 ·intro k _ _
  simp[lT,zV]
def bCe(p:aQ)(S:List Int)(i:Nat):Bool:=decide (S.getD i 0= -1)||(aMm p (S.getD i 0)).isSome&&!decide (S.getD i 0∈S.take i)
def aLw(p:aQ)(a b:Int):Bool:=
 if a= -1\/b= -1 then !decide (a=b) else
 (decide ((pp p (aHd p a).toNat).Nation=0)||!decide ((pp p (aHd p a).toNat).Nation=(pp p (aHd p b).toNat).Nation))&&!((pp p (aHd p a).toNat).Qualified&&(pp p (aHd p b).toNat).Qualified)
def IsP(p:aQ)(x:Int):Prop:=x= -1\/∃i,aMm p x=some i
theorem bEv{p:aQ}{x:Int}{i:Nat}(h:aMm p x=some i):idx p.Persons (aHd p x)=some (pp p (aHd p x).toNat):=by
 have e:aHd p x=(i:Int):=by unfold aHd;rw[h]
 rw[e,aY (aPo h).1,Int.toNat_natCast,<-nY (aPo h).1]
theorem aVy{p:aQ}(hp:p.Persons.length<=40){a b:Int}(ha:IsP p a)(hb:IsP p b):kO p a b=some (aLw p a b):=by
 unfold kO;simp only[dJ,cW,Option.bind_some,aYr p (show p.Persons.length<=9223372036854775807 by omega)]
 by_cases h:a= -1\/b= -1
 ·have:(decide (a= -1)||decide (b= -1))=true:=by simpa using h
  rw[this];simp only[cond_true,aLw,if_pos h]
 ·have h0:(decide (a= -1)||decide (b= -1))=false:=by simpa using h
  rw[h0];obtain⟨i,hi⟩:=ha.resolve_left λe=>h (.inl e);obtain⟨j,hj⟩:=hb.resolve_left λe=>h (.inr e);rw[cond_false,bEv hi,Option.bind_some,bEv hj,Option.bind_some];simp only[aLw,if_neg h]
theorem bFk(l:List Int)(hl:l.length<=9223372036854775807)(v:Int):sH l v=some (match l.findIdx? (λx=>decide (x=v)) with|some i=>(i:Int)|none=> -1):=by
 unfold sH;rw[dD (S:=Unit) (λk i _=>kP l v k i) l.length (λi _=>some (match(l.drop i).findIdx? (λx=>decide (x=v)) with|some j=>((i+j:Nat):Int)|none=> -1)) (λ_ _=>True) ?_ ?_ BIG () (bI hl) trivial]
 ·simp
 ·intro k i _ hi _ ih;have:=ih () trivial;simp only[kP,aY hi,Option.bind_some,aZ (show i<9223372036854775807 by omega),Int.ofNat_lt,hi,decide_true,cond_true,this];rw[List.drop_eq_getElem_cons hi,List.findIdx?_cons]
  by_cases h:l[i]=v
  ·simp[h]
  ·simp only[h,decide_false,cond_false,Bool.false_eq_true,if_false];cases List.findIdx? (λx=>decide (x=v)) (List.drop (i+1) l) with
   |none=>rfl
   |some j=>simp;omega
 ·intro k _ _
  simp[kP,xH]
theorem bNr(p:aQ)(hp:p.Persons.length<=40)(S:List Int)(hS:S.length<=40):qH p S=some ((List.range p.Persons.length).all λi=>decide ((pp p i).Player∈S)):=by
 unfold qH;rw[eH (λk i=>jH S p k i) p.Persons.length (λi=>decide ((pp p i).Player∈S)) (some false) (some true) ?_ ?_ BIG (bI (by omega))]
 ·cases(List.range p.Persons.length).all λi=>decide ((pp p i).Player∈S)<;>rfl
 ·intro k i hi;simp only[jH,Int.ofNat_lt,hi,decide_true,cond_true,aY hi,Option.bind_some,aZ (show i<9223372036854775807 by omega),aWo S (show S.length<=9223372036854775807 by omega),nY hi];cases decide (p.Persons[i].Player∈S)<;>rfl
 ·intro k
  simp[jH,uY]
theorem bIm{T:Type}(F:Nat->Int->Option T)(n:Nat)(hstep:∀k i,i<n->(∀b,F k ((i+1:Nat):Int)=some b->∃b,F (k+1) (i:Int)=some b))(hstop:∀k,∃b,F (k+1) (n:Int)=some b):∀k,n<k->∃b,F k 0=some b:=by
 intro k hk;have:=iZ (S:=Unit) (λk i _=>F k i) n (λo=>∃b,o=some b) (λi _=>i<=n) (λk i _ hi _ ih=>by
  obtain⟨b,hb⟩:=ih () (by omega);exact hstep k i hi b hb) (λk i _ h1 h2=>by
  have:i=n:=by omega
  subst this;exact hstop k) k 0 () (by omega) (by omega)
 simpa using this
theorem bJs{p:aQ}(hp:lN p=true){S:List Int}(hl:(S.length:Int)=p.Size)(hS:∀x∈S,IsP p x):
  ∃b,qY p S=some b/\(b=true->∀j (_:2*j+1<S.length),aLw p (S.getD (2*j) 0) (S.getD (2*j+1) 0)=true):=by
 have hsh:rK p=true:=by simp only[lN,Bool.and_eq_true] at hp;exact hp.1
 obtain⟨hsz,hn2,hns,h8,_,hs0,hsn,hs2,_⟩:=fT hsh;have hS8:S.length<=8:=by omega
 unfold qY;rw[bNr p (by omega) S (by omega),Option.bind_some];cases hf:(List.range p.Persons.length).all λi=>decide ((pp p i).Player∈S) with
 |false=>exact⟨false,rfl,λh=>by cases h⟩
 | true=>
  have hfull:=λi hi=>of_decide_eq_true (dL.1 hf i hi);rw[Bool.not_true,cond_false];have hK:∃b,nS S p=some b:=by
   unfold nS;have h0:p.Seeds=((p.Seeds.toNat:Nat):Int):=by omega
   refine bIm (λk i=>kC S (w64 (p.Size-(p.Persons.length:Int))) p k i) p.Seeds.toNat (λk i hi b hb=>?_) (λk=>?_) BIG (bI (by omega))
   ·have hin:i<p.Persons.length:=by omega
    have hlt:decide ((i:Int)<p.Seeds)=true:=decide_eq_true (by omega);have hm:=hfull i hin;rw[nY hin] at hm;obtain⟨r,hr⟩:∃r,S.findIdx? (λx=>decide (x=p.Persons[i].Player))=some r:=by
     cases hx:S.findIdx? (λx=>decide (x=p.Persons[i].Player)) with
     |some r=>exact⟨r,rfl⟩
     | none=>
      have:=List.findIdx?_eq_none_iff.1 hx _ hm
      simp at this
    obtain⟨hr1,_,_⟩:=List.findIdx?_eq_some_iff_getElem.1 hr;have hx:=bUa ⟨r,by omega⟩;simp only at hx;have hj:(if r % 2=0 then r+1 else r-1)<S.length:=by split<;>omega
    simp only[kC,hlt,cond_true,aY hin,Option.bind_some,bFk S (show S.length<=9223372036854775807 by omega),hr,cW,dJ,uX,hx,aY hj,aZ (show i<9223372036854775807 by omega)];cases(decide ((i:Int)=0)&&!decide ((r:Int)=0)||decide ((i:Int)=1)&&!decide ((r:Int)=w64 (p.Size-1))||decide (2<=(i:Int))&&!decide ((r:Int)=w64 (p.Size.tdiv 4))&&!decide ((r:Int)=w64 (w64 (p.Size-1)-w64 (p.Size.tdiv 4)))) with
    |true=>exact⟨_,rfl⟩
    | false=>
     rw[cond_false];cases(!decide (decide ((i:Int)<w64 (p.Size-↑p.Persons.length))=decide (S[if r % 2=0 then r+1 else r-1]= -1))) with
     |true=>exact⟨_,rfl⟩
     |false=>exact⟨b,hb⟩
   ·have hlt:decide (((p.Seeds.toNat:Nat):Int)<p.Seeds)=false:=decide_eq_false (by omega);exact⟨true,by simp only[kC,hlt,cond_false,wB]⟩
  obtain⟨b,hb⟩:=hK;have main:=eH (λk i=>kB S p k (2*i)) (S.length/2) (λj=>aLw p (S.getD (2*j) 0) (S.getD (2*j+1) 0)) (some false) (nS S p) ?_ ?_ BIG (bI (by omega))
  ·simp only[Int.mul_zero] at main;rw[main,hb];cases ha:(List.range (S.length/2)).all λj=>aLw p (S.getD (2*j) 0) (S.getD (2*j+1) 0) with
   |false=>exact⟨false,rfl,λh=>by cases h⟩
   |true=>exact⟨b,rfl,λ_ j hj=>dL.1 ha j (by omega)⟩
  ·intro k j hj;have h1:2*j<S.length:=by omega
   have h2:2*j+1<S.length:=by omega
   have hlt:decide (2*(j:Int)<p.Size)=true:=decide_eq_true (by omega);have e1:w64 (2*(j:Int)+1)=((2*j+1:Nat):Int):=by rw[cD (by omega) (by omega)];omega
   have e2:w64 (2*(j:Int)+2)=2*((j+1:Nat):Int):=by rw[cD (by omega) (by omega)];omega
   have e0:2*(j:Int)=((2*j:Nat):Int):=by omega
   simp only[kB,hlt,cond_true,e1,e2];rw[e0,aY h1,Option.bind_some,aY h2,Option.bind_some,aVy (by omega) (hS _ (List.getElem_mem h1)) (hS _ (List.getElem_mem h2)),Option.bind_some,aW h1,aW h2];cases aLw p S[2*j] S[2*j+1]<;>rfl
  ·intro k;have hlt:decide (2*((S.length/2:Nat):Int)<p.Size)=false:=decide_eq_false (by omega);simp only[kB,hlt,cond_false]
end Go.Am
end
section
namespace Go.Am
theorem bV{α β:Type}{A:Option α}{x:α}(h:A=some x)(f:α->Option β):A.bind f=f x:=by subst h;rfl
theorem bCk{S:List Int}(h:S.length<=1000):jM S=some S:=by
 unfold jM;rw[eE (by simp;omega)]
 simp
end Go.Am
end
section
namespace Go.Am
def aFw(p:aQ)(slot:Nat)(n:Int):Bool:=
 if slot=0/\0<p.Seeds then decide (n=0) else if(slot:Int)=p.Size-1/\1<p.Seeds then decide (n=1)
 else decide (n= -1)||decide (p.Seeds<=n)||(decide (1<n)&&(decide ((slot:Int)=p.Size/4)||decide ((slot:Int)=p.Size-1-p.Size/4)))
def pn(p:aQ)(n:Int):cJ:=pp p n.toNat
def zH(p:aQ)(a b:Int):Bool:=
 if a= -1\/b= -1 then !decide (a=b) else(!decide ((pn p a).Nation=(pn p b).Nation)||decide ((pn p a).Nation=0))&&!((pn p a).Qualified&&(pn p b).Qualified)
def aXt(p:aQ)(n other:Int):Bool:=decide (n= -1)||decide (p.Seeds<=n)||decide (decide (other= -1)=decide (n<p.Size-p.Persons.length))
def aDm(p:aQ)(a b:Int):Bool:=
 !(decide (p.Size-p.Persons.length<=p.Seeds)&&(decide (a= -1)&&decide (p.Seeds<=b)||decide (b= -1)&&decide (p.Seeds<=a)))&&(zH p a b&&aXt p a b&&aXt p b a)
def Num(p:aQ)(n:Int):Prop:=n= -1\/0<=n/\n<p.Persons.length
theorem Num.idx{p:aQ}{n:Int}(h:Num p n)(hn:n≠-1):idx p.Persons n=some (pn p n):=by
 obtain⟨h1,h2⟩:=h.resolve_left hn;rw[pW h1 (by omega),pn,nY (by omega)]
section
variable{p:aQ}(hp:rK p=true)
include hp
theorem bZa:w64 (p.Size.tdiv 4)=p.Size/4/\w64 (p.Size-1)=p.Size-1/\w64 (w64 (p.Size-1)-w64 (p.Size.tdiv 4))=p.Size-1-p.Size/4:=by
 rcases(fT hp).1 with h|h<;>rw[h]<;>decide+kernel
theorem bWl(slot:Nat)(n:Int):aBc p slot n=some (aFw p slot n):=by
 obtain⟨e1,e2,e3⟩:=bZa hp;unfold aBc;rw[e3,e1,e2];simp only[cW,Option.bind_some,dJ];rw[fD _ (by simp)];simp only[Option.bind_some,cW,List.mem_cons,List.not_mem_nil,or_false];unfold aFw
 by_cases h1:slot=0/\0<p.Seeds
 ·have:(decide ((slot:Int)=0)&&decide (0<p.Seeds))=true:=by rw[decide_eq_true (by omega:(slot:Int)=0),decide_eq_true h1.2];rfl
  rw[if_pos h1,this]
  rfl
 ·have:(decide ((slot:Int)=0)&&decide (0<p.Seeds))=false:=by
   rw[Bool.eq_false_iff];intro h;simp only[Bool.and_eq_true,decide_eq_true_eq] at h;exact h1 ⟨by omega,h.2⟩
  rw[if_neg h1,this,cond_false]
  by_cases h2:(slot:Int)=p.Size-1/\1<p.Seeds
  ·have:(decide ((slot:Int)=p.Size-1)&&decide (1<p.Seeds))=true:=by simpa using h2
   rw[if_pos h2,this]
   rfl
  ·have:(decide ((slot:Int)=p.Size-1)&&decide (1<p.Seeds))=false:=by
    rw[Bool.eq_false_iff];intro h;exact h2 (by simpa using h)
   rw[if_neg h2,this,cond_false];have e:decide ((slot:Int)=p.Size/4\/(slot:Int)=p.Size-1-p.Size/4)=(decide ((slot:Int)=p.Size/4)||decide ((slot:Int)=p.Size-1-p.Size/4)):=by
    by_cases a:(slot:Int)=p.Size/4<;>by_cases b:(slot:Int)=p.Size-1-p.Size/4<;>simp[a,b]
   rw[e];cases decide (n= -1)||decide (p.Seeds<=n)<;>rfl
omit hp in
theorem bQl{a b:Int}(ha:Num p a)(hb:Num p b):zK p a b=some (zH p a b):=by
 unfold zK;simp only[dJ,cW,Option.bind_some]
 by_cases h:a= -1\/b= -1
 ·have:(decide (a= -1)||decide (b= -1))=true:=by simpa using h
  rw[this,zH,if_pos h]
  rfl
 ·have h0:(decide (a= -1)||decide (b= -1))=false:=by simpa using h
  rw[h0,cond_false,ha.idx (λe=>h (.inl e)),Option.bind_some,hb.idx (λe=>h (.inr e)),Option.bind_some,zH,if_neg h]
theorem bWc{a b:Int}(ha:Num p a)(hb:Num p b):vS p a b=some (aDm p a b):=by
 have hn:=fT hp;unfold vS;rw[cD (n:=p.Size-p.Persons.length) (by omega) (by omega)];have e1:∀x y:Int,sB x y p (p.Size-p.Persons.length)=some (aXt p x y):=λx y=>by
  unfold sB aXt;simp only[dJ,Option.bind_some]
 simp only[cW,dJ,Option.bind_some,bQl ha hb,e1];unfold aDm;cases(decide (p.Size-(p.Persons.length:Int)<=p.Seeds)&&(decide (a= -1)&&decide (p.Seeds<=b)||decide (b= -1)&&decide (p.Seeds<=a)))<;>cases zH p a b<;>cases aXt p a b<;>cases aXt p b a<;>rfl
end
def okN(p:aQ)(l:List Int)(byes n:Int):Bool:=
 !((decide ((if n= -1 then byes-1 else byes)<0)||(!decide (n= -1)&&decide (n∈l)))||!aFw p l.length n||(decide (l.length % 2=1)&&!aDm p (l.getD (l.length-1) 0) n))
def tF(byes n:Int):Int:=if n= -1 then byes-1 else byes
def lD(p:aQ)(ranks:List Int):Nat->List Int->Int->List (List Int)
 |0,l,_=>[l]
 |k+1,l,byes=>ranks.flatMap λn=>if okN p l byes n=true then lD p ranks k (l++[n]) (tF byes n) else []
def qK{S:Type}(y:S->List Int->Option (S×Bool)):List (List Int)->S->Option (S×Bool)
 |[],s=>some (s,true)
 |x::xs,s=>(y s x).bind λr=>bif r.2 then qK y xs r.1 else some (r.1,false)
theorem aPa{S:Type}(y:S->List Int->Option (S×Bool)):∀(xs ys:List (List Int)) (s:S),qK y (xs++ys) s=(qK y xs s).bind λr=>bif r.2 then qK y ys r.1 else some (r.1,false)
 |[],_,_=>rfl
 | x::xs,ys,s=>by
  simp only[List.cons_append,qK];cases y s x with
  |none=>rfl
  | some r=>
   simp only[Option.bind_some];cases r.2 with
   |true=>simpa using aPa y xs ys r.1
   |false=>rfl
theorem bNp{S:Type}(y:S->List Int->Option (S×Bool))(x:List Int)(s:S):qK y [x] s=y s x:=by
 simp only[qK];cases y s x with
 |none=>rfl
 |some r=>obtain⟨a,b⟩:=r;cases b<;>rfl
theorem bSj{S:Type}{A:Option (List Int)}{B:Option (S×Bool)}{c:Bool}(y:S->List Int->Option (S×Bool)){l:List Int}(s:S)(hc:c=true)(hA:A=some l):
  (bif c then(A.bind λr1=>(y s r1).bind λy3=>some y3) else B)=y s l:=by
 subst hc;subst hA;simp only[cond_true,Option.bind_some];cases y s l<;>rfl
theorem bOj{S:Type}{A B:Option (S×Bool)}{c:Bool}(hc:c=false):(bif c then A else B)=B:=by subst hc;rfl
section
variable{p:aQ}(hp:rK p=true){ranks:List Int}(hr:∀x∈ranks,Num p x)(hrl:ranks.length<=100)
include hp hr hrl
theorem bVw{S:Type}(y:S->List Int->Option (S×Bool)):∀(k:Nat) (fuel:Nat) (l:List Int) (byes:Int) (s:S),k<fuel->((l.length+k:Nat):Int)=p.Size->(∀x∈l,Num p x)→-1<=byes->byes<=100->
  iG y fuel l byes p ranks s=qK y (lD p ranks k l byes) s:=by
 have hsz:=fT hp;intro k
 induction k with
 | zero=>
  intro fuel l byes s hf hl hn _ _;obtain⟨fuel,rfl⟩:∃q,fuel=q+1:=⟨fuel-1,by omega⟩;have hc:decide ((l.length:Int)=p.Size)=true:=decide_eq_true (by omega);rw[iG,bSj y s hc (bCk (show l.length<=1000 by omega)),lD,bNp]
 | succ k ih=>
  intro fuel l byes s hf hl hn hb0 hb1;obtain⟨fuel,rfl⟩:∃q,fuel=q+1:=⟨fuel-1,by omega⟩;have hc:decide ((l.length:Int)=p.Size)=false:=decide_eq_false (by omega);rw[iG,bOj hc,lD];have main:=dD (S:=S) (λq i s=>iY y (iG y fuel) byes p l.length ranks ranks.length l p ranks q i s) ranks.length (λi s=>qK y ((ranks.drop i).flatMap λn=>if okN p l byes n=true then lD p ranks k (l++[n]) (tF byes n) else []) s) (λ_ _=>True) ?_ ?_ BIG s (bI (by omega)) trivial
  ·rw[List.drop_zero] at main;exact main
  ·intro q i s hi _ ihq;have hx:=hr _ (List.getElem_mem hi);have hodd:decide (((l.length:Int).tmod 2)=1)=decide (l.length % 2=1):=by
    rw[Int.tmod_eq_emod_of_nonneg (Int.natCast_nonneg _)]
    by_cases h:l.length % 2=1
    ·rw[decide_eq_true h,decide_eq_true (by omega)]
    ·rw[decide_eq_false h,decide_eq_false (by omega)]
   have hj:((bif decide (ranks[i]=(-1)) then(some (w64 (byes-1))) else(some byes)):Option Int)=some (tF byes ranks[i]):=by
    unfold tF
    by_cases h:ranks[i]= -1
    ·rw[decide_eq_true h,if_pos h,cD (n:=byes-1) (by omega) (by omega)];rfl
    ·rw[decide_eq_false h,if_neg h];rfl
   have hm:((bif decide (((l.length:Int).tmod 2)=1) then((idx l (w64 ((l.length:Int)-1))).bind λx13=>(vS p x13 ranks[i]).bind λr14=>some (!r14)) else(some false)):Option Bool)=some (decide (l.length % 2=1)&&!aDm p (l.getD (l.length-1) 0) ranks[i]):=by
    rw[hodd]
    by_cases h:l.length % 2=1
    ·have h1:l.length-1<l.length:=by omega
     rw[decide_eq_true h,cond_true,rN (show 0<l.length by omega) (by omega),bV (aY h1),bV (bWc hp (hn _ (List.getElem_mem h1)) hx),aW h1]
     rfl
    ·rw[decide_eq_false h];rfl
   have hcont:cN l ranks[i]=some (decide (ranks[i]∈l)):=fD l (by omega) _;simp only[iY,Int.ofNat_lt,hi,decide_true,cond_true,aZ (show i<9223372036854775807 by omega)];rw[bV (aY hi),bV hj];simp only[hcont,Option.bind_some,cW,dJ,bWl hp,hm];have e:(((decide (tF byes ranks[i]<0)||(!decide (ranks[i]= -1)&&decide (ranks[i]∈l)))||!aFw p l.length ranks[i])||(decide (l.length % 2=1)&&!aDm p (l.getD (l.length-1) 0) ranks[i]))=!okN p l byes ranks[i]:=by
    unfold okN tF;rw[Bool.not_not]
   rw[e,List.drop_eq_getElem_cons hi,List.flatMap_cons];cases ho:okN p l byes ranks[i] with
   | false=>
    rw[Bool.not_false,cond_true,if_neg (by simp),List.nil_append];exact ihq s trivial
   | true=>
    have hlen:((l++[ranks[i]]).length+k:Nat)=p.Size:=by rw[List.length_append,List.length_singleton];omega
    have hv:aQg p.Size l [ranks[i]]=some (l++[ranks[i]]):=by
     unfold aQg;rw[if_pos (by rw[List.length_singleton];omega)]
    have hleft: -1<=tF byes ranks[i]/\tF byes ranks[i]<=100:=by
     unfold okN at ho;simp only[Bool.not_eq_true',Bool.or_eq_false_iff,decide_eq_false_iff_not] at ho;have:=ho.1.1.1;unfold tF;split at this<;>split<;>omega
    rw[Bool.not_true,cond_false,bV hv,if_pos rfl,aPa,ih fuel (l++[ranks[i]]) (tF byes ranks[i]) s (by omega) hlen (λx h=>by
     rcases List.mem_append.1 h with h|h
     ·exact hn x h
     ·rw[List.mem_singleton.1 h];exact hx) hleft.1 hleft.2]
    cases qK y (lD p ranks k (l++[ranks[i]]) (tF byes ranks[i])) s with
    |none=>rfl
    | some r=>
     simp only[Option.bind_some];cases r.2 with
     |true=>exact ihq r.1 trivial
     |false=>rfl
  ·intro q s _;simp only[iY,Int.lt_irrefl,decide_false,cond_false,xR,List.drop_length,List.flatMap_nil,qK]
theorem aZu{S:Type}(y:S->List Int->Option (S×Bool))(s:S):sA y p ranks s=qK y (lD p ranks p.Size.toNat [] (p.Size-p.Persons.length)) s:=by
 have hsz:=fT hp;unfold sA;have hm:mk0 8 p.Size=some p.Size.toNat:=by
  unfold mk0;rw[if_pos ⟨by omega,by omega⟩]
 rw[bV hm,cD (n:=p.Size-p.Persons.length) (by omega) (by omega)];have:=bVw hp hr hrl y p.Size.toNat BIG [] (p.Size-p.Persons.length) s (bI (by omega)) (by simp;omega) (by simp) (by omega) (by omega);unfold aBb;rw[this];cases qK y (lD p ranks p.Size.toNat [] (p.Size-p.Persons.length)) s<;>rfl
end
end Go.Am
end
section
namespace Go.Am
theorem aKj{p:aQ}(hp:lN p=true){i:Nat}(hi:i<p.Persons.length):0<=(pp p i).Player/\(pp p i).Player<=999:=by
 simp only[lN,Bool.and_eq_true] at hp;have:=dL.1 hp.2.1 i hi;simp only[aJn,Bool.and_eq_true,gY] at this;exact this.1.1.1
theorem bFf{p:aQ}(hp:lN p=true){i j:Nat}(hi:i<p.Persons.length)(hj:j<p.Persons.length)(h:(pp p i).Player=(pp p j).Player):i=j:=by
 simp only[lN,Bool.and_eq_true] at hp;have key:∀a b:Nat,a<b->b<p.Persons.length->(pp p a).Player≠(pp p b).Player:=by
  intro a b hab hb he;have:=dL.1 hp.2.1 b hb;simp only[aJn,Bool.and_eq_true,Bool.not_eq_true'] at this;have h2:=this.2;rw[Bool.eq_false_iff] at h2;refine h2 (List.any_eq_true.2 ⟨p.Persons[a]'(by omega),?_,?_⟩)
  ·refine List.mem_of_getElem? (i:=a) ?_;rw[List.getElem?_take_of_lt hab,List.getElem?_eq_getElem (by omega)]
  ·rw[<-nY (by omega)];exact decide_eq_true he
 rcases Nat.lt_trichotomy i j with hl|rfl|hl
 ·exact absurd h (key i j hl hj)
 ·rfl
 ·exact absurd h.symm (key j i hl hi)
section
variable{p:aQ}(hp:lN p=true)
include hp
theorem shp:rK p=true:=by simp only[lN,Bool.and_eq_true] at hp;exact hp.1
theorem yR:∃ranks,lP p=some ranks/\(∀x∈ranks,Num p x)/\ranks.length<=9:=by
 have hsz:=fT (shp hp);have h1:lP p=oH p ((List.range p.Persons.length).map Int.ofNat):=by
  unfold lP;rw[dD (S:=List Int) (λk i o=>oI p.Persons.length p k i o) p.Persons.length (λ_ _=>oH p ((List.range p.Persons.length).map Int.ofNat)) (λi o=>o=(List.range i).map Int.ofNat) ?_ ?_ BIG [] (bI (by omega)) rfl]
  ·intro k i o hi ho ih;subst ho;simp only[oI,Int.ofNat_lt,hi,decide_true,cond_true,aZ (show i<9223372036854775807 by omega)];rw[bV (eE (by simp;omega))];refine ih _ ?_;rw[List.range_succ,List.map_append]
   rfl
  ·intro k o ho;subst ho;simp only[oI,Int.lt_irrefl,decide_false,cond_false]
 have hm:∀x∈(List.range p.Persons.length).map Int.ofNat,∃i,i<p.Persons.length/\x=(i:Int):=by
  intro x hx;obtain⟨i,hi,rfl⟩:=List.mem_map.1 hx;exact⟨i,by simpa using hi,rfl⟩
 have hc:∀i j:Nat,i<p.Persons.length->j<p.Persons.length->iH (i:Int) (j:Int) p=some ((pp p i).Player-(pp p j).Player):=by
  intro i j hi hj;have a:=aKj hp hi;have b:=aKj hp hj;unfold iH;rw[bV (aY hi),bV (aY hj),<-nY hi,<-nY hj,cD (by omega) (by omega)]
 have hlt:∀i j:Nat,i<p.Persons.length->j<p.Persons.length->ltO (λy5 y6=>iH y5 y6 p) (i:Int) (j:Int)=decide ((pp p i).Player<(pp p j).Player):=by
  intro i j hi hj;unfold ltO;simp only[hc i j hi hj]
  by_cases h:(pp p i).Player<(pp p j).Player
  ·rw[decide_eq_true h];exact decide_eq_true (by omega)
  ·rw[decide_eq_false h];exact decide_eq_false (by omega)
 have hok:aQv ((List.range p.Persons.length).map Int.ofNat) (λy5 y6=>iH y5 y6 p)=true:=by
  unfold aQv;simp only[List.all_eq_true,Bool.and_eq_true,Bool.or_eq_true,Bool.not_eq_true',decide_eq_true_eq];intro x hx;obtain⟨i,hi,rfl⟩:=hm x hx;refine⟨by rw[hlt i i hi hi];exact decide_eq_false (by omega),λy hy=>?_⟩;obtain⟨j,hj,rfl⟩:=hm y hy;refine⟨⟨by rw[hc i j hi hj];rfl,?_⟩,λz hz=>?_⟩
  ·rw[hlt i j hi hj,hlt j i hj hi,decide_eq_true_eq,decide_eq_true_eq]
   rcases Int.lt_trichotomy (pp p i).Player (pp p j).Player with h|h|h
   ·exact .inl (.inr h)
   ·exact .inl (.inl (by rw[bFf hp hi hj h]))
   ·exact .inr h
  ·obtain⟨q,hq,rfl⟩:=hm z hz;rw[hlt i j hi hj,hlt j q hj hq,hlt i q hi hq]
   constructor
   ·by_cases h1:(pp p i).Player<(pp p j).Player
    ·by_cases h2:(pp p j).Player<(pp p q).Player
     ·exact .inr (decide_eq_true (by omega))
     ·exact .inl (by simp[h2])
    ·exact .inl (by simp[h1])
   ·by_cases h1:(pp p i).Player<(pp p j).Player
    ·exact .inl (.inl (decide_eq_true h1))
    ·by_cases h2:(pp p j).Player<(pp p q).Player
     ·exact .inl (.inr (decide_eq_true h2))
     ·exact .inr (decide_eq_false (by omega))
 have hperm:(lQ (λy5 y6=>iH y5 y6 p) ((List.range p.Persons.length).map Int.ofNat)).Perm ((List.range p.Persons.length).map Int.ofNat):=List.mergeSort_perm _ _;refine⟨-1::lQ (λy5 y6=>iH y5 y6 p) ((List.range p.Persons.length).map Int.ofNat),?_,λx hx=>?_,?_⟩
 ·rw[h1,oH,rU,aXc,if_pos ⟨hok,by simp;omega⟩,Option.bind_some,bV (eE (by rw[hperm.length_eq];simp;omega))]
  rfl
 ·rcases List.mem_cons.1 hx with rfl|hx
  ·exact .inl rfl
  ·obtain⟨i,hi,rfl⟩:=hm x (hperm.mem_iff.1 hx);exact .inr ⟨by omega,by omega⟩
 ·rw[List.length_cons,hperm.length_eq];simp;omega
end
theorem aSg(p:aQ)(ranks:List Int)(h:ranks.length<=9):∀(k:Nat) (l:List Int) (b:Int),(lD p ranks k l b).length<=9^k
 |0,_,_=>by simp[lD]
 | k +1,l,b=>by
  have key:∀rs:List Int,(rs.flatMap λn=>if okN p l b n=true then lD p ranks k (l++[n]) (tF b n) else []).length<=rs.length*9^k:=by
   intro rs
   induction rs with
   |nil=>simp
   | cons n rs ih=>
    rw[List.flatMap_cons,List.length_append,List.length_cons,Nat.succ_mul];have:(if okN p l b n=true then lD p ranks k (l++[n]) (tF b n) else []).length<=9^k:=by
     split
     ·exact aSg p ranks h k _ _
     ·simp
    omega
  have h1:=key ranks;have h2:ranks.length*9^k<=9*9^k:=Nat.mul_le_mul_right _ h;rw[lD,Nat.pow_succ,Nat.mul_comm (9^k) 9]
  omega
theorem aVl:∀(xs:List (List Int)) (s:Nat),s+xs.length<=9223372036854775807->qK (λ(s5:Int) (_:List Int)=>some (w64 (s5+1),true)) xs (s:Int)=some (((s+xs.length:Nat):Int),true)
 |[],_,_=>rfl
 | x::xs,s,h=>by
  rw[List.length_cons] at h;simp only[qK,Option.bind_some,cond_true];rw[aZ (show s<9223372036854775807 by omega),aVl xs (s+1) (by omega),List.length_cons]
  congr 3
  omega
def plF(p:aQ)(n:Int):Int:=if n= -1 then-1 else(pn p n).Player
theorem bTg{p:aQ}{l:List Int}(hl:l.length<=100)(hn:∀x∈l,Num p x):sY p l=some (l.map (plF p)):=by
 unfold sY;rw[dD (S:=List Int) (λk i o=>mE l l.length p k i o) l.length (λ_ _=>some (l.map (plF p))) (λi o=>o=(l.take i).map (plF p)) ?_ ?_ BIG [] (bI (by omega)) rfl]
 ·intro k i o hi ho ih;subst ho;have ht:(l.take i).map (plF p)++[plF p l[i]]=(l.take (i+1)).map (plF p):=by rw[List.take_succ_eq_append_getElem hi,List.map_append];rfl
  have hlen:(((l.take i).map (plF p)).length+1)*8<=140737488355328:=by rw[List.length_map,List.length_take];omega
  simp only[mE,Int.ofNat_lt,hi,decide_true,cond_true,aZ (show i<9223372036854775807 by omega)];rw[bV (aY hi)]
  by_cases hb:l[i]= -1
  ·have hc:plF p l[i]= -1:=by rw[plF,if_pos hb]
   rw[hc] at ht;rw[decide_eq_true hb,cond_true,bV (eE (by simpa using hlen))];exact ih _ ht
  ·have hc:plF p l[i]=(pn p l[i]).Player:=by rw[plF,if_neg hb]
   rw[hc] at ht;rw[decide_eq_false hb,cond_false,bV ((hn _ (List.getElem_mem hi)).idx hb),bV (eE (by simpa using hlen))];exact ih _ ht
 ·intro k o ho;subst ho
  simp[mE,aCr]
theorem bAg{p:aQ}:∀(xs:List (List Int)) (n:Nat) (o:List Int×Bool),(∀l∈xs,l.length<=100/\∀x∈l,Num p x)->n<=9223372036854775807->
  ∃ q,qK (λ(s6:Int×List Int×Bool) (x7:List Int)=>bif decide (s6.1=0) then((sY p x7).bind λr8=>some ((s6.1,r8,true),false)) else(some ((w64 (s6.1-1),s6.2.1,s6.2.2),true))) xs ((n:Int),o)=
   some (match xs[n]? with|some l=>((0,l.map (plF p),true),false)|none=>((q,o),true))
 |[],n,o,_,_=>⟨n,by simp[qK]⟩
 | x::xs,0,o,h,_=>⟨0,by
  obtain⟨h1,h2⟩:=h x (by simp);simp only[qK,Int.natCast_zero,decide_true,cond_true];rw[bV (bTg h1 h2)]
  rfl⟩
 | x::xs,n+1,o,h,hn=>by
  obtain⟨q,hq⟩:=bAg (p:=p) xs n o (λl hl=>h l (List.mem_cons_of_mem _ hl)) (by omega);have hz:decide (((n+1:Nat):Int)=0)=false:=decide_eq_false (by omega);refine⟨q,?_⟩;simp only[qK,hz,cond_false,Option.bind_some,cond_true];rw[rN (show 0<n+1 by omega) hn]
  simpa using hq
end Go.Am
end
section
namespace Go.Am
def sT(p:aQ):List (List Int):=match lP p with
 |some ranks=>lD p ranks p.Size.toNat [] (p.Size-p.Persons.length)
 |none=>[]
structure PreL(p:aQ)(l:List Int)(b:Int):Prop where
 num:∀x∈l,Num p x
 nd:∀i j,i<j->j<l.length->l.getD i 0=l.getD j 0->l.getD j 0= -1
 seat:∀i,i<l.length->aFw p i (l.getD i 0)=true
 pair:∀j,2*j+1<l.length->aDm p (l.getD (2*j) 0) (l.getD (2*j+1) 0)=true
 byes:(l.count (-1):Int)+b=p.Size-p.Persons.length
 left:0<=b
theorem pF{l:List Int}{n:Int}{i:Nat}(h:i<l.length):(l++[n]).getD i 0=l.getD i 0:=by
 rw[List.getD,List.getD,List.getElem?_append_left h]
theorem aBh(l:List Int)(n:Int):(l++[n]).getD l.length 0=n:=by
 rw[List.getD,List.getElem?_append_right (Nat.le_refl _),Nat.sub_self];rfl
theorem PreL.next{p:aQ}{l:List Int}{b n:Int}(h:PreL p l b)(hn:Num p n)(hok:okN p l b n=true):PreL p (l++[n]) (tF b n):=by
 unfold okN at hok;simp only[Bool.not_eq_true',Bool.or_eq_false_iff,decide_eq_false_iff_not,Bool.and_eq_false_iff,Bool.not_eq_false'] at hok;obtain⟨⟨⟨h1,h2⟩,h3⟩,h4⟩:=hok;refine⟨λx hx=>?_,λi j hij hj he=>?_,λi hi=>?_,λj hj=>?_,?_,?_⟩
 ·rcases List.mem_append.1 hx with hx|hx
  ·exact h.num x hx
  ·rw[List.mem_singleton.1 hx];exact hn
 ·rw[List.length_append,List.length_singleton] at hj
  rcases Nat.lt_or_ge j l.length with hjl|hjl
  ·rw[pF (by omega),pF hjl] at he;rw[pF hjl];exact h.nd i j hij hjl he
  ·have:j=l.length:=by omega
   subst this;rw[aBh,pF hij,aW hij] at he;rw[aBh]
   rcases h2 with h2|h2
   ·exact of_decide_eq_true h2
   ·exact absurd (he▸List.getElem_mem hij) h2
 ·rw[List.length_append,List.length_singleton] at hi
  rcases Nat.lt_or_ge i l.length with hil|hil
  ·rw[pF hil];exact h.seat i hil
  ·have:i=l.length:=by omega
   subst this;rw[aBh];exact h3
 ·rw[List.length_append,List.length_singleton] at hj
  rcases Nat.lt_or_ge (2*j+1) l.length with hjl|hjl
  ·rw[pF (by omega),pF hjl];exact h.pair j hjl
  ·have e:2*j+1=l.length:=by omega
   have e2:2*j=l.length-1:=by omega
   rw[pF (by omega),e,aBh,e2]
   rcases h4 with h4|h4
   ·exact absurd (by omega:l.length % 2=1) h4
   ·exact h4
 ·rw[List.count_append,<-h.byes];unfold tF
  split
  ·rename_i hb
   subst hb
   simp
   omega
  ·rename_i hb
   rw[List.count_singleton];have:(n==(-1:Int))=false:=by simpa using hb
   rw[this]
   simp
 ·unfold tF;exact Int.not_lt.1 h1
theorem aSh{p:aQ}{ranks:List Int}(hr:∀x∈ranks,Num p x):∀(k:Nat) (l:List Int) (b:Int),PreL p l b->∀l'∈lD p ranks k l b,l'.length=l.length+k/\∃b',PreL p l' b'
 | 0,l,b,h,l',hl=>by
  rw[lD,List.mem_singleton] at hl;subst hl;exact⟨rfl,b,h⟩
 | k+1,l,b,h,l',hl=>by
  rw[lD,List.mem_flatMap] at hl;obtain⟨n,hn,hl⟩:=hl;split at hl
  ·rename_i hok
   obtain⟨h1,h2⟩:=aSh hr k _ _ (h.next (hr n hn) hok) l' hl;exact⟨by rw[h1,List.length_append,List.length_singleton];omega,h2⟩
  ·cases hl
structure aOd(p:aQ)(l:List Int):Prop where
 len:(l.length:Int)=p.Size
 num:∀x∈l,Num p x
 nd:∀i j,i<j->j<l.length->l.getD i 0=l.getD j 0->l.getD j 0= -1
 seat:∀i,i<l.length->aFw p i (l.getD i 0)=true
 pair:∀j,2*j+1<l.length->aDm p (l.getD (2*j) 0) (l.getD (2*j+1) 0)=true
 byes:(l.count (-1):Int)<=p.Size-p.Persons.length
section
variable{p:aQ}(hp:lN p=true)
include hp
theorem aLd{l:List Int}(h:l∈sT p):aOd p l:=by
 obtain⟨ranks,hd,hr,_⟩:=yR hp;have hsz:=fT (shp hp);unfold sT at h;rw[hd] at h;obtain⟨h1,b,h2⟩:=aSh hr p.Size.toNat [] (p.Size-p.Persons.length) ⟨by simp,by simp,by simp,by simp,by simp,by omega⟩ l h;refine⟨by rw[h1];simp;omega,h2.num,h2.nd,h2.seat,h2.pair,?_⟩;have a:=h2.byes;have b:=h2.left
 omega
theorem bCt:(sT p).length<=43046721:=by
 obtain⟨ranks,hd,_,hl⟩:=yR hp;have hsz:=fT (shp hp);unfold sT;rw[hd];have h1:=aSg p ranks hl p.Size.toNat [] (p.Size-p.Persons.length);have h2:9^p.Size.toNat<=9^8:=Nat.pow_le_pow_right (by decide) (by omega);have h3:(9^8:Nat)=43046721:=by decide
 simp only
 omega
theorem bQu:sX p=some (((sT p).length:Int),0):=by
 obtain⟨ranks,hd,hr,hl⟩:=yR hp;have hlen:=bCt hp;have hc:vR p=some 0:=by rw[aXx,if_pos hp]
 have hA:sT p=lD p ranks p.Size.toNat [] (p.Size-p.Persons.length):=by unfold sT;rw[hd]
 have hf:=aVl (sT p) 0 (by omega);rw[Nat.zero_add] at hf;have h2:=aZu (shp hp) hr (by omega) (λ(s5:Int) (_:List Int)=>some (w64 (s5+1),true)) 0;rw[<-hA] at h2;unfold sX;rw[bV hc];simp only[decide_true,Bool.not_true,cond_false];rw[bV hd,bV (h2.trans hf)]
 rfl
theorem bWd(n:Nat)(hn:n<=9223372036854775807):vD p n=some (match(sT p)[n]? with|some l=>(l.map (plF p),true)|none=>([],false)):=by
 obtain⟨ranks,hd,hr,hl⟩:=yR hp;have hA:sT p=lD p ranks p.Size.toNat [] (p.Size-p.Persons.length):=by unfold sT;rw[hd]
 have hsz:=fT (shp hp);obtain⟨q,hf⟩:=bAg (p:=p) (sT p) n ([],false) (λl h=>⟨by have:=(aLd hp h).len;omega,(aLd hp h).num⟩) hn;have h2:=aZu (shp hp) hr (by omega) (λ(s6:Int×List Int×Bool) (x7:List Int)=>bif decide (s6.1=0) then((sY p x7).bind λr8=>some ((s6.1,r8,true),false)) else(some ((w64 (s6.1-1),s6.2.1,s6.2.2),true))) ((n:Int),([],false));rw[<-hA] at h2;unfold vD;rw[bV hd,bV (h2.trans hf)];cases(sT p)[n]?<;>rfl
theorem bNi(many:Int):∃s:Nat,s<=100000000/\kY many p.Lots p.Lots.length p BIG 0 0=qB many s p:=by
 have hsz:=fT (shp hp);have hlots:∀x∈p.Lots,0<=x/\x<=999999:=by
  simp only[lN,Bool.and_eq_true,List.all_eq_true,gY] at hp;exact hp.2.2
 have:=iZ (S:=Int) (λk i s=>kY many p.Lots p.Lots.length p k s i) p.Lots.length (λo=>∃s:Nat,s<=100000000/\o=qB many s p) (λi s=>i<=p.Lots.length/\0<=s/\s<=999999*i) (λk i s hi hI ih=>?_) (λk i s h5 h6=>?_) BIG 0 0 (bI (by omega)) ⟨Nat.zero_le _,by omega,by omega⟩
 ·exact this
 ·have hx:=hlots _ (List.getElem_mem hi);simp only[kY,Int.ofNat_lt,hi,decide_true,cond_true,aZ (show i<9223372036854775807 by omega)];rw[bV (aY hi),cD (n:=s+p.Lots[i]) (by omega) (by omega)];exact ih (s+p.Lots[i]) ⟨by omega,by omega,by omega⟩
 ·have:i=p.Lots.length:=by omega
  subst this;simp only[kY,Int.lt_irrefl,decide_false,cond_false];exact⟨s.toNat,by omega,by rw[Int.toNat_of_nonneg h6.2.1]⟩
theorem bUv:oR p=some ([],3)\/∃l∈sT p,oR p=some (l.map (plF p),0):=by
 have hlen:=bCt hp;unfold oR;rw[bV (bQu hp)];simp only[decide_true,Bool.not_true,cond_false]
 by_cases h0:((sT p).length:Int)=0
 ·rw[decide_eq_true h0,cond_true];exact .inl rfl
 ·rw[decide_eq_false h0,cond_false];obtain⟨s,hs,e⟩:=bNi hp ((sT p).length:Int);rw[e];unfold qB;have hchk:chk (!decide (((sT p).length:Int)=0))=some ():=by rw[decide_eq_false h0];rfl
  have hm:(s:Int).tmod ((sT p).length:Int)=((s %(sT p).length:Nat):Int):=rfl;have hlt:s %(sT p).length<(sT p).length:=Nat.mod_lt _ (by omega);rw[bV hchk,hm,bV (bWd hp _ (by omega)),List.getElem?_eq_getElem hlt];exact .inr ⟨_,List.getElem_mem hlt,rfl⟩
end
end Go.Am
end
