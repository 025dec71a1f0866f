/- Several texts, one behind the other. -/
import Derived.Test.YtammglnfelkbpaaGreatDoorRgSh
import Derived.Test.YtammglnfelkbpaaGreatDoorAmPlain
import Derived.KernelRfl
section
namespace Go.Am
theorem aBf{α β:Type}[DecidableEq α](a b:α)(z v:β):∀l:List (α×β),bW b z (dE a v l)=if b=a then v else bW b z l
 |[]=>by by_cases h:b=a<;>simp[dE,bW,h]
 | (k,u)::l=>by
  by_cases h1:a=k
  ·subst h1
   by_cases h2:b=a
   ·simp[dE,bW,h2]
   ·simp[dE,bW,h2]
  ·by_cases h2:b=k
   ·subst h2
    simp[dE,bW,h1,aF9 h1]
   ·simp[dE,bW,h1,h2,aBf a b z v l]
def wi(n lo hi:Int):Bool:=decide (lo<=n)&&decide (n<=hi)
theorem kS{n lo hi:Int}:wi n lo hi=true↔lo<=n/\n<=hi:=by simp[wi]
theorem aBt(n lo hi:Int):iA n lo hi=some (wi n lo hi):=by simp[iA,dA,wi]
theorem aCw(n lo hi:Int):fI n lo hi=some (wi n lo hi):=by simp[fI,dA,wi]
theorem bC{α:Type}{l:List α}{i:Nat}(h:i<l.length)(d:α):l.getD i d=l[i]:=by simp[List.getD,h]
structure TreeOK(t:aD):Prop where
 r1:1<=t.Rounds
 r5:t.Rounds<=5
 len:t.Slots.length=2^t.Rounds.toNat
 rng:∀i (h:i<t.Slots.length),-1<=t.Slots[i]/\t.Slots[i]<=999
 bye:∀j (h:2*j+1<t.Slots.length),t.Slots[2*j]= -1->t.Slots[2*j+1]≠-1
 dup:∀i (h:i<t.Slots.length) k (hk:k<i),t.Slots[k]=t.Slots[i]->t.Slots[i]= -1
theorem TreeOK.len32{t:aD}(h:TreeOK t):t.Slots.length<=32:=by
 rw[h.len];have h1:=h.r1;have h5:=h.r5;have:t.Rounds.toNat<=5:=by omega
 exact aE5 (by omega) this
theorem cMn:∀i:Fin 32,bBk ((i.val:Nat):Int) 1=((if i.val % 2=0 then i.val+1 else i.val-1:Nat):Int):=by decide+kernel
theorem bRy:∀r:Fin 6,w64 (1*2^(min r.val 64))=((2^r.val:Nat):Int):=by decide+kernel
theorem aLd{n:Int}(h0:0<=n)(h:n<=9223372036854775807):IntKind.u64.wrap n=n:=by
 simp[IntKind.wrap,IntKind.signed,IntKind.bits]
 omega
def rF(t:aD):Bool:=wi t.Rounds 1 5&&decide (t.Slots.length=2^t.Rounds.toNat)
theorem bWx{t:aD}(h:wi t.Rounds 1 5=true):w64 (1*2^(min t.Rounds.toNat 64))=((2^t.Rounds.toNat:Nat):Int):=by
 rw[kS] at h;have:=bRy ⟨t.Rounds.toNat,by omega⟩
 simpa using this
def aOe(S:List Int)(i:Nat):Bool:=
 if S.getD i 0= -1 then !decide (S.getD (if i % 2=0 then i+1 else i-1) 0= -1) else !decide (S.getD i 0∈S.take i)&&wi (S.getD i 0) 0 999
def aOf(S:List Int)(i:Nat):Bool:=
 wi (S.getD i 0) (-1) 999&&!(decide (i % 2=1)&&decide (S.getD i 0= -1)&&decide (S.getD (i-1) 0= -1))&&((List.range i).all λk=>!(decide (S.getD k 0=S.getD i 0)&&!decide (S.getD i 0= -1)))
theorem aPf{t:aD}(h:rF t=true):t.Slots.length<=32/\t.Slots.length % 2=0:=by
 simp only[rF,f4,kS,l9] at h;obtain⟨⟨h1,h2⟩,h3⟩:=h;have key:∀r:Fin 6,1<=r.val->2^r.val<=32/\2^r.val % 2=0:=by decide+kernel
 have:=key ⟨t.Rounds.toNat,by omega⟩ (by simp;omega);rw[h3];exact this
theorem cAq(t:aD):tQ t=some (rF t&&(List.range t.Slots.length).all (aOe t.Slots)):=by
 unfold tQ;rw[aBt];cases hw:wi t.Rounds 1 5 with
 |false=>simp[rF,hw]
 | true =>
  have hr:=kS.1 hw;have hch:chk (decide (0<=t.Rounds))=some ():=by unfold chk;rw[n7 (by omega)];rfl
  simp only[c6,l8,g6,hch,bWx hw]
  by_cases hl:t.Slots.length=2^t.Rounds.toNat
  ·have hsh:rF t=true:=by simp[rF,hw,hl]
   obtain⟨h32,hev⟩:=aPf hsh;have hl':decide ((t.Slots.length:Int)=((2^t.Rounds.toNat:Nat):Int))=true:=n7 (by rw[hl]);rw[hl',hsh];simp only[l8,g6,w9];have main:=eX (S:=List (Int×Int)) (λk i m=>lD t.Slots t.Slots.length t k i m) t.Slots.length (λi _=>some ((List.range' i (t.Slots.length-i)).all (aOe t.Slots)))
    (λi m=>∀x,x≠-1->bW x 0 m=if x∈t.Slots.take i then 1 else 0) ?_ ?_ BIG [] (cB (by omega)) (by simp[bW])
   ·simpa[List.range_eq_range'] using main
   ·intro k i m hi hI ih;have hx:=cMn ⟨i,by omega⟩;simp only at hx;have e:t.Slots.length-i=(t.Slots.length-(i+1))+1:=by omega
    rw[e,List.range'_succ,aA9];have hm:∀x,x∈t.Slots.take (i+1)↔x∈t.Slots.take i\/x=t.Slots[i]:=by
     intro x;rw[p6 hi,i6,l7]
    simp only[lD,m6,hi,j4,i7,bI hi,c6,bF (show i<9223372036854775807 by omega),aOe,bC hi]
    by_cases hb:t.Slots[i]= -1
    ·have hj:(if i % 2=0 then i+1 else i-1)<t.Slots.length:=by split<;>omega
     simp only[hb,j4,i7,hx,aF2,bI hj,c6,bC hj]
     by_cases hc:t.Slots[if i % 2=0 then i+1 else i-1]= -1
     ·simp[hc]
     ·simp only[hc,m5,g6,n8,w9];refine ih m λx hxn=>?_;rw[hI x hxn];have:(x∈t.Slots.take (i+1))↔(x∈t.Slots.take i):=by
       rw[hm x]
       constructor
       ·rintro(h|h)
        ·exact h
        ·rw[hb] at h;exact absurd h hxn
       ·exact .inl
      simp[this]
    ·have hcnt:=hI t.Slots[i] hb;simp only[hb,m5,g6,aB8];rw[aBf];simp only[aF2,hcnt]
     by_cases hd:t.Slots[i]∈t.Slots.take i
     ·have:w64 2=2:=by decide+kernel
      simp[hd,this]
     ·have h1:w64 (0+1)=1:=by decide+kernel
      simp only[hd,aB8,h1,aBt,c6,show decide ((1:Int)<1)=false by decide,g6,m5,n8,w9];cases hwi:wi t.Slots[i] 0 999 with
      |false=>simp
      | true=>
       simp only[l8,g6,w9];refine ih _ λx hxn=>?_;rw[aBf,hI x hxn]
       by_cases hxe:x=t.Slots[i]
       ·simp[hxe,hm]
       ·simp[hxe,hm]
   ·intro k m _
    simp[lD,aGy]
  ·have hl':decide ((t.Slots.length:Int)=((2^t.Rounds.toNat:Nat):Int))=false:=j6 (by omega);rw[hl']
   simp[rF,hl]
theorem cAr(t:aD):qA t=some (rF t&&(List.range t.Slots.length).all (aOf t.Slots)):=by
 unfold qA;rw[aCw];cases hw:wi t.Rounds 1 5 with
 |false=>simp[rF,hw]
 | true=>
  have hr:=kS.1 hw;have hu:IntKind.u64.wrap t.Rounds=t.Rounds:=aLd (by omega) (by omega);have hch:chk (decide (0<=t.Rounds))=some ():=by unfold chk;rw[n7 (by omega)];rfl
  simp only[c6,l8,g6,hu,hch,bWx hw]
  by_cases hl:t.Slots.length=2^t.Rounds.toNat
  ·have hsh:rF t=true:=by simp[rF,hw,hl]
   obtain⟨h32,hev⟩:=aPf hsh;have hl':decide ((t.Slots.length:Int)=((2^t.Rounds.toNat:Nat):Int))=true:=n7 (by rw[hl]);rw[hl',hsh];simp only[l8,g6,w9];have main:=gR (λk i=>kW t k i) t.Slots.length (aOf t.Slots) (some false) (some true) ?_ ?_ BIG (cB (by omega))
   ·rw[main];cases(List.range t.Slots.length).all (aOf t.Slots)<;>rfl
   ·intro k i hi;have hin:∀ag:Int->Option Bool,iT ag i t BIG 0=bif (List.range i).all λk=>!(decide (t.Slots.getD k 0=t.Slots.getD i 0)&&!decide (t.Slots.getD i 0= -1)) then ag ((i+1:Nat):Int) else some false:=by
     intro ag;refine gR (λk j=>iT ag i t k j) i _ (some false) (ag ((i+1:Nat):Int)) ?_ ?_ BIG (cB (by omega))
     ·intro k j hj;have hj':j<t.Slots.length:=by omega
      simp only[iT,m6,hj,j4,i7,bI hj',bI hi,c6,dA,bF (show j<9223372036854775807 by omega),bC hj',bC hi];cases(decide (t.Slots[j]=t.Slots[i])&&!decide (t.Slots[i]= -1))<;>simp
     ·intro k
      simp[iT,aCb,aCa,bF (show i<9223372036854775807 by omega)]
    have htm:decide (((i:Nat):Int).tmod 2=1)=decide (i % 2=1):=by
     have:((i:Nat):Int).tmod 2=((i % 2:Nat):Int):=by
      rw[Int.tmod_eq_emod_of_nonneg (by omega)];omega
     rw[this]
     simp
     omega
    simp only[kW,m6,hi,j4,i7,bI hi,c6,aCw,htm,dA,hin,aOf,bC hi];cases hwi:wi t.Slots[i] (-1) 999 with
    |false=>simp
    | true=>
     by_cases ho:i % 2=1
     ·have hp:i-1<t.Slots.length:=by omega
      have hwp:w64 ((i:Int)-1)=((i-1:Nat):Int):=aEy (by omega) (by omega);simp only[ho,j4,w9,hwp,bI hp,c6,dA,l8,g6,bC hp];cases(decide (t.Slots[i]= -1)&&decide (t.Slots[i-1]= -1))<;>simp
     ·simp[ho]
   ·intro k
    simp[kW,aBz]
  ·have hl':decide ((t.Slots.length:Int)=((2^t.Rounds.toNat:Nat):Int))=false:=j6 (by omega);rw[hl']
   simp[rF,hl]
theorem aIl(l:List Int)(hl:l.length<=9223372036854775807)(v:Int):iY l v=some (match l.findIdx? (λx=>decide (v=x)) with|some i=>(i:Int)|none=> -1):=by
 unfold iY;rw[eX (S:=Unit) (λk i _=>fX l v l.length k i) l.length (λi _=>some (match(l.drop i).findIdx? (λx=>decide (v=x)) with|some j=>((i+j:Nat):Int)|none=> -1)) (λ_ _=>True) ?_ ?_ BIG () (cB hl) trivial]
 ·simp
 ·intro k i _ hi _ ih;have:=ih () trivial;simp only[fX,bI hi,c6,bF (show i<9223372036854775807 by omega),m6,hi,j4,i7,this];rw[v6 hi,aF5]
  by_cases h:v=l[i]
  ·simp[h]
  ·simp only[h,m5,g6,aB5,aB8];cases List.findIdx? (λx=>decide (v=x)) (List.drop (i+1) l) with
   |none=>rfl
   |some j=>simp;omega
 ·intro k _ _
  simp[fX,wL]
theorem jS(l:List Int)(hl:l.length<=9223372036854775807)(v:Int):cJ l v=some (decide (v∈l)):=by
 unfold cJ;rw[aIl l hl v];cases h:List.findIdx? (λx=>decide (v=x)) l with
 | none=>
  simp at h
  have:v∉l:=λhm=>h v hm rfl
  simp[this]
 | some j=>
  have:v∈l:=by
   obtain⟨h1,h2,_⟩:=aA0.1 h
   simp at h2
   rw[h2];exact j9 h1
  simp[this]
theorem uT(l:List aA)(hl:l.length<=9223372036854775807)(f:aA->Option Bool)(g:aA->Bool)(hf:∀x∈l,f x=some (g x)):iF l f=some (l.any g):=by
 have key:jV l f=some (match l.findIdx? g with|some i=>(i:Int)|none=> -1):=by
  unfold jV;rw[eX (S:=Unit) (λk i _=>eN l f l.length k i) l.length (λi _=>some (match(l.drop i).findIdx? g with|some j=>((i+j:Nat):Int)|none=> -1)) (λ_ _=>True) ?_ ?_ BIG () (cB hl) trivial]
  ·simp
  ·intro k i _ hi _ ih;have:=ih () trivial;simp only[eN,bI hi,c6,bF (show i<9223372036854775807 by omega),m6,hi,j4,i7,this,hf _ (j9 hi)];rw[v6 hi,aF5];cases h:g l[i] with
   |true=>simp
   | false=>
    simp only[g6,aB5,aB8];cases List.findIdx? g (List.drop (i+1) l) with
    |none=>rfl
    |some j=>simp;omega
  ·intro k _ _
   simp[eN,oH]
 unfold iF;rw[key];cases h:List.findIdx? g l with
 | none=>
  simp at h
  have:l.any g=false:=by simpa using h
  simp[this]
 | some j=>
  have:l.any g=true:=by
   obtain⟨h1,h2,_⟩:=aA0.1 h;simp only[aG7];exact⟨_,j9 h1,h2⟩
  simp[this]
end Go.Am
end
section
namespace Go.Am
structure aHy(S:List Int):Prop where
 rng:∀i (h:i<S.length),-1<=S[i]/\S[i]<=999
 bye:∀j (h:2*j+1<S.length),S[2*j]= -1->S[2*j+1]≠-1
 dup:∀i (h:i<S.length) k (hk:k<i),S[k]=S[i]->S[i]= -1
theorem bGs{S:List Int}(hev:S.length % 2=0):(List.range S.length).all (aOe S)=true↔aHy S:=by
 rw[gP]
 constructor
 ·intro h;have hd:∀i (hi:i<S.length),(if S[i]= -1 then !decide (S.getD (if i % 2=0 then i+1 else i-1) 0= -1) else !decide (S[i]∈S.take i)&&wi S[i] 0 999)=true:=by
   intro i hi;have:=h i hi
   simpa only[aOe,bC hi] using this
  refine⟨λi hi=>?_,λj hj hb=>?_,λi hi k hk he=>?_⟩
  ·have:=hd i hi;split at this
   ·rename_i hb;omega
   ·rw[f4,kS] at this;omega
  ·have:=hd (2*j) (by omega);rw[if_pos hb,if_pos (by omega),bC hj] at this
   simpa using this
  ·have:=hd i hi
   by_cases hb:S[i]= -1
   ·exact hb
   ·rw[if_neg hb,f4] at this;have hm:S[i]∈S.take i:=by
     rw[<-he,y9];exact⟨k,by omega,rfl⟩
    simp[hm] at this
 ·intro h i hi;simp only[aOe,bC hi]
  by_cases hb:S[i]= -1
  ·rw[if_pos hb]
   by_cases he:i % 2=0
   ·rw[if_pos he];obtain⟨j,rfl⟩:∃j,i=2*j:=⟨i/2,by omega⟩;rw[bC (by omega)];have:=h.bye j (by omega) hb
    simpa using this
   ·rw[if_neg he];obtain⟨j,rfl⟩:∃j,i=2*j+1:=⟨i/2,by omega⟩;have e:2*j+1-1=2*j:=by omega
    rw[e,bC (by omega)];have:=h.bye j hi;simp only[l6,n9];intro hc;exact this hc hb
  ·rw[if_neg hb,f4,kS];refine⟨?_,?_⟩
   ·simp only[l6,n9];intro hm;rw[y9] at hm;obtain⟨k,hk,he⟩:=hm;exact hb (h.dup i hi k (by omega) he)
   ·have:=h.rng i hi;omega
theorem bYo{S:List Int}(hev:S.length % 2=0):(List.range S.length).all (aOf S)=true↔aHy S:=by
 rw[gP]
 constructor
 ·intro h;have hd:∀i (hi:i<S.length),(wi S[i] (-1) 999=true/\¬(i % 2=1/\S[i]= -1/\S.getD (i-1) 0= -1))/\∀k,k<i->¬(S.getD k 0=S[i]/\S[i]≠-1):=by
   intro i hi;have:=h i hi;simp only[aOf,bC hi,f4,gP,l6,aF6,n9,Bool.not_eq_false',l9] at this;refine⟨⟨this.1.1,λ⟨a,b,c⟩=>?_⟩,λk hk ⟨a,b⟩=>?_⟩
   ·rcases this.1.2 with(h1|h1)|h1
    ·exact h1 a
    ·exact h1 b
    ·exact h1 c
   ·rcases this.2 k hk with h1|h1
    ·exact h1 a
    ·exact b h1
  refine⟨λi hi=>kS.1 (hd i hi).1.1,λj hj hb hc=>?_,λi hi k hk he=>?_⟩
  ·refine(hd (2*j+1) hj).1.2 ⟨by omega,hc,?_⟩;have e:2*j+1-1=2*j:=by omega
   rw[e,bC (by omega)];exact hb
  ·have:=(hd i hi).2 k hk;rw[bC (by omega)] at this
   by_cases hb:S[i]= -1
   ·exact hb
   ·exact absurd ⟨he,hb⟩ this
 ·intro h i hi;simp only[aOf,bC hi,f4,gP,l6,aF6,n9,Bool.not_eq_false',l9];refine⟨⟨kS.2 (h.rng i hi),?_⟩,λk hk=>?_⟩
  ·by_cases ho:i % 2=1
   ·obtain⟨j,rfl⟩:∃j,i=2*j+1:=⟨i/2,by omega⟩;have e:2*j+1-1=2*j:=by omega
    rw[e,bC (by omega)]
    by_cases hc:S[2*j]= -1
    ·exact .inl (.inr (h.bye j hi hc))
    ·exact .inr hc
   ·exact .inl (.inl ho)
  ·rw[bC (by omega)]
   by_cases he:S[k]=S[i]
   ·exact .inr (h.dup i hi k hk he)
   ·exact .inl he
def aFk(t:aD):Bool:=rF t&&(List.range t.Slots.length).all (aOe t.Slots)
theorem bEh(t:aD):tQ t=some (aFk t):=cAq t
theorem bDh(t:aD):qA t=some (aFk t):=by
 rw[cAr,aFk];cases hs:rF t with
 |false=>rfl
 | true=>
  obtain⟨_,hev⟩:=aPf hs
  congr 1
  rw[w9,w9,aB4,bGs hev,bYo hev]
theorem wY{t:aD}(h:aFk t=true):TreeOK t:=by
 rw[aFk,f4] at h;obtain⟨hs,ha⟩:=h;obtain⟨_,hev⟩:=aPf hs;obtain⟨h1,h2,h3⟩:=(bGs hev).1 ha;simp only[rF,f4,kS,l9] at hs;exact⟨hs.1.1,hs.1.2,hs.2,h1,h2,h3⟩
def bM(t:aD)(r:Int):Nat:=2^(t.Rounds.toNat-1-r.toNat)
def iZ(t:aD)(r p:Int):Bool:=wi r 0 (t.Rounds-1)&&wi p 0 (bM t r-1)
def fG(t:aD)(s:aA):Bool:=
 wi s.Player 0 999&&(if s.Kind=5 then decide (s.Round=0)&&wi s.Place 0 (t.Slots.length-1)&&wi s.Old 0 999
  else wi s.Kind 1 4&&iZ t s.Round s.Place&&decide (s.Old=0)&&(decide (0<s.Round)||!decide (t.Slots.getD (2*s.Place).toNat 0= -1)&&!decide (t.Slots.getD (2*s.Place+1).toNat 0= -1)))
theorem cHv:∀R:Fin 6,∀r:Fin 6,r.val<R.val->((2^R.val:Nat):Int).fdiv (2^(min (r.val+1) 64))=((2^(R.val-1-r.val):Nat):Int):=by decide+kernel
theorem bRv:∀n:Fin 6,w64 (1*2^(min n.val 64))=((2^n.val:Nat):Int):=by decide+kernel
section
variable{t:aD}(ht:TreeOK t)
include ht
theorem cGj:(t.Slots.length:Int)=((2^t.Rounds.toNat:Nat):Int):=by rw[ht.len]
theorem bOp{r:Int}(h0:0<=r)(h1:r<t.Rounds):(t.Slots.length:Int).fdiv (2^(min (w64 (r+1)).toNat 64))=((bM t r:Nat):Int):=by
 have h5:=ht.r5;have hw:w64 (r+1)=r+1:=cV (by omega) (by omega);have:=cHv ⟨t.Rounds.toNat,by omega⟩ ⟨r.toNat,by omega⟩ (by simp;omega);rw[hw,cGj ht];have e:(r+1).toNat=r.toNat+1:=by omega
 rw[e];exact this
theorem qP{r:Int}:bM t r<=16:=by
 have h5:=ht.r5;have:t.Rounds.toNat-1-r.toNat<=4:=by omega
 exact aE5 (by omega) this
omit ht in
theorem aZw{t:aD}{r:Int}:1<=bM t r:=Nat.one_le_two_pow
theorem cDy(r p:Int):qY ⟨r,p⟩ t=some (iZ t r p):=by
 have h1:=ht.r1;have h5:=ht.r5;have hw:w64 (t.Rounds-1)=t.Rounds-1:=cV (by omega) (by omega);unfold qY;simp only[aBt,hw,c6,iZ];cases hr:wi r 0 (t.Rounds-1) with
 |false=>simp
 | true=>
  have hr':=kS.1 hr;have hch:chk (decide (0<=w64 (r+1)))=some ():=by
   rw[cV (by omega) (by omega)];unfold chk;rw[n7 (by omega)];rfl
  have hpl:=qP ht (r:=r);have hpp:=aZw (t:=t) (r:=r);have hw2:w64 ((bM t r:Int)-1)=(bM t r:Int)-1:=cV (by omega) (by omega);simp only[hch,c6,i7,bOp ht hr'.1 (by omega),hw2,w9]
theorem aKd{r:Int}(h0:0<=r)(h1:r<t.Rounds):lF t r=some ((bM t r:Nat):Int):=by
 have h5:=ht.r5;have hw:w64 (t.Rounds-1)=t.Rounds-1:=cV (by omega) (by omega);have hw2:w64 (t.Rounds-1-r)=t.Rounds-1-r:=cV (by omega) (by omega);have hu:IntKind.u64.wrap (t.Rounds-1-r)=t.Rounds-1-r:=aLd (by omega) (by omega);have hch:chk (decide (0<=t.Rounds-1-r))=some ():=by unfold chk;rw[n7 (by omega)];rfl
 unfold lF;simp only[hw,hw2,hu,hch,c6];have:=bRv ⟨(t.Rounds-1-r).toNat,by omega⟩;simp only at this;rw[this];unfold bM;have e:(t.Rounds-1-r).toNat=t.Rounds.toNat-1-r.toNat:=by omega
 rw[e]
theorem aXm(r p:Int):oP t r p=some (iZ t r p):=by
 have h1:=ht.r1;have h5:=ht.r5;have hw:w64 (t.Rounds-1)=t.Rounds-1:=cV (by omega) (by omega);unfold oP;simp only[aCw,hw,c6,iZ];cases hr:wi r 0 (t.Rounds-1) with
 |false=>simp
 | true=>
  have hr':=kS.1 hr;have hpl:=qP ht (r:=r);have hpp:=aZw (t:=t) (r:=r);have hw2:w64 ((bM t r:Int)-1)=(bM t r:Int)-1:=cV (by omega) (by omega);simp only[i7,aKd ht hr'.1 (by omega),c6,hw2,w9]
theorem aVg{p:Int}(h:iZ t 0 p=true):0<=p/\(2*p+1).toNat<t.Slots.length/\p<=15:=by
 simp only[iZ,f4,kS] at h;have hl:=ht.len;have h1:=ht.r1;have hpl:=qP ht (r:=0);have e:2^t.Rounds.toNat=2*bM t 0:=by
  unfold bM;have:t.Rounds.toNat=(t.Rounds.toNat-1-(0:Int).toNat)+1:=by simp;omega
  rw[this,aH7]
  simp
  omega
 omega
theorem aRt(s:aA):yK t s=some (fG t s):=by
 have h32:=ht.len32;have hw:w64 ((t.Slots.length:Int)-1)=(t.Slots.length:Int)-1:=cV (by omega) (by omega);unfold yK fG;simp only[aBt,c6,hw];cases hp:wi s.Player 0 999 with
 |false=>simp
 | true =>
  by_cases hk:s.Kind=5
  ·simp only[hk,j4,i7,aF2,l8,g6,w9,dA,c6]
  ·simp only[hk,m5,g6,aB8,l8,w9,jG,c6,cDy ht];cases wi s.Kind 1 4 with
   |false=>simp
   | true =>
    by_cases ho:s.Old=0
    ·simp only[ho,j4,l8,Bool.or_false,g6,c6,w9,Bool.and_true];cases hm:iZ t s.Round s.Place with
     |false=>simp
     | true=>
      simp only[l8,g6,w9]
      by_cases hr:0<s.Round
      ·simp[hr]
      ·have hm0:s.Round=0:=by
        simp only[iZ,f4,kS] at hm
        omega
       rw [hm0] at hm;obtain⟨p0,p1,p2⟩:=aVg ht hm;have e1:w64 (2*s.Place)=2*s.Place:=cV (by omega) (by omega);have e2:w64 (2*s.Place+2)=2*s.Place+2:=cV (by omega) (by omega);have hsub:sub t.Slots (2*s.Place) (2*s.Place+2)=some [t.Slots.getD (2*s.Place).toNat 0,t.Slots.getD (2*s.Place+1).toNat 0]:=by
        obtain⟨q,hq⟩:∃q:Nat,s.Place=q:=⟨s.Place.toNat,by omega⟩;rw[hq] at p1|-;have a1:2*q+1<t.Slots.length:=by omega
        have b1:(2*(q:Int)).toNat=2*q:=by omega
        have b2:(2*(q:Int)+1).toNat=2*q+1:=by omega
        have b3:(2*(q:Int)+2).toNat=2*q+2:=by omega
        rw[b1,b2,bC (by omega),bC a1];unfold sub;rw[if_pos ⟨by omega,by omega,by omega⟩,b1,b3]
        congr 1
        apply List.ext_getElem
        ·simp;omega
        ·intro i h1 h2
         simp at h2
         have:i=0\/i=1:=by omega
         rcases this with rfl|rfl<;>simp
       simp only[hr,m5,g6,aB0,e1,e2,hsub,c6];have hc:∀a b:Int,cJ [a,b] (-1)=some (decide (a= -1)||decide (b= -1)):=by
        intro a b;rw[jS [a,b] (show(2:Nat)<=9223372036854775807 by omega)]
        congr 1
        rw[aB4];simp only[l9,l4,List.not_mem_nil,or_false,aC8];exact⟨λh=>h.imp Eq.symm Eq.symm,λh=>h.imp Eq.symm Eq.symm⟩
       rw[hc];cases decide (t.Slots.getD (2*s.Place).toNat 0= -1)<;>cases decide (t.Slots.getD (2*s.Place+1).toNat 0= -1)<;>rfl
    ·simp[ho]
theorem bQz(s:aA):tG t s=some (fG t s):=by
 have h32:=ht.len32;have hw:w64 ((t.Slots.length:Int)-1)=(t.Slots.length:Int)-1:=cV (by omega) (by omega);unfold tG fG;simp only[aCw,c6,hw];cases hp:wi s.Player 0 999 with
 |false=>simp
 | true =>
  by_cases hk:s.Kind=5
  ·simp only[hk,j4,i7,aF2,l8,g6,w9,dA,c6]
  ·simp only[hk,m5,g6,aB8,l8,w9,jG,c6,aXm ht];cases wi s.Kind 1 4 with
   |false=>simp
   | true=>
    cases hm:iZ t s.Round s.Place with
    |false=>simp
    | true=>
     by_cases ho:s.Old=0
     ·simp only[ho,j4,l8,Bool.or_false,g6,c6,w9,Bool.and_true]
      by_cases hr:0<s.Round
      ·simp[hr]
      ·have hm0:s.Round=0:=by
        simp only[iZ,f4,kS] at hm
        omega
       rw[hm0] at hm;obtain⟨p0,p1,p2⟩:=aVg ht hm;have e1:w64 (2*s.Place)=2*s.Place:=cV (by omega) (by omega);have e2:w64 (2*s.Place+1)=2*s.Place+1:=cV (by omega) (by omega);have i1:idx t.Slots (2*s.Place)=some (t.Slots.getD (2*s.Place).toNat 0):=by
        rw[yQ (by omega) (by omega),bC (by omega)]
       have i2:idx t.Slots (2*s.Place+1)=some (t.Slots.getD (2*s.Place+1).toNat 0):=by
        rw[yQ (by omega) p1,bC p1]
       simp only[hr,m5,g6,aB0,e1,e2,i1,i2,c6,dA]
     ·simp[ho]
end
end Go.Am
end
section
namespace Go.Am
def rA(out:List aA)(x:aA):List aA:=if x∈out then out else out++[x]
def bQ(l:List aA):List aA:=l.foldl rA []
theorem aSm(l:List aA):∀out,out.Nodup->(l.foldl rA out).Nodup/\(∀x,x∈l.foldl rA out↔x∈out\/x∈l)/\(l.foldl rA out).length<=out.length+l.length:=by
 induction l with
 |nil=>intro out h;exact⟨h,by simp,by simp⟩
 | cons a l ih=>
  intro out h;have hs:(rA out a).Nodup/\(∀x,x∈rA out a↔x∈out\/x=a)/\(rA out a).length<=out.length+1:=by
   unfold rA
   split
   ·rename_i hm
    exact⟨h,λx=>⟨.inl,λh=>h.elim id λe=>e▸hm⟩,by omega⟩
   ·rename_i hm
    refine⟨aF0.2 ⟨h,by simp,λx hx y hy=>?_⟩,by simp,by simp⟩
    simp at hy;subst hy;exactλe=>hm (e▸hx)
  obtain⟨h1,h2,h3⟩:=ih _ hs.1;refine⟨h1,λx=>?_,?_⟩
  ·rw[aG3,h2,hs.2.1,l4,or_assoc]
  ·rw[aG3];simp only[aB2];omega
theorem aLp(l:List aA):(bQ l).Nodup:=(aSm l [] List.nodup_nil).1
theorem qN(l:List aA)(x:aA):x∈bQ l↔x∈l:=by
 have:=(aSm l [] List.nodup_nil).2.1 x
 simpa[bQ] using this
theorem aFx(l:List aA):(bQ l).length<=l.length:=by
 have:=(aSm l [] List.nodup_nil).2.2
 simpa[bQ] using this
theorem bOd(l:List aA)(hl:l.length<=1000):pI l=some (bQ l):=by
 unfold pI;have main:=eX (S:=List aA) (λk i out=>fP l k i out) l.length (λi out=>some ((l.drop i).foldl rA out)) (λi out=>out.length<=i) ?_ ?_ BIG [] (cB (by omega)) (by simp)
 ·simpa[bQ] using main
 ·intro k i out hi hI ih;have hin:kJ (fP l k) l i out BIG false 0=sL (fP l k) l i (decide (l[i]∈out)) out:=by
   have h:=eX (S:=Bool) (λq j tw=>kJ (fP l k) l i out q tw j) out.length (λj tw=>sL (fP l k) l i (tw||decide (l[i]∈out.drop j)) out) (λ_ _=>True) ?_ ?_ BIG false (cB (by omega)) trivial
   ·simpa using h
   ·intro q j tw hj _ ih2;have e:out.drop j=out[j]::out.drop (j+1):=v6 hj;simp only[kJ,m6,hj,j4,i7,bI hj,bI hi,c6,jG,bF (show j<9223372036854775807 by omega),ih2 _ trivial]
    congr 1
    rw[e]
    by_cases h1:out[j]=l[i]
    ·simp[h1]
    ·rw[<-e];have:l[i]∈out.drop j↔l[i]∈out.drop (j+1):=by
      rw[e,l4];exact⟨λh=>h.resolve_left λe=>h1 e.symm,.inr⟩
     simp[h1,this]
   ·intro q tw _
    simp[kJ]
  have e:l.drop i=l[i]::l.drop (i+1):=v6 hi;simp only[fP,m6,hi,j4,i7,hin];unfold sL;rw[e,aG3]
  by_cases hm:l[i]∈out
  ·simp only[hm,j4,l8,g6,sK,bF (show i<9223372036854775807 by omega)];rw[ih out (by omega),rA,if_pos hm]
  ·simp only[hm,m5,n8,i7,sK,bF (show i<9223372036854775807 by omega),bI hi,c6];rw[gD (by simp;omega),c6,ih _ (by simp;omega),rA,if_neg hm]
 ·intro k out _
  simp[fP,aFq]
def isL(s:aA):Bool:=decide (s.Kind=5)
def dF(l:List aA):List aA:=(bQ l).filter isL
structure LA(pre:List aA)(lucky:List (aA×Int))(about:List (aB×aA)):Prop where
 lm:∀s,s∈lucky.map (·.1)↔s∈pre/\s.Kind=5
 ln:(lucky.map (·.1)).Nodup
 am:∀m s,(m,s)∈about↔(s∈pre/\s.Kind≠5/\m=⟨s.Round,s.Place⟩)
 an:(about.map (·.1)).Nodup
theorem aSf{α β:Type}[DecidableEq α](a:α)(v:β):∀l:List (α×β),(dE a v l).map (·.1)=if a∈l.map (·.1) then l.map (·.1) else l.map (·.1)++[a]
 |[]=>by simp[dE]
 | (k,u)::l=>by
  by_cases h:a=k
  ·subst h;simp[dE]
  ·have:=aSf a v l;simp only[dE,h,m5,g6,j3,this,l4,false_or]
   split<;>simp
theorem aJd{α β:Type}[DecidableEq α](a:α):∀l:List (α×β),cR a l=decide (a∈l.map (·.1))
 |[]=>by simp[cR]
 | (k,u)::l=>by
  simp only[cR,aJd a l,j3,l4]
  by_cases h:a=k<;>simp[h]
theorem aWn{α β:Type}[DecidableEq α]{a:α}{v z:β}:∀{l:List (α×β)},(l.map (·.1)).Nodup->(a,v)∈l->bW a z l=v
 | (k,u)::l,hn,hm=>by
  rw[j3,w6] at hn
  rcases l4.1 hm with h|h
  ·cases h;simp[bW]
  ·have hne:a≠k:=λe=>hn.1 (e▸l5.2 ⟨_,h,rfl⟩);simp only[bW,hne,m5,g6];exact aWn hn.2 h
theorem bEn{α β:Type}[DecidableEq α]{a:α}{v:β}{l:List (α×β)}(h:a∉l.map (·.1)):dE a v l=l++[(a,v)]:=
 aOq a v l (by rw[aJd];simpa using h)
theorem aSg{α β:Type}[DecidableEq α]{a:α}{v:β}:∀{l:List (α×β)},(l.map (·.1)).Nodup->(a,v)∈l->dE a v l=l
 | (k,u)::l,hn,hm=>by
  rw[j3,w6] at hn
  rcases l4.1 hm with h|h
  ·cases h;simp[dE]
  ·have hne:a≠k:=λe=>hn.1 (e▸l5.2 ⟨_,h,rfl⟩);simp only[dE,hne,m5,g6];rw[aSg hn.2 h]
def aTg(l:List aA):Prop:=∀x∈l,∀y∈l,x.Kind≠5->y.Kind≠5->x.Round=y.Round->x.Place=y.Place->x=y
theorem bPs{l:List aA}(hl:l.length<=1000){Q:(Option bJ×Bool)->Prop}{pl:List Int}{won:List (aB×Int)}{t:aD}
  (hbad:¬aTg l->Q (none,false))(hgood:aTg l->∀lucky about,LA l lucky about->uW Q pl won t lucky about):iO Q l l.length pl won t BIG 0 [] []:=by
 refine uM (S:=List (aA×Int)×List (aB×aA)) (λk i s=>iO Q l l.length pl won t k i s.1 s.2) l.length (λp=>p) (λi s=>LA (l.take i) s.1 s.2/\aTg (l.take i)) ?_ ?_ BIG 0 ([],[]) (cB (by omega)) ?_
 ·rintro k i ⟨lucky,about⟩ hi ⟨⟨h1,h2,h3,h4⟩,hno⟩ ih;have ht:∀x,x∈l.take (i+1)↔x∈l.take i\/x=l[i]:=λx=>by
   rw[p6 hi,i6,l7]
  have hmi:l[i]∈l.take (i+1):=(ht _).2 (.inr rfl);simp only[iO,m6,hi,j4,i7,bI hi,bF (show i<9223372036854775807 by omega)];refine⟨_,rfl,?_⟩
  by_cases hk:l[i].Kind=5
  ·simp only[hk,j4,i7];refine ih (_,_) ⟨⟨λs=>?_,?_,λm s=>?_,h4⟩,λx hx y hy kx ky=>?_⟩
   ·rw [aSf]
    split
    ·rename_i hm
     rw[h1,ht]
     constructor
     ·rintro⟨a,b⟩;exact⟨.inl a,b⟩
     ·rintro⟨a|a,b⟩
      ·exact⟨a,b⟩
      ·exact(h1 s).1 (a▸hm)
    ·rw[i6,l7,h1,ht]
     constructor
     ·rintro(⟨a,b⟩|rfl)
      ·exact⟨.inl a,b⟩
      ·exact⟨.inr rfl,hk⟩
     ·rintro⟨a|a,b⟩
      ·exact .inl ⟨a,b⟩
      ·exact .inr a
   ·rw[aSf]
    split
    ·exact h2
    ·rename_i hm
     exact aF0.2 ⟨h2,by simp,λx hx y hy=>by simp at hy;subst hy;exactλe=>hm (e▸hx)⟩
   ·rw[h3,ht]
    constructor
    ·rintro⟨a,b⟩;exact⟨.inl a,b⟩
    ·rintro⟨a|a,b,c⟩
     ·exact⟨a,b,c⟩
     ·exact absurd (a▸hk) b
   ·have hx':x∈l.take i:=((ht x).1 hx).resolve_right λe=>kx (e▸hk);have hy':y∈l.take i:=((ht y).1 hy).resolve_right λe=>ky (e▸hk);exact hno x hx' y hy' kx ky
  ·simp only[hk,m5,g6]
   by_cases hm:(⟨l[i].Round,l[i].Place⟩:aB)∈about.map (·.1)
   ·have hhas:cR (⟨l[i].Round,l[i].Place⟩:aB) about=true:=by rw[aJd];simpa using hm
    obtain⟨⟨m0,y⟩,hy,hmy⟩:=l5.1 hm;simp only at hmy;subst hmy;have hget:=aWn (z:=(⟨0,0,0,0,0⟩:aA)) h4 hy;obtain⟨y1,y2,y3⟩:=(h3 _ _).1 hy;simp only[hhas,i7,hget];refine⟨_,rfl,?_⟩
    by_cases he:y=l[i]
    ·simp only[he,j4,l8,g6];rw[aSg h4 (by rw[he] at hy;exact hy)];have hin:∀x,x∈l.take (i+1)↔x∈l.take i:=λx=>by
      rw[ht];exact⟨λh=>h.elim id λe=>by rw[e,<-he];exact y1,.inl⟩
     exact ih (_,_) ⟨⟨λs=>by rw[h1,hin],h2,λm s=>by rw[h3,hin],h4⟩,λx hx y hy=>hno x ((hin x).1 hx) y ((hin y).1 hy)⟩
    ·simp only[he,m5,n8,i7];refine hbad λhN=>he ?_;simp only[aB.mk.injEq] at y3;exact hN y (List.mem_of_mem_take y1) l[i] (j9 hi) y2 hk y3.1.symm y3.2.symm
   ·have hhas:cR (⟨l[i].Round,l[i].Place⟩:aB) about=false:=by rw[aJd];simpa using hm
    simp only[hhas,g6];refine⟨_,rfl,?_⟩;simp only[g6];rw[bEn hm];refine ih (_,_) ⟨⟨λs=>?_,h2,λm s=>?_,?_⟩,λx hx y hy kx ky er ep=>?_⟩
    ·rw[h1,ht]
     constructor
     ·rintro⟨a,b⟩;exact⟨.inl a,b⟩
     ·rintro⟨a|a,b⟩
      ·exact⟨a,b⟩
      ·exact absurd (a▸b) hk
    ·rw[i6,l7,h3,ht]
     constructor
     ·rintro(⟨a,b,c⟩|h)
      ·exact⟨.inl a,b,c⟩
      ·cases h;exact⟨.inr rfl,hk,rfl⟩
     ·rintro⟨a|a,b,c⟩
      ·exact .inl ⟨a,b,c⟩
      ·subst a;exact .inr (by rw[c])
    ·rw[v7];exact aF0.2 ⟨h4,by simp,λx hx y hy=>by simp at hy;subst hy;exactλe=>hm (e▸hx)⟩
    ·have fresh:∀z,z∈l.take i->z.Kind≠5->¬(z.Round=l[i].Round/\z.Place=l[i].Place):=by
      rintro z hz kz ⟨e1,e2⟩;refine hm (l5.2 ⟨(⟨z.Round,z.Place⟩,z),(h3 _ _).2 ⟨hz,kz,rfl⟩,?_⟩);rw[<-e1,<-e2]
     rcases(ht x).1 hx with hx'|rfl
     ·rcases(ht y).1 hy with hy'|rfl
      ·exact hno x hx' y hy' kx ky er ep
      ·exact absurd ⟨er,ep⟩ (fresh x hx' kx)
     ·rcases(ht y).1 hy with hy'|hy'
      ·exact absurd ⟨er.symm,ep.symm⟩ (fresh y hy' ky)
      ·exact hy'.symm
 ·rintro k i ⟨lucky,about⟩ hi ⟨hL,hno⟩;have hlt:decide ((i:Int)<(l.length:Int))=false:=j6 (by omega);have hta:l.take i=l:=aC6 (by omega);rw[hta] at hL hno;simp only[iO,hlt,g6];exact hgood hno lucky about hL
 ·exact⟨⟨by simp,by simp,by simp,by simp⟩,λx hx=>by simp at hx⟩
end Go.Am
end
section
namespace Go.Am
def iJ(L:List aA)(i now:Int):List aA:=L.filter λs=>decide (s.Place=i)&&decide (s.Old=now)
def jX(L:List aA)(i:Int):Nat->Int->List Int->List aA->Option (Int×List Int×List aA)
 |0,_,_,_=>none
 | n+1,now,ever,U=>match iJ L i now with
  |[]=>some (now,ever,U)
  |[s]=>if s.Player∈ever then none else jX L i n s.Player (ever++[s.Player]) (U++[s])
  |_::_::_=>none
structure SI(L:List aA)(T:Nat)(i now:Int)(ever:List Int)(U:List aA):Prop where
 un:U.Nodup
 us:∀u∈U,u∈L
 ne:now∈ever
 pl:∀u∈U,u.Place<=i
 old:∀u∈U,u.Place=i->u.Old∈ever/\u.Old≠now
 el:ever.length=T+U.length
theorem nodup_le{α:Type}[DecidableEq α]:∀{l m:List α},l.Nodup->(∀x∈l,x∈m)->l.length<=m.length
 |[],_,_,_=>by simp
 | a::l,m,hn,hs=>by
  rw[w6] at hn;have hm:a∈m:=hs a (by simp);have:=nodup_le (l:=l) (m:=m.erase a) hn.2 λx hx=>(List.mem_erase_of_ne (show x≠a fromλe=>hn.1 (e▸hx))).2 (hs x (by simp[hx]));rw[List.length_erase_of_mem hm] at this;have:0<m.length:=List.length_pos_of_mem hm;simp only[aB2];omega
theorem uN{L:List aA}{i now:Int}{s:aA}:s∈iJ L i now↔s∈L/\s.Place=i/\s.Old=now:=by simp[iJ]
theorem SI.next{L:List aA}{T:Nat}{i now:Int}{ever:List Int}{U:List aA}(h:SI L T i now ever U){s:aA}(hs:s∈iJ L i now)(hp:s.Player∉ever):
  SI L T i s.Player (ever++[s.Player]) (U++[s]):=by
 obtain⟨h1,h2,h3,h4,h5,h6⟩:=h;obtain⟨m1,m2,m3⟩:=uN.1 hs;have hsu:s∉U:=λhu=>(h5 s hu m2).2 m3;refine⟨aF0.2 ⟨h1,by simp,λx hx y hy=>?_⟩,λu hu=>?_,by simp,λu hu=>?_,λu hu hpl=>?_,by simp;omega⟩
 ·simp at hy;subst hy;exactλe=>hsu (e▸hx)
 ·rcases i6.1 hu with hu|hu
  ·exact h2 u hu
  ·simp at hu;exact hu▸m1
 ·rcases i6.1 hu with hu|hu
  ·exact h4 u hu
  ·simp at hu;subst hu;omega
 ·rcases i6.1 hu with hu|hu
  ·obtain⟨a,b⟩:=h5 u hu hpl;exact⟨aB1 _ a,λe=>hp (e▸a)⟩
  ·simp at hu;subst hu
   exact⟨aB1 _ (m3▸h3),λe=>hp (e▸m3▸h3)⟩
theorem SI.le{L:List aA}{T:Nat}{i now:Int}{ever:List Int}{U:List aA}(h:SI L T i now ever U):U.length<=L.length:=nodup_le h.un h.us
def gZ(L:List aA):Nat->Nat->List Int->List Int->List aA->Option (List Int×List aA)
 |0,_,d,_,U=>some (d,U)
 | n+1,i,d,ever,U=>match jX L i (L.length+1) (d.getD i 0) ever U with
  |none=>none
  |some (now,ever',U')=>gZ L n (i+1) (d.set i now) ever' U'
section
variable{t:aD}{l:List aA}(hl:l.length<=1000)(h32:t.Slots.length<=32)
theorem cKj(o:List Int)(ho:o.length<=2000)(v:Int):zU o v=some (decide (v∈o)):=by
 unfold zU;have:=eX (S:=Unit) (λk i _=>oD o v k i) o.length (λi _=>some (decide (v∈o.drop i))) (λ_ _=>True) ?_ ?_ BIG () (cB (by omega)) trivial
 ·simpa using this
 ·intro k i _ hi _ ih;have:=ih () trivial;simp only[oD,m6,hi,j4,i7,bI hi,c6,bF (show i<9223372036854775807 by omega),this];have e:o.drop i=o[i]::o.drop (i+1):=v6 hi
  by_cases h:o[i]=v
  ·simp[h,e]
  ·have:v∈o.drop i↔v∈o.drop (i+1):=by
    rw[e,l4];exact⟨λq=>q.resolve_left λe=>h e.symm,.inr⟩
   simp[h,this]
 ·intro k _ _
  simp[oD,aIu]
include hl in
theorem bUf(a0:Int->Int->List Int->List Int->Option (List Int×Bool))(a2:Int->Int->Bool->List Int->Option (List Int×Bool))(used i now:Int)(ag:Bool)(out ever:List Int):
  fY a0 a2 (bQ l) used i now ag t out ever BIG 0 []=pH a0 a2 (bQ l) used i now ag t out ((iJ (dF l) i now).map (·.Player)) ever:=by
 have hol:=aFx l;have:=eX (S:=List Int) (λk j nx=>fY a0 a2 (bQ l) used i now ag t out ever k j nx) (bQ l).length
  (λj nx=>pH a0 a2 (bQ l) used i now ag t out (nx++(iJ (((bQ l).drop j).filter isL) i now).map (·.Player)) ever) (λj nx=>nx.length<=j) ?_ ?_ BIG [] (cB (by omega)) (by simp)
 ·simpa[dF] using this
 ·intro k j nx hj hI ih;have hj':j<1000:=by omega
  rw[v6 hj,aD0];simp only[fY,m6,hj,j4,i7,bI hj,c6,bF (show j<9223372036854775807 by omega),dA]
  by_cases hk:(bQ l)[j].Kind=5
  ·have hL:isL (bQ l)[j]=true:=by simp[isL,hk]
   simp only[hk,hL,j4,aF2,w9];unfold iJ;rw[aD0];cases hc:(decide ((bQ l)[j].Place=i)&&decide ((bQ l)[j].Old=now)) with
   | false=>
    simp only[g6,aB5,aB8];exact ih nx (by omega)
   | true=>
    simp only[i7,aF2];rw[gD (by simp;omega),c6,ih _ (by simp;omega)]
    simp[iJ]
  ·have hL:isL (bQ l)[j]=false:=by simp[isL,hk]
   simp only[hk,hL,m5,Bool.false_and,g6,aB5,aB8];exact ih nx (by omega)
 ·intro k nx _
  simp[fY,iJ]
include hl h32 in
theorem cCo(a0:Int->Int->List Int->List Int->Option (List Int×Bool))(i:Int)(out:List Int):
  ∀n k now ever U,SI (dF l) t.Slots.length i now ever U->(dF l).length<n+U.length->n<k->
  kA a0 (bQ l) i t out k U.length now true ever=match jX (dF l) i n now ever U with
   |none=>some ([],false)
   |some (now',ever',U')=>tU a0 (bQ l) U'.length i now' t out ever':=by
 have hLl:(dF l).length<=1000:=by
  have h1:=aFx l;have h2:(dF l).length<=(bQ l).length:=z8 _ _
  omega
 intro n
 induction n with
 | zero=>
  intro k now ever U hS hn hk;have:=hS.le
  omega
 | succ n ih=>
  intro k now ever U hS hn hk;cases k with
  |zero=>omega
  | succ k=>
   have hU:=hS.le;have hel:=hS.el;simp only[kA,i7,bUf hl,jX];unfold pH;cases hc:iJ (dF l) i now with
   | nil=>
    simp only[aH1,aF1,pG];simp only[aG8,show decide ((1:Int)<0)=false by decide,show decide ((0:Int)=1)=false by decide,g6,c6];cases k with
    |zero=>omega
    |succ k=>simp[kA]
   | cons s cs=>
    cases cs with
    | cons s2 cs=>
     simp only[j3,aB2];have:decide ((1:Int)<((((cs.map (·.Player)).length+1+1:Nat)):Int))=true:=n7 (by omega);rw[this]
     rfl
    | nil=>
     have hs:s∈iJ (dF l) i now:=by rw[hc];simp
     simp only[j3,aH1,aB2,aF1,pG,cAl,c6,cKj ever (by omega)];simp only[s8,Int.natCast_one,show decide ((1:Int)<1)=false by decide,j4,i7,g6,c6]
     by_cases hp:s.Player∈ever
     ·simp[hp]
     ·simp only[hp,m5,g6,aB8];rw[gD (by simp;omega),c6,cV (by omega) (by omega)];have:=ih k s.Player (ever++[s.Player]) (U++[s]) (hS.next hs hp) (by simp;omega) (by omega);have e:(((U++[s]).length:Nat):Int)=(U.length:Int)+1:=by simp
      rw[e] at this;exact this
end
end Go.Am
end
section
namespace Go.Am
def LOK(L:List aA):Prop:=∀s∈L,0<=s.Player/\0<=s.Old
theorem aPr{L:List aA}(hL:LOK L){T:Nat}{i:Int}:∀{n:Nat} {now:Int} {ever:List Int} {U:List aA} {now':Int} {ever':List Int} {U':List aA},
  SI L T i now ever U->jX L i n now ever U=some (now',ever',U')->
  SI L T i now' ever' U'/\(∀x∈ever,x∈ever')/\(now'=now\/(now'∉ever/\0<=now'/\now≠-1))/\iJ L i now'=[]
 |0,_,_,_,_,_,_,_,h=>by simp[jX] at h
 | n +1,now,ever,U,now',ever',U',hS,h=>by
  unfold jX at h;cases hc:iJ L i now with
  | nil=>
   rw[hc] at h;simp only[m7,aE8] at h;obtain⟨rfl,rfl,rfl⟩:=h;exact⟨hS,λx hx=>hx,.inl rfl,hc⟩
  | cons s cs=>
   cases cs with
   |cons s2 cs=>simp[hc] at h
   | nil=>
    have hs:s∈iJ L i now:=by rw[hc];simp
    obtain⟨m1,m2,m3⟩:=uN.1 hs;obtain⟨p1,p2⟩:=hL s m1;rw[hc] at h
    by_cases hp:s.Player∈ever
    ·simp[hp] at h
    ·simp only[hp,aB8] at h;obtain⟨r1,r2,r3,r4⟩:=aPr hL (hS.next hs hp) h;refine⟨r1,λx hx=>r2 x (aB1 _ hx),?_,r4⟩
     rcases r3 with rfl|⟨a,b,c⟩
     ·exact .inr ⟨hp,p1,by omega⟩
     ·exact .inr ⟨λhx=>a (aB1 _ hx),b,by omega⟩
structure GI(L:List aA)(S:List Int)(i:Nat)(d ever:List Int)(U:List aA):Prop where
 un:U.Nodup
 us:∀u∈U,u∈L
 el:ever.length=S.length+U.length
 pl:∀u∈U,u.Place<i
 len:d.length=S.length
 dr:∀j,i<=j->d.getD j 0=S.getD j 0
 mem:∀x∈d,x∈ever
 dup:∀a b,a<b->b<d.length->d.getD a 0=d.getD b 0->d.getD b 0= -1
 bye:∀a,a<d.length->(d.getD a 0= -1↔S.getD a 0= -1)
 don:∀a:Nat,a<i->iJ L a (d.getD a 0)=[]
theorem aOd{l:List Int}{i:Nat}(h:i<l.length):l.getD i 0∈l:=by rw[bC h];exact j9 h
theorem GI.start{L:List aA}{S:List Int}{i:Nat}{d ever:List Int}{U:List aA}(h:GI L S i d ever U)(hi:i<S.length):SI L S.length i (d.getD i 0) ever U:=
 ⟨h.un,h.us,h.mem _ (aOd (by rw[h.len];exact hi)),λu hu=>by have:=h.pl u hu;omega,λu hu e=>by have:=h.pl u hu;omega,h.el⟩
theorem nL{l:List Int}{i j:Nat}{v:Int}(hi:i<l.length):(l.set i v).getD j 0=if j=i then v else l.getD j 0:=by
 by_cases h:j=i
 ·subst h;simp[List.getD,hi]
 ·simp[List.getD,h,aB3,aF9 h]
theorem GI.next{L:List aA}(hL:LOK L){S:List Int}{i:Nat}{d ever:List Int}{U:List aA}(h:GI L S i d ever U)(hi:i<S.length){n:Nat}{now':Int}{ever':List Int}{U':List aA}
  (hs:jX L i n (d.getD i 0) ever U=some (now',ever',U')):GI L S (i+1) (d.set i now') ever' U':=by
 obtain⟨hS,hev,hn,hc⟩:=aPr hL (h.start hi) hs;have hid:i<d.length:=by rw[h.len];exact hi
 refine⟨hS.un,hS.us,hS.el,λu hu=>by have:=hS.pl u hu;omega,by rw[aA7,h.len],λj hj=>?_,λx hx=>?_,λa b hab hb=>?_,λa ha=>?_,λa ha=>?_⟩
 ·rw[nL hid,if_neg (by omega)];exact h.dr j (by omega)
 ·rcases aC0 hx with hx|rfl
  ·exact hev x (h.mem x hx)
  ·exact hS.ne
 ·rw [aA7] at hb;rw[nL hid,nL hid]
  by_cases ha':a=i
  ·subst ha';rw[if_pos rfl,if_neg (by omega)];intro e
   rcases hn with hn|⟨n1,n2,n3⟩
   ·rw[hn] at e;exact h.dup a b hab hb e
   ·exact absurd (h.mem _ (aOd hb)) (e▸n1)
  ·rw[if_neg ha']
   by_cases hb':b=i
   ·subst hb';rw[if_pos rfl];intro e
    rcases hn with hn|⟨n1,n2,n3⟩
    ·rw[hn] at e|-;exact h.dup a b hab hb e
    ·exact absurd (h.mem _ (aOd (show a<d.length by omega))) (e▸n1)
   ·rw[if_neg hb'];exact h.dup a b hab hb
 ·rw [aA7] at ha;rw[nL hid]
  by_cases ha':a=i
  ·subst ha';rw[if_pos rfl,<-h.bye a ha]
   rcases hn with hn|⟨n1,n2,n3⟩
   ·rw[hn]
   ·constructor
    ·intro e;omega
    ·intro e;exact absurd e n3
  ·rw[if_neg ha'];exact h.bye a ha
 ·rw[nL hid]
  by_cases ha':a=i
  ·subst ha';rw[if_pos rfl];exact hc
  ·rw[if_neg ha'];exact h.don a (by omega)
theorem aPb{L:List aA}(hL:LOK L){S:List Int}:∀{n i:Nat} {d ever:List Int} {U:List aA} {d':List Int} {U':List aA},GI L S i d ever U->i+n=S.length->gZ L n i d ever U=some (d',U')->∃ever',GI L S S.length d' ever' U'
 | 0,i,d,ever,U,d',U',h,hn,he=>by
  simp only[gZ,m7,aE8] at he;obtain⟨rfl,rfl⟩:=he;have:i=S.length:=by omega
  subst this;exact⟨ever,h⟩
 | n+1,i,d,ever,U,d',U',h,hn,he=>by
  unfold gZ at he;cases hs:jX L i (L.length+1) (d.getD i 0) ever U with
  |none=>rw[hs] at he;simp at he
  | some q=>
   obtain⟨now',ever',U1⟩:=q;rw[hs] at he;exact aPb hL (h.next hL (by omega) hs) (by omega) he
theorem aOm{l:List aA}:(dF l).length<=l.length:=by
 have h1:=aFx l;have h2:(dF l).length<=(bQ l).length:=z8 _ _
 omega
section
variable{t:aD}{l:List aA}(hl:l.length<=1000)(h32:t.Slots.length<=32)
include hl in
theorem bUh(out:List Int)(used:Nat)(hu:used<=(dF l).length):fZ (bQ l) out BIG used 0=some (out,decide (used=(dF l).length)):=by
 have hol:=aFx l;have hll:=aOm (l:=l);have:=eX (S:=Int) (λk j us=>fZ (bQ l) out k us j) (bQ l).length (λj us=>some (out,decide (us=((((bQ l).drop j).filter isL).length:Int)))) (λj us=> -(j:Int)<=us/\us<=1000) ?_ ?_ BIG used (cB (by omega)) ?_
 ·rw[aF7] at this;have e:decide ((used:Int)=(((bQ l).filter isL).length:Int))=decide (used=(dF l).length):=by
   unfold dF;rw[aB4];simp only[l9];omega
  rw[<-e];exact this
 ·intro k j us hj ⟨hI1,hI2⟩ ih;rw[v6 hj,aD0];simp only[fZ,m6,hj,j4,i7,bI hj,c6,bF (show j<9223372036854775807 by omega)]
  by_cases hk:(bQ l)[j].Kind=5
  ·have hL:isL (bQ l)[j]=true:=by simp[isL,hk]
   simp only[hk,hL,j4,i7,aF2];rw[cV (by omega) (by omega),ih _ (by omega)];simp only[aB2]
   congr 2
   rw[aB4];simp only[l9];omega
  ·have hL:isL (bQ l)[j]=false:=by simp[isL,hk]
   simp only[hk,hL,m5,g6,aB5,aB8];exact ih us (by omega)
 ·intro k us _
  simp[fZ,aAz]
 ·omega
def aPe(t:aD)(l:List aA):Option (List Int×List aA):=gZ (dF l) t.Slots.length 0 t.Slots t.Slots []
theorem aNi(L:List aA){S:List Int}(h:aHy S):GI L S 0 S S []:=by
 refine⟨by simp,by simp,by simp,by simp,rfl,λ_ _=>rfl,λx h=>h,λa b hab hb e=>?_,λ_ _=>.rfl,by simp⟩;rw[bC (by omega),bC hb] at e;rw[bC hb];exact h.dup b hb a hab e
include hl h32 in
theorem bPi(hT:aHy t.Slots)(hL:LOK (dF l)):sI t l=some (match aPe t l with
  |none=>([],false)
  |some (d,U)=>(d,decide (U.length=(dF l).length))):=by
 have hll:=aOm (l:=l);unfold sI;rw[bOd l hl,c6,gD (by simp;omega),c6,aG4];have key:∀n i d ever U k,GI (dF l) t.Slots i d ever U->i+n=t.Slots.length->n<k->iB (bQ l) t k U.length i (d.take i) ever=some (match gZ (dF l) n i d ever U with
   |none=>([],false)
   |some (d,U)=>(d,decide (U.length=(dF l).length))):=by
  intro n
  induction n with
  | zero=>
   intro i d ever U k hG hi hk;cases k with
   |zero=>omega
   | succ k=>
    have hlt:decide ((i:Int)<(t.Slots.length:Int))=false:=j6 (by omega);have hta:d.take i=d:=aC6 (by rw[hG.len];omega);simp only[iB,hlt,g6,aAx,hta,gZ];exact bUh hl d U.length (nodup_le hG.un hG.us)
  | succ n ih=>
   intro i d ever U k hG hi hk;cases k with
   |zero=>omega
   | succ k=>
    have hlt:i<t.Slots.length:=by omega
    have hid:i<d.length:=by rw[hG.len];exact hlt
    have hnow:t.Slots[i]=d.getD i 0:=by rw[hG.dr i (by omega),bC hlt]
    have hsl:=cCo hl h32 (iB (bQ l) t k) i (d.take i) ((dF l).length+1) BIG (d.getD i 0) ever U (hG.start hlt) (by omega) (cB (by omega));simp only[iB,m6,hlt,j4,i7,bI hlt,c6,hnow,hsl,gZ];cases hs:jX (dF l) i ((dF l).length+1) (d.getD i 0) ever U with
    |none=>rfl
    | some q=>
     obtain⟨now',ever',U'⟩:=q;simp only[tU,aAy];rw[gD (by simp;omega),c6,bF (by omega)];have ht:d.take i++[now']=(d.set i now').take (i+1):=by
      rw[p6 (by rw[aA7];exact hid),List.take_set_of_le (n5 i)]
      simp
     rw[ht];exact ih (i+1) (d.set i now') ever' U' k (hG.next hL hlt hs) (by omega) (by omega)
 have:=key t.Slots.length 0 t.Slots t.Slots [] BIG (aNi _ hT) (by omega) (cB (by omega))
 simpa[aPe] using this
end
end Go.Am
end
section
namespace Go.Am
theorem aKo{α β:Type}[DecidableEq α](a:α):∀l:List (α×β),(uA a l).map (·.1)=(l.map (·.1)).erase a
 |[]=>by simp[uA,eT]
 | (k,u)::l=>by
  have ih:=aKo a l;unfold uA at ih|-;simp only[j3,eT]
  by_cases h:a=k
  ·subst h;simp
  ·rw[j6 h,g6,List.erase_cons_tail (by simpa using aF9 h),<-ih];cases eT a (l.map (·.1)) with
   |none=>simp
   |some j=>simp
theorem aWm{α β:Type}[DecidableEq α]{a x:α}{l:List (α×β)}(hn:(l.map (·.1)).Nodup):x∈(uA a l).map (·.1)↔x∈l.map (·.1)/\x≠a:=by
 rw[aKo,hn.mem_erase_iff];exact And.comm
theorem aZl{α β:Type}[DecidableEq α]{a:α}{l:List (α×β)}(hn:(l.map (·.1)).Nodup):((uA a l).map (·.1)).Nodup:=by
 rw[aKo];exact hn.erase a
theorem aOn{α β:Type}[DecidableEq α]{a:α}{l:List (α×β)}(h:a∈l.map (·.1)):(uA a l).length+1=l.length:=by
 have h1:=aA5 List.length (aKo a l);rw[m8,List.length_erase_of_mem h,m8] at h1;have:0<l.length:=by
  cases l with
  |nil=>simp at h
  |cons=>simp
 omega
theorem bEo{t:aD}{d:List Int}{lk:List (aA×Int)}{i:Nat}{Q:aA×Bool->Prop}(hi:i<d.length)(hlen:lk.length<=3000)
  (h1:∀s:aA,s∈lk.map (·.1)->s.Place=(i:Int)->s.Old=d.getD i 0->Q (s,true))
  (h0:(∀s:aA,s∈lk.map (·.1)->s.Place=(i:Int)->s.Old≠d.getD i 0)->Q (⟨0,0,0,0,0⟩,false)):jJ t d lk i Q:=by
 have key:∀n k left,left.length=n->n<k->(∀p∈left,p∈lk)->(∀s:aA,s∈lk.map (·.1)->s.Place=(i:Int)->s.Old=d.getD i 0->s∈left.map (·.1))->iR Q i d t lk k ⟨0,0,0,0,0⟩ left:=by
  intro n
  induction n with
  | zero=>
   intro k left hn hk hsub hall;cases k with
   |zero=>omega
   | succ k=>
    have:left=[]:=aD5.1 hn;subst this;simp only[iR,qE];refine⟨λ_=>h0 λs hs hp ho=>?_,λj p hj=>by simp at hj⟩
    simpa using hall s hs hp ho
  | succ n ih=>
   intro k left hn hk hsub hall;cases k with
   |zero=>omega
   | succ k=>
    simp only[iR,qE];refine⟨λe=>by subst e;simp at hn,λj p hj=>?_⟩;have hjl:j<left.length:=by
     rcases aC1 j left.length with h|h
     ·exact h
     ·rw[aC3 h] at hj;cases hj
    have hpm:p∈left:=i8 hj;have hkey:p.1∈lk.map (·.1):=l5.2 ⟨p,hsub p hpm,rfl⟩;simp only[bI hi,c6,dA];refine⟨_,rfl,?_⟩;rw[<-bC hi 0]
    by_cases hm:p.1.Place=i/\p.1.Old=d.getD i 0
    ·simp only[hm.1,hm.2,j4,Bool.and_self,i7];exact h1 _ hkey hm.1 hm.2
    ·have:(decide (p.1.Place=(i:Int))&&decide (p.1.Old=d.getD i 0))=false:=by
      rw[aF6,n9,n9]
      by_cases h:p.1.Place=i
      ·exact .inr λh'=>hm ⟨h,h'⟩
      ·exact .inl h
     simp only[this,g6];refine ih k _ (by rw[aG1];simp[hjl];omega) (by omega) (λq hq=>hsub q (aE3 hq)) λs hs hp ho=>?_;obtain⟨q,hq,rfl⟩:=l5.1 (hall s hs hp ho);refine l5.2 ⟨q,?_,rfl⟩;obtain⟨j',hj',rfl⟩:=aG2.1 hq;rw[List.mem_eraseIdx_iff_getElem];refine⟨j',hj',?_,rfl⟩;rintro rfl;rw[g9 hj'] at hj;cases hj;exact hm ⟨hp,ho⟩
 unfold jJ aMp;exact key lk.length BIG lk rfl (cB (by omega)) (λp hp=>hp) λs hs _ _=>hs
structure LK(L:List aA)(lk:List (aA×Int))(U:List aA):Prop where
 nd:(lk.map (·.1)).Nodup
 mem:∀s:aA,s∈lk.map (·.1)↔s∈L/\s∉U
def bGi(i:Nat)(d ever:List Int)(lk:List (aA×Int)):Prop:=
 ∃x:aA,x∈lk.map (·.1)/\(x.Place<(i:Int)\/(x.Place=(i:Int)/\x.Old∈ever/\x.Old≠d.getD i 0))
structure PS(D:Nat)(d ever:List Int)(lk:List (aA×Int)):Prop where
 dl:d.length=D
 sz:D+lk.length+ever.length<=3000
 mem:∀x∈d,x∈ever
 nd:(lk.map (·.1)).Nodup
theorem PS.step{D:Nat}{d ever:List Int}{lk:List (aA×Int)}(h:PS D d ever lk){s:aA}(hs:s∈lk.map (·.1))(i:Nat):PS D (d.set i s.Player) (ever++[s.Player]) (uA s lk):=by
 have hml:=aOn hs;obtain⟨h1,h2,h3,h4⟩:=h;refine⟨by simpa using h1,by simp;omega,λx hx=>?_,aZl h4⟩
 rcases aC0 hx with hx|rfl
 ·exact aB1 _ (h3 x hx)
 ·simp
section
variable{t:aD}{L:List aA}(hLn:L.Nodup)
variable(Q:(Bool×List Int×List (aA×Int))->Prop)(hbad:∀d lk,Q (false,d,lk))
include hbad in
theorem bFg(a0:Int->List Int->List (aA×Int)->List Int->Prop)(T:Int){i D:Nat}(hiD:i<D)
  (hgo:∀d lk ever,PS D d ever lk->bGi (i+1) d ever lk->a0 ((i+1:Nat):Int) d lk ever):
  ∀n k d lk ever,lk.length<=n->n<k->PS D d ever lk->bGi i d ever lk->
  jJ t d lk i λr=>dT Q a0 i T i t k r.2 d lk r.1 ever:=by
 intro n
 induction n with
 | zero=>
  intro k d lk ever hn hk hP ⟨x,hx,_⟩;have:lk=[]:=aD5.1 (by omega);subst this
  simp at hx
 | succ n ih=>
  intro k d lk ever hn hk hP hD;have hi:i<d.length:=by rw[hP.dl];exact hiD
  have hnd:=hP.nd;have hlen:=hP.sz;obtain⟨x,hx,hxp⟩:=hD;cases k with
  |zero=>omega
  | succ k=>
   refine bEo hi (by omega) (λs hs hp ho=>?_) λ_=>?_
   ·simp only[dT,i7];refine⟨_,jS ever (by omega) _,?_⟩
    by_cases hpe:s.Player∈ever
    ·simp only[hpe,j4,i7];exact hbad _ _
    ·simp only[hpe,m5,g6];refine⟨_,bI hi,_,gD (by simp;omega),?_⟩;have hml:=aOn hs;have e:((i:Int)).toNat=i:=by simp
     rw[e];refine ih k (d.set i s.Player) (uA s lk) (ever++[s.Player]) (by omega) (by omega) (hP.step hs i) ⟨x,(aWm hnd).2 ⟨hx,?_⟩,?_⟩
     ·rintro rfl
      rcases hxp with h|⟨_,_,h⟩
      ·omega
      ·exact h ho
     ·rcases hxp with h|⟨h1,h2,h3⟩
      ·exact .inl h
      ·rw[nL hi,if_pos rfl];exact .inr ⟨h1,aB1 _ h2,λe=>hpe (e▸h2)⟩
   ·simp only[dT,g6,nV,nU,bF (show i<9223372036854775807 by omega)];refine hgo d lk ever hP ⟨x,hx,.inl ?_⟩
    rcases hxp with h|⟨h,_⟩<;>omega
include hLn in
theorem bXt(a0:Int->List Int->List (aA×Int)->List Int->Prop)(T:Int){i D:Nat}(hiD:i<D):
  ∀n k d lk now ever U,lk.length+n+1<=k->PS D d ever lk->now=d.getD i 0->SI L t.Slots.length i now ever U->LK L lk U->L.length<n+U.length->
  (∀now' ever' U' lk',jX L i n now ever U=some (now',ever',U')->LK L lk' U'->PS D (d.set i now') ever' lk'->a0 ((i+1:Nat):Int) (d.set i now') lk' ever')->
  (jX L i n now ever U=none->(∀d lk,Q (false,d,lk))/\∀d lk ever,PS D d ever lk->bGi (i+1) d ever lk->a0 ((i+1:Nat):Int) d lk ever)->
  jJ t d lk i λr=>dT Q a0 i T i t k r.2 d lk r.1 ever:=by
 intro n
 induction n with
 | zero=>
  intro k d lk now ever U hk hP hnow hS hK hn hok hbd;have:=hS.le
  omega
 | succ n ih=>
  intro k d lk now ever U hk hP hnow hS hK hn hok hbd;have hi:i<d.length:=by rw[hP.dl];exact hiD
  have hlen:=hP.sz;have hc:∀s:aA,s∈lk.map (·.1)->s.Place=(i:Int)->s.Old=d.getD i 0->s∈iJ L i now:=λs hs hp ho=>uN.2 ⟨((hK.mem s).1 hs).1,hp,by rw[hnow];exact ho⟩;have hc':∀s:aA,s∈iJ L i now->s∈lk.map (·.1):=by
   intro s hs;obtain⟨m1,m2,m3⟩:=uN.1 hs;exact(hK.mem s).2 ⟨m1,λhu=>(hS.old s hu m2).2 m3⟩
  cases k with
  |zero=>omega
  | succ k=>
   refine bEo hi (by omega) (λs hs hp ho=>?_) λhno=>?_
   ·have hsc:=hc s hs hp ho;simp only[dT,i7];refine⟨_,jS ever (by omega) _,?_⟩;have e:((i:Int)).toNat=i:=by simp
    by_cases hone:∃s2,s2∈iJ L i now/\s2≠s
    ·obtain⟨s2,h2,hne⟩:=hone;obtain⟨m1,m2,m3⟩:=uN.1 h2;have hnone:jX L i (n+1) now ever U=none:=by
      rw[jX];cases h:iJ L i now with
      |nil=>rw[h] at h2;simp at h2
      | cons a cs=>
       cases cs with
       |cons b cs=>rfl
       | nil=>
        rw[h] at h2 hsc
        simp at h2 hsc
        exact absurd (h2.trans hsc.symm) hne
     obtain⟨hbad,hgo⟩:=hbd hnone
     by_cases hpe:s.Player∈ever
     ·simp only[hpe,j4,i7];exact hbad _ _
     ·simp only[hpe,m5,g6];refine⟨_,bI hi,_,gD (by simp;omega),?_⟩;have hml:=aOn hs;rw[e];refine bFg Q hbad a0 T hiD hgo (uA s lk).length k _ _ _ (n5 _) (by omega) (hP.step hs i) ⟨s2,(aWm hK.nd).2 ⟨hc' s2 h2,hne⟩,.inr ⟨m2,?_,?_⟩⟩
      ·rw[m3];exact aB1 _ hS.ne
      ·rw[nL hi,if_pos rfl,m3];exactλe=>hpe (e▸hS.ne)
    ·have hall:∀x∈iJ L i now,x=s:=λx hx=>aA3 λh=>hone ⟨x,hx,h⟩;have hcs:iJ L i now=[s]:=by
      have hnd:(iJ L i now).Nodup:=hLn.filter _;cases h:iJ L i now with
      |nil=>rw[h] at hsc;simp at hsc
      | cons a cs=>
       rw[h] at hall hnd;have ha:=hall a (by simp);subst ha;cases cs with
       |nil=>rfl
       | cons b cs=>
        have:=hall b (by simp);subst this
        simp at hnd
     by_cases hpe:s.Player∈ever
     ·simp only[hpe,j4,i7];exact(hbd (by rw[jX,hcs];simp only[hpe,aF2])).1 _ _
     ·simp only[hpe,m5,g6];refine⟨_,bI hi,_,gD (by simp;omega),?_⟩;have hml:=aOn hs;rw[e];have hslot:jX L i (n+1) now ever U=jX L i n s.Player (ever++[s.Player]) (U++[s]):=by
       rw[jX,hcs];simp only[hpe,aB8]
      rw[hslot] at hok hbd;refine ih k (d.set i s.Player) (uA s lk) s.Player (ever++[s.Player]) (U++[s]) (by omega) (hP.step hs i) (by rw[nL hi,if_pos rfl]) (hS.next hsc hpe) ⟨aZl hK.nd,λx=>?_⟩ (by simp;omega) (λnow' ever' U' lk' h1 h2 h3=>?_) hbd
      ·rw[aWm hK.nd,hK.mem,i6,l7,not_or,and_assoc]
      ·rw[aH2] at h3|-;exact hok now' ever' U' lk' h1 h2 h3
   ·have hcs:iJ L i now=[]:=by
     cases h:iJ L i now with
     |nil=>rfl
     | cons s cs=>
      have hs:s∈iJ L i now:=by rw[h];simp
      obtain⟨m1,m2,m3⟩:=uN.1 hs;exact absurd (by rw[m3,hnow]) (hno s (hc' s hs) m2)
    have hslot:jX L i (n+1) now ever U=some (now,ever,U):=by rw[jX,hcs]
    simp only[dT,g6,nV,nU,bF (show i<9223372036854775807 by omega)];have e:d.set i now=d:=by rw[hnow,bC hi];exact List.set_getElem_self hi
    have:=hok now ever U lk hslot hK;rw[e] at this;exact this hP
theorem bZm{i:Nat}{d ever:List Int}{lk:List (aA×Int)}(h:bGi i d ever lk):decide ((lk.length:Int)=0)=false:=by
 obtain⟨x,hx,_⟩:=h;cases lk with
 |nil=>simp at hx
 |cons=>exact j6 (by simp;omega)
theorem bZl(hbad:∀d lk,Q (false,d,lk)){D:Nat}(hD:D<=3000):∀n i k d lk ever,i+n=D->n<k->PS D d ever lk->bGi i d ever lk->cT Q D t k i d lk ever:=by
 intro n
 induction n with
 | zero=>
  intro i k d lk ever hi hk hP hd;cases k with
  |zero=>omega
  | succ k=>
   have hlt:decide ((i:Int)<(D:Int))=false:=j6 (by omega);simp only[cT,hlt,g6,nT,bZm hd];exact hbad _ _
 | succ n ih=>
  intro i k d lk ever hi hk hP hd;cases k with
  |zero=>omega
  | succ k=>
   have hlt:i<D:=by omega
   have hsz:=hP.sz;simp only[cT,m6,hlt,j4,i7];exact bFg Q hbad (cT Q D t k) D hlt (λd lk ever h1 h2=>ih (i+1) k d lk ever (by omega) (by omega) h1 h2) lk.length BIG d lk ever (n5 _) (cB (by omega)) hP hd
include hLn in
theorem bMn(hL:LOK L){S:List Int}(hD:S.length=t.Slots.length)(hS:S.length<=1000)(hLl:L.length<=500):∀n i k d lk ever U,i+n=S.length->n<k->GI L S i d ever U->PS S.length d ever lk->LK L lk U->
  (∀d' U',gZ L n i d ever U=some (d',U')->U'.length=L.length->Q (true,d',[]))->
  ((∀d' U',gZ L n i d ever U=some (d',U')->U'.length≠L.length)->∀d lk,Q (false,d,lk))->cT Q S.length t k i d lk ever:=by
 intro n
 induction n with
 | zero =>
  intro i k d lk ever U hi hk hG hP hK hok hbad;cases k with
  |zero=>omega
  | succ k=>
   have hlt:decide ((i:Int)<(S.length:Int))=false:=j6 (by omega);simp only[cT,hlt,g6,nT]
   by_cases hU:U.length=L.length
   ·have hnil:lk=[]:=by
     cases lk with
     |nil=>rfl
     | cons p lk=>
      have hp:=(hK.mem p.1).1 (by simp);have:=nodup_le (l:=p.1::U) (m:=L) (w6.2 ⟨hp.2,hG.un⟩) λx hx=>by
       rcases l4.1 hx with rfl|hx
       ·exact hp.1
       ·exact hG.us x hx
      simp only[aB2] at this
      omega
    subst hnil;exact hok d U rfl hU
   ·have hne:lk≠[]:=by
     rintro rfl;refine hU (Nat.le_antisymm (nodup_le hG.un hG.us) (nodup_le hLn λx hx=>?_));refine aA3 λhxu=>?_;have:=(hK.mem x).2 ⟨hx,hxu⟩
     simp at this
    have:decide ((lk.length:Int)=0)=false:=by
     cases lk with
     |nil=>exact absurd rfl hne
     |cons=>exact j6 (by simp;omega)
    rw[this];refine hbad (λd' U' h=>?_) _ _;simp only[gZ,m7,aE8] at h;rw[<-h.2];exact hU
 | succ n ih=>
  intro i k d lk ever U hi hk hG hP hK hok hbad;cases k with
  |zero=>omega
  | succ k=>
   have hlt:i<S.length:=by omega
   have hsz:=hP.sz;simp only[cT,m6,hlt,j4,i7];refine bXt hLn Q (cT Q S.length t k) S.length hlt (L.length+1) BIG d lk (d.getD i 0) ever U ?_ hP rfl (hD▸hG.start hlt) hK (by omega) (λnow' ever' U' lk' h1 h2 h3=>?_) λh=>⟨?_,λd' lk' ever' h1 h2=>?_⟩
   ·exact Nat.le_of_lt (cB (by omega))
   ·refine ih (i+1) k (d.set i now') lk' ever' U' (by omega) (by omega) (hG.next hL hlt h1) h3 h2 (λd' U'' h hl=>hok d' U'' ?_ hl) λh=>hbad λd' U'' h'=>h d' U'' ?_
    ·rw[gZ,h1];exact h
    ·rw[gZ,h1] at h';exact h'
   ·exact hbad λd' U' h'=>by rw[gZ,h] at h';simp at h'
   ·exact bZl Q (hbad λd' U' h'=>by rw[gZ,h] at h';simp at h') (by omega) n (i+1) k d' lk' ever' (by omega) (by omega) h1 h2
include hLn in
theorem bJz(hT:aHy t.Slots)(hL:LOK L)(h32:t.Slots.length<=32)(hLl:L.length<=500){lk:List (aA×Int)}(hK:LK L lk [])
  (hok:∀d U,gZ L t.Slots.length 0 t.Slots t.Slots []=some (d,U)->U.length=L.length->Q (true,d,[]))
  (hbad:(∀d U,gZ L t.Slots.length 0 t.Slots t.Slots []=some (d,U)->U.length≠L.length)->∀d lk,Q (false,d,lk)):mR t t.Slots lk Q:=by
 have hlk:lk.length<=500:=by
  have:=nodup_le hK.nd (λx hx=>((hK.mem x).1 hx).1);rw[m8] at this
  omega
 unfold mR;refine⟨t.Slots,by unfold kQ;rw[gD (by simp;omega)];rfl,?_⟩;exact bMn hLn Q hL rfl (by omega) hLl t.Slots.length 0 BIG t.Slots lk t.Slots [] (by omega) (cB (by omega)) (aNi L hT) ⟨rfl,by omega,λx hx=>hx,hK.nd⟩ hK hok hbad
end
end Go.Am
end
section
namespace Go.Am
def cell(a r:Nat):aB:=⟨(r:Int),((a/2^(r+1):Nat):Int)⟩
abbrev pQ:=aB->Int->Prop
def Func(P:pQ):Prop:=∀m v w,P m v->P m w->v=w
def clm(d:List Int)(a r:Nat):pQ:=λm v=>v=d.getD a 0/\∃q,q<=r/\m=cell a q
def vK(P Q:pQ):Prop:=∀m v w,P m v->Q m w->v=w
theorem Func.sub{P Q:pQ}(h:Func P)(hs:∀m v,Q m v->P m v):Func Q:=λm v w h1 h2=>h m v w (hs _ _ h1) (hs _ _ h2)
theorem bZf{a b q r:Nat}(h:cell a q=cell b r):q=r/\a/2^(q+1)=b/2^(r+1):=by
 simp only[cell,aB.mk.injEq] at h
 omega
structure WonIs(won:List (aB×Int))(P:pQ):Prop where
 nd:(won.map (·.1)).Nodup
 mem:∀m v,(m,v)∈won↔P m v
theorem WonIs.ext{won:List (aB×Int)}{P Q:pQ}(h:WonIs won P)(he:∀m v,P m v↔Q m v):WonIs won Q:=⟨h.nd,λm v=>(h.mem m v).trans (he m v)⟩
theorem WonIs.get{won:List (aB×Int)}{P:pQ}(h:WonIs won P){m:aB}{v z:Int}(hp:P m v):bW m z won=v:=aWn h.nd ((h.mem m v).2 hp)
theorem WonIs.has{won:List (aB×Int)}{P:pQ}(h:WonIs won P)(m:aB):cR m won=true↔∃v,P m v:=by
 rw[aJd,l9,l5]
 constructor
 ·rintro⟨⟨m',v⟩,hv,rfl⟩;exact⟨v,(h.mem _ _).1 hv⟩
 ·rintro⟨v,hv⟩;exact⟨(m,v),(h.mem _ _).2 hv,rfl⟩
theorem WonIs.func{won:List (aB×Int)}{P:pQ}(h:WonIs won P):Func P:=λm v w h1 h2=>(h.get (z:=0) h1).symm.trans (h.get h2)
theorem WonIs.nil:WonIs [] (λ_ _=>False):=⟨by simp,by simp⟩
theorem WonIs.set{won:List (aB×Int)}{P:pQ}(h:WonIs won P){m:aB}{n:Int}(hc:∀v,P m v->v=n):WonIs (dE m n won) (λx v=>P x v\/(x=m/\v=n)):=by
 by_cases hm:m∈won.map (·.1)
 ·obtain⟨⟨m',v⟩,hv,e⟩:=l5.1 hm;simp only at e;subst e;have:v=n:=hc v ((h.mem _ _).1 hv);subst this;rw[aSg h.nd hv];exact⟨h.nd,λx w=>⟨λhx=>.inl ((h.mem _ _).1 hx),λhx=>hx.elim (h.mem _ _).2 λ⟨a,b⟩=>a▸b▸hv⟩⟩
 ·rw[bEn hm];refine⟨?_,λx w=>?_⟩
  ·rw[v7];exact aF0.2 ⟨h.nd,by simp,λx hx y hy=>by simp at hy;subst hy;exactλe=>hm (e▸hx)⟩
  ·rw[i6,l7,h.mem,aE8]
structure DOK(t:aD)(d:List Int):Prop where
 len:d.length=t.Slots.length
 dup:∀a b,a<b->b<d.length->d.getD a 0=d.getD b 0->d.getD b 0= -1
 bye:∀a,a<d.length->(d.getD a 0= -1↔t.Slots.getD a 0= -1)
 rng:∀a,a<d.length→-1<=d.getD a 0
theorem DOK.uni{t:aD}{d:List Int}(h:DOK t d){a b:Nat}(ha:a<d.length)(hb:b<d.length)(e:d.getD a 0=d.getD b 0)(hn:d.getD a 0≠-1):a=b:=by
 rcases Nat.lt_trichotomy a b with hl|rfl|hl
 ·exact absurd (h.dup a b hl hb e) (e▸hn)
 ·rfl
 ·exact absurd (h.dup b a hl ha e.symm) hn
def sib(a:Nat):Nat:=if a % 2=0 then a+1 else a-1
theorem cCn(a:Nat):sib a/2=a/2:=by unfold sib;split<;>omega
theorem aNt(a:Nat):cell (sib a) 0=cell a 0:=by simp[cell,cCn]
theorem cGh{a b:Nat}(h:a/2=b/2):a=b\/a=sib b:=by unfold sib;split<;>omega
def bZe(d:List Int):pQ:=λm v=>∃i,i<d.length/\d.getD i 0= -1/\m=cell (sib i) 0/\v=d.getD (sib i) 0
def aUe(d:List Int)(D:aA->Prop):pQ:=λm v=>∃x,D x/\∃a,a<d.length/\d.getD a 0=x.Player/\clm d a x.Round.toNat m v
def eR(d:List Int)(D:aA->Prop):pQ:=λm v=>bZe d m v\/aUe d D m v
def gs(d:List Int)(x:aA):Prop:=∃a,a<d.length/\d.getD a 0=x.Player/\cell a x.Round.toNat=⟨x.Round,x.Place⟩
def Res(l:List aA)(x:aA):Prop:=x∈l/\x.Kind≠5
structure OKF(d:List Int)(l:List aA):Prop where
 two:aTg l
 slot:∀x,Res l x->gs d x
 fn:Func (eR d (Res l))
theorem aNa{t:aD}(ht:TreeOK t){i:Nat}(h:i<t.Slots.length):sib i<t.Slots.length:=by
 have h1:=ht.r1;have h2:=ht.len;have:t.Slots.length % 2=0:=by
  rw[h2];obtain⟨k,hk⟩:∃k,t.Rounds.toNat=k+1:=⟨t.Rounds.toNat-1,by omega⟩;rw[hk,aH7];omega
 unfold sib;split<;>omega
theorem DOK.sib_ne{t:aD}(ht:TreeOK t){d:List Int}(h:DOK t d){i:Nat}(hi:i<d.length)(hb:d.getD i 0= -1):d.getD (sib i) 0≠-1:=by
 have hi':i<t.Slots.length:=h.len▸hi;have hs:=aNa ht hi';have hsd:sib i<d.length:=h.len▸hs;intro hc;have e1:=(h.bye _ hi).1 hb;have e2:=(h.bye _ hsd).1 hc;rw[bC hi'] at e1;rw[bC hs] at e2;unfold sib at e2 hs
 by_cases he:i % 2=0
 ·obtain⟨j,rfl⟩:∃j,i=2*j:=⟨i/2,by omega⟩;simp only[he,aF2] at e2 hs;exact ht.bye j hs e1 e2
 ·obtain⟨j,rfl⟩:∃j,i=2*j+1:=⟨i/2,by omega⟩;simp only[he,aB8,Nat.add_sub_cancel] at e2 hs;exact ht.bye j hi' e2 e1
theorem bUe{t:aD}(ht:TreeOK t){d:List Int}(h:DOK t d){i j:Nat}(hi:i<d.length)(hj:j<d.length)(bi:d.getD i 0= -1)(bj:d.getD j 0= -1)(hc:cell (sib i) 0=cell (sib j) 0):i=j:=by
 rw[aNt,aNt] at hc;have hc:=(bZf hc).2;simp only[s8,Nat.pow_one] at hc
 rcases cGh hc with e|e
 ·exact e
 ·have:=h.sib_ne ht hj bj;rw[<-e] at this;exact absurd bi this
theorem cAm{t:aD}{d:List Int}(h:DOK t d)(hl:d.length<=1000){a:Nat}(ha:a<d.length)(hn:d.getD a 0≠-1):iY d (d.getD a 0)=some (a:Int):=by
 rw[aIl d (by omega)];have:d.findIdx? (λx=>decide (d.getD a 0=x))=some a:=by
  rw[aA0];refine⟨ha,by rw[bC ha];simp,λj hj=>?_⟩;simp only[Bool.not_eq_true,n9];intro e;rw[<-bC (show j<d.length by omega) 0] at e;have:=h.uni ha (show j<d.length by omega) e hn
  omega
 rw[this]
theorem bQw{d:List Int}(hl:d.length<=1000){n:Int}(hn:∀a,a<d.length->d.getD a 0≠n):iY d n=some (-1):=by
 rw[aIl d (by omega)];have:d.findIdx? (λx=>decide (n=x))=none:=by
  rw[List.findIdx?_eq_none_iff];intro x hx;obtain⟨i,hi,rfl⟩:=aG2.1 hx;have:=hn i hi;rw[bC hi] at this
  simpa using aF9 this
 rw[this]
end Go.Am
end
section
namespace Go.Am
theorem aVz(a r:Nat):(a:Int).fdiv (2^(r+1))=((a/2^(r+1):Nat):Int):=by
 have e:(2:Int)^(r+1)=((2^(r+1):Nat):Int):=by simp
 rw[e];exact(Int.ofNat_fdiv a (2^(r+1))).symm
theorem cEk{a r:Nat}(hr:r<=5):yL (r:Int) (a:Int)=some (cell a r):=by
 have hw:w64 ((r:Int)+1)=((r+1:Nat):Int):=bF (by omega);have hch:chk (decide (0<=((r+1:Nat):Int)))=some ():=by unfold chk;rw[n7 (by omega)];rfl
 have hm:min ((r+1:Nat):Int).toNat 64=r+1:=by omega
 unfold yL;rw[hw,hch,c6,hm,aVz]
 rfl
theorem bFk{t:aD}{d:List Int}{P:pQ}{a r:Nat}(ha:a<d.length)(hr:r<=5){won:List (aB×Int)}(h:WonIs won P):
  ∃b w,pZ t d won a r=some (b,w)/\(b=true->vK P (clm d a r)/\WonIs w (λm v=>P m v\/clm d a r m v))/\(b=false->¬vK P (clm d a r)):=by
 have key:∀n q k won',q+n=r+1->n<k->WonIs won' (λm v=>P m v\/(v=d.getD a 0/\∃p,p<q/\m=cell a p))->(∀p,p<q->∀v,P (cell a p) v->v=d.getD a 0)->
   ∃b w,kV a ((r+1:Nat):Int) d t k q won'=some (b,w)/\(b=true->vK P (clm d a r)/\WonIs w (λm v=>P m v\/clm d a r m v))/\(b=false->¬vK P (clm d a r)):=by
  intro n
  induction n with
  | zero=>
   intro q k won' hq hk hW hc;have:q=r+1:=by omega
   subst this;cases k with
   |zero=>omega
   | succ k=>
    have hlt:decide (((r+1:Nat):Int)<((r+1:Nat):Int))=false:=j6 (by omega);simp only[kV,hlt,g6,aBu];refine⟨true,won',rfl,λ_=>⟨?_,hW.ext λm v=>?_⟩,λe=>by cases e⟩
    ·rintro m v w hp ⟨rfl,p,hp',rfl⟩;exact hc p (by omega) v hp
    ·constructor
     ·rintro(h|⟨e,p,hp,e2⟩)
      ·exact .inl h
      ·exact .inr ⟨e,p,by omega,e2⟩
     ·rintro(h|⟨e,p,hp,e2⟩)
      ·exact .inl h
      ·exact .inr ⟨e,p,by omega,e2⟩
  | succ n ih=>
   intro q k won' hq hk hW hc;cases k with
   |zero=>omega
   | succ k=>
    have hlt:decide ((q:Int)<((r+1:Nat):Int))=true:=n7 (by omega);simp only[kV,hlt,i7,cEk (show q<=5 by omega),c6,bI ha,bF (show q<9223372036854775807 by omega)];rw[<-bC ha 0]
    by_cases hex:∃v,P (cell a q) v/\v≠d.getD a 0
    ·obtain⟨v,hv,hne⟩:=hex;have hh:cR (cell a q) won'=true:=(hW.has _).2 ⟨v,.inl hv⟩;have hg:bW (cell a q) 0 won'=v:=hW.get (.inl hv);simp only[hh,hg,i7,hne,m5,n8,c6];exact⟨false,won',rfl,λe=>(by cases e),λ_ hco=>hne (hco _ v _ hv ⟨rfl,q,by omega,rfl⟩)⟩
    ·have hall:∀v,P (cell a q) v->v=d.getD a 0:=λv hv=>aA3 λe=>hex ⟨v,hv,e⟩;have hall':∀v,(P (cell a q) v\/(v=d.getD a 0/\∃p,p<q/\cell a q=cell a p))->v=d.getD a 0:=by
      rintro v (h|⟨h,_⟩)
      ·exact hall v h
      ·exact h
     have hb:((bif cR (cell a q) won' then some (!decide (bW (cell a q) 0 won'=d.getD a 0)) else some false):Option Bool)=some false:=by
      cases hh:cR (cell a q) won' with
      |false=>rfl
      | true=>
       obtain⟨v,hv⟩:=(hW.has _).1 hh;rw[hW.get hv,hall' v hv]
       simp
     simp only[hb,c6,g6];refine ih (q+1) k _ (by omega) (by omega) ((hW.set hall').ext λm v=>?_) λp hp v hv=>?_
     ·constructor
      ·rintro((h|⟨e,p,hp,e2⟩)|⟨e1,e2⟩)
       ·exact .inl h
       ·exact .inr ⟨e,p,by omega,e2⟩
       ·exact .inr ⟨e2,q,by omega,e1⟩
      ·rintro(h|⟨e,p,hp,e2⟩)
       ·exact .inl (.inl h)
       ·by_cases hpq:p=q
        ·subst hpq;exact .inr ⟨e2,e⟩
        ·exact .inl (.inr ⟨e,p,by omega,e2⟩)
     ·by_cases hpq:p=q
      ·subst hpq;exact hall v hv
      ·exact hc p (by omega) v hv
 have:=key (r+1) 0 BIG won (by omega) (cB (by omega)) (h.ext λm v=>by simp) (λp hp=>by omega);unfold pZ;rw[bF (show r<9223372036854775807 by omega)];exact this
theorem aZm{α:Type}{l:List α}(hnd:l.Nodup){j:Nat}(hj:j<l.length){x:α}:x∈l.eraseIdx j↔x∈l/\x≠l[j]:=by
 rw[List.mem_eraseIdx_iff_getElem]
 constructor
 ·rintro⟨i,hi,hne,rfl⟩;exact⟨j9 hi,λe=>hne ((List.getElem_inj hnd).1 e)⟩
 ·rintro⟨hm,hne⟩;obtain⟨i,hi,rfl⟩:=aG2.1 hm;exact⟨i,hi,λe=>hne (by subst e;rfl),rfl⟩
structure ROK(t:aD)(s:aA):Prop where
 p0:0<=s.Player
 r0:0<=s.Round
 r1:s.Round<t.Rounds
theorem aXo{t:aD}{s:aA}(h:fG t s=true)(hk:s.Kind≠5):ROK t s:=by
 simp only[fG,hk,aB8,f4,kS,iZ] at h;exact⟨h.1.1,h.2.1.1.2.1.1,by omega⟩
section
variable{t:aD}(ht:TreeOK t){d:List Int}(hD:DOK t d){l:List aA}(hR:∀s,Res l s->ROK t s)
include ht hD
omit ht in
theorem bWe{s:aA}(hr:ROK t s){a:Nat}(ha:a<d.length)(he:d.getD a 0=s.Player):gs d s↔cell a s.Round.toNat=⟨s.Round,s.Place⟩:=by
 have hp:=hr.p0
 constructor
 ·rintro⟨b,hb,e,h⟩;have:=hD.uni ha hb (he.trans e.symm) (by omega);subst this;exact h
 ·exactλh=>⟨a,ha,he,h⟩
omit ht in
theorem aTc{s:aA}(hr:ROK t s){a:Nat}(ha:a<d.length)(he:d.getD a 0=s.Player)(m:aB)(v:Int):aUe d (λx=>x=s) m v↔clm d a s.Round.toNat m v:=by
 have hp:=hr.p0
 constructor
 ·rintro⟨x,rfl,b,hb,e,h⟩;have:=hD.uni ha hb (he.trans e.symm) (by omega);subst this;exact h
 ·exactλh=>⟨s,rfl,a,ha,he,h⟩
include hR in
theorem bLl{Q:(Option bJ×Bool)->Prop}{about:List (aB×aA)}(ham:∀m s,(m,s)∈about↔(s∈l/\s.Kind≠5/\m=⟨s.Round,s.Place⟩))(hN:aTg l)
  (hok:OKF d l->∀won,WonIs won (eR d (Res l))->Q (some ⟨t,d,won⟩,true))(hbad:¬OKF d l->Q (none,false)):
  ∀n k left won,left.length=n->n<k->left.Nodup->(∀p∈left,p∈about)->WonIs won (eR d (λs=>Res l s/\((⟨s.Round,s.Place⟩:aB),s)∉left))->(∀s,Res l s->((⟨s.Round,s.Place⟩:aB),s)∉left->gs d s)->
  lT Q d t about k won left:=by
 have h5:=ht.r5;have h32:=ht.len32;have hl:=hD.len;intro n
 induction n with
 | zero=>
  intro k left won hn hk hnd hsub hW hg;have:left=[]:=aD5.1 hn;subst this;cases k with
  |zero=>omega
  | succ k=>
   simp only[lT,aAf];have hW':WonIs won (eR d (Res l)):=hW.ext λm v=>by simp[eR,aUe]
   exact⟨λ_=>hok ⟨hN,λx hx=>hg x hx (by simp),hW'.func⟩ won hW',λj p hj=>by simp at hj⟩
 | succ n ih=>
  intro k left won hn hk hnd hsub hW hg;cases k with
  |zero=>omega
  | succ k=>
   simp only[lT];refine⟨λe=>by subst e;simp at hn,λj p hj=>?_⟩;have hjl:j<left.length:=by
    rcases aC1 j left.length with h|h
    ·exact h
    ·rw[aC3 h] at hj;cases hj
   have hpm:p∈left:=i8 hj;obtain⟨m,s⟩:=p;obtain⟨s1,s2,rfl⟩:=(ham m s).1 (hsub _ hpm);have hres:Res l s:=⟨s1,s2⟩;have hr:=hR s hres;have hp0:=hr.p0;have hr0:=hr.r0;have hr1:=hr.r1;have er:s.Round=((s.Round.toNat:Nat):Int):=by omega
   by_cases hex:∃a,a<d.length/\d.getD a 0=s.Player
   ·obtain⟨a,ha,he⟩:=hex;refine⟨_,he▸cAm hD (by omega) ha (by omega),?_⟩;have hneg:decide ((a:Int)<0)=false:=j6 (by omega);have hof:yL s.Round a=some (cell a s.Round.toNat):=by rw[er];exact cEk (by omega)
    simp only[hneg,g6,hof,c6];refine⟨_,rfl,?_⟩
    by_cases hc:cell a s.Round.toNat=⟨s.Round,s.Place⟩
    ·simp only[hc,j4,l8,g6];obtain⟨b,w,hw,hT,hF⟩:=bFk (t:=t) ha (show s.Round.toNat<=5 by omega) hW;rw[<-er] at hw;refine⟨_,hw,?_⟩;cases b with
     | false=>
      simp only[n8,i7];refine hbad λhO=>hF rfl λm v w' h1 h2=>hO.fn m v w' ?_ (.inr ⟨s,hres,a,ha,he,h2⟩)
      rcases h1 with h1|⟨x,hx,h1⟩
      ·exact .inl h1
      ·exact .inr ⟨x,hx.1,h1⟩
     | true=>
      simp only[l8,g6];have hj':left[j]=(⟨s.Round,s.Place⟩,s):=by
       rw[g9 hjl] at hj;exact z7 hj
      have hmem:∀x:aA,((⟨x.Round,x.Place⟩:aB),x)∉left.eraseIdx j↔((⟨x.Round,x.Place⟩:aB),x)∉left\/x=s:=by
       intro x;rw[aZm hnd hjl,hj']
       constructor
       ·intro h
        by_cases hx:x=s
        ·exact .inr hx
        ·exact .inl λhm=>h ⟨hm,λe=>hx (aA5 Prod.snd e)⟩
       ·rintro(h|rfl)
        ·exactλh2=>h h2.1
        ·exactλh=>h.2 rfl
      refine ih k _ w (by rw[aG1];simp[hjl];omega) (by omega) (hnd.eraseIdx j) (λq hq=>hsub q (aE3 hq)) ((hT rfl).2.ext λm v=>?_) λx hx hxl=>?_
      ·constructor
       ·rintro((h|⟨x,hx,h⟩)|h)
        ·exact .inl h
        ·exact .inr ⟨x,⟨hx.1,(hmem x).2 (.inl hx.2)⟩,h⟩
        ·exact .inr ⟨s,⟨hres,(hmem s).2 (.inr rfl)⟩,a,ha,he,h⟩
       ·rintro(h|⟨x,⟨hx1,hx2⟩,h⟩)
        ·exact .inl (.inl h)
        ·rcases(hmem x).1 hx2 with hx2|rfl
         ·exact .inl (.inr ⟨x,⟨hx1,hx2⟩,h⟩)
         ·exact .inr ((aTc hD hr ha he m v).1 ⟨x,rfl,h⟩)
      ·rcases(hmem x).1 hxl with hxl|rfl
       ·exact hg x hx hxl
       ·exact⟨a,ha,he,hc⟩
    ·simp only[hc,m5,n8,i7];exact hbad λhO=>hc ((bWe hD hr ha he).1 (hO.slot s hres))
   ·refine⟨_,bQw (by omega) λa ha e=>hex ⟨a,ha,e⟩,?_⟩;simp only[show decide ((-1:Int)<0)=true by decide,i7];refine⟨_,rfl,?_⟩;simp only[i7];refine hbad λhO=>?_;obtain⟨a,ha,e,_⟩:=hO.slot s hres;exact hex ⟨a,ha,e⟩
theorem bPr{Q:(Option bJ×Bool)->Prop}{about:List (aB×aA)}(hgo:∀won,WonIs won (bZe d)->uX Q d won t about):iP Q d.length d t about BIG 0 []:=by
 have h32:=ht.len32;have hl:=hD.len;refine uM (S:=List (aB×Int)) (λk i won=>iP Q d.length d t about k i won) d.length (λp=>p)
  (λi won=>WonIs won (λm v=>∃j,j<i/\j<d.length/\d.getD j 0= -1/\m=cell (sib j) 0/\v=d.getD (sib j) 0)) ?_ ?_ BIG 0 [] (cB (by omega)) (WonIs.nil.ext λm v=>by simp)
 ·intro k i won hi hW ih;simp only[iP,m6,hi,j4,i7,bI hi,bF (show i<9223372036854775807 by omega)];refine⟨_,rfl,?_⟩;rw[<-bC hi 0]
  by_cases hb:d.getD i 0= -1
  ·simp only[hb,j4,i7];have hx:bBk (i:Int) 1=((sib i:Nat):Int):=cMn ⟨i,by omega⟩;have hs:sib i<d.length:=by rw[hl];exact aNa ht (by omega)
   obtain⟨b,w,hw,hT,hF⟩:=bFk (t:=t) hs (show 0<=5 by omega) hW;rw[hx];refine⟨_,hw,ih w ?_⟩;have hco:vK (λm v=>∃j,j<i/\j<d.length/\d.getD j 0= -1/\m=cell (sib j) 0/\v=d.getD (sib j) 0) (clm d (sib i) 0):=by
    rintro m v w' ⟨j,h1,h2,h3,h4,h5⟩ ⟨e1,q,hq,e2⟩;have:q=0:=by omega
    subst this;have:=bUe ht hD hi h2 hb h3 (e2.symm.trans h4)
    omega
   have hbt:b=true:=by
    cases b with
    |true=>rfl
    |false=>exact absurd hco (hF rfl)
   refine(hT hbt).2.ext λm v=>?_
   constructor
   ·rintro(⟨j,h1,h2⟩|⟨e1,q,hq,e2⟩)
    ·exact⟨j,by omega,h2⟩
    ·have:q=0:=by omega
     subst this;exact⟨i,by omega,hi,hb,e2,e1⟩
   ·rintro⟨j,h1,h2,h3,h4,h5⟩
    by_cases hji:j=i
    ·subst hji;exact .inr ⟨h5,0,by omega,h4⟩
    ·exact .inl ⟨j,by omega,h2,h3,h4,h5⟩
  ·simp only[hb,m5,g6];refine ih won (hW.ext λm v=>?_)
   constructor
   ·rintro⟨j,h1,h2⟩;exact⟨j,by omega,h2⟩
   ·rintro⟨j,h1,h2,h3,h4⟩
    by_cases hji:j=i
    ·subst hji;exact absurd h3 hb
    ·exact⟨j,by omega,h2,h3,h4⟩
 ·intro k i won hi hW;have hlt:decide ((i:Int)<(d.length:Int))=false:=j6 (by omega);simp only[iP,hlt,g6];exact hgo won (hW.ext λm v=>⟨λ⟨j,_,h⟩=>⟨j,h⟩,λ⟨j,h⟩=>⟨j,by have:=h.1;omega,h⟩⟩)
end
def oV(t:aD)(l:List aA):Option (List Int):=match aPe t l with
 |some (d,U)=>if U.length=(dF l).length then some d else none
 |none=>none
def AGR(t:aD)(l:List aA)(d:List Int):Prop:=oV t l=some d/\OKF d l
theorem bEs{L:List aA}(hL:LOK L){S:List Int}:∀{n i:Nat} {d ever:List Int} {U:List aA} {d':List Int} {U':List aA},GI L S i d ever U->i+n=S.length->(∀a,a<d.length→-1<=d.getD a 0)->gZ L n i d ever U=some (d',U')->∀a,a<d'.length→-1<=d'.getD a 0
 | 0,i,d,ever,U,d',U',h,hn,hr,he=>by
  simp only[gZ,m7,aE8] at he;obtain⟨rfl,rfl⟩:=he;exact hr
 | n +1,i,d,ever,U,d',U',h,hn,hr,he=>by
  unfold gZ at he;have hi:i<S.length:=by omega
  have hid:i<d.length:=by rw[h.len];exact hi
  cases hs:jX L i (L.length+1) (d.getD i 0) ever U with
  |none=>rw[hs] at he;simp at he
  | some q=>
   obtain⟨now',ever',U1⟩:=q;rw[hs] at he;obtain⟨_,_,hnow,_⟩:=aPr hL (h.start hi) hs;refine bEs hL (h.next hL hi hs) (by omega) (λa ha=>?_) he;rw[aA7] at ha;rw[nL hid]
   split
   ·rcases hnow with e|⟨_,e,_⟩
    ·rw[e];exact hr i hid
    ·omega
   ·exact hr a ha
theorem aHf{t:aD}(ht:TreeOK t):aHy t.Slots:=⟨ht.rng,ht.bye,ht.dup⟩
theorem aXn{t:aD}{l:List aA}(hs:∀s∈l,fG t s=true):LOK (dF l):=by
 intro s hm;simp only[dF,z6,qN,isL,l9] at hm;have:=hs s hm.1;simp only[fG,hm.2,aF2,f4,kS] at this
 omega
theorem bWv{t:aD}(ht:TreeOK t){l:List aA}(hs:∀s∈l,fG t s=true){d:List Int}{U:List aA}(h:aPe t l=some (d,U)):DOK t d:=by
 have hL:=aXn hs;have hG:=aNi (dF l) (aHf ht);obtain⟨ever,hI⟩:=aPb hL hG (by omega) h;refine⟨hI.len,hI.dup,λa ha=>hI.bye a ha,bEs hL hG (by omega) (λa ha=>?_) h⟩;rw[bC ha];exact(ht.rng a ha).1
theorem aPd{t:aD}(ht:TreeOK t){l:List aA}(hs:∀s∈l,fG t s=true){d:List Int}(h:oV t l=some d):DOK t d:=by
 unfold oV at h;split at h
 ·rename_i d' U hr
  split at h
  ·cases h;exact bWv ht hs hr
  ·cases h
 ·cases h
theorem aXu{t:aD}(ht:TreeOK t){l:List aA}(hs:∀s∈l,fG t s=true)(hl:l.length<=500){Q:(Option bJ×Bool)->Prop}
  (hok:∀d,AGR t l d->∀won,WonIs won (eR d (Res l))->Q (some ⟨t,d,won⟩,true))(hbad:(∀d,¬AGR t l d)->Q (none,false)):vP t l Q:=by
 have h32:=ht.len32;have hll:=aOm (l:=l);unfold vP;refine⟨t.Slots,by unfold kQ;rw[gD (by simp;omega)];rfl,?_⟩;refine bPs (by omega) (λh=>hbad λd hd=>h hd.2.two) λhN lucky about hLA=>?_;unfold uW;have hLn:(dF l).Nodup:=(aLp l).filter _;refine bJz hLn _ (aHf ht) (aXn hs) h32 (by omega) (lk:=lucky) ⟨hLA.ln,λs=>?_⟩ (λd U hp hU=>?_) λhno d lk=>?_
 ·rw[hLA.lm];simp[dF,qN,isL]
 ·have hpo:oV t l=some d:=by unfold oV aPe;rw[hp];simp[hU]
  have hD:=aPd ht hs hpo;simp only[l8,g6];refine bPr ht hD λwon hW=>?_;have habn:about.Nodup:=(List.Pairwise.of_map (·.1) (λa b h e=>h (e▸rfl)) hLA.an);unfold uX aMp;refine bLl ht hD (λs hr=>aXo (hs s hr.1) hr.2) hLA.am hN (λhO won hW=>hok d ⟨hpo,hO⟩ won hW) (λhO=>hbad λd' hd'=>?_) about.length BIG about won rfl (cB ?_) habn (λp hp=>hp) (hW.ext λm v=>?_) λs hr hn=>absurd ((hLA.am _ _).2 ⟨hr.1,hr.2,rfl⟩) hn
  ·have:=hd'.1;rw[hpo] at this;cases this;exact hO hd'.2
  ·have:about.length<=l.length:=by
    have:=nodup_le (l:=about) (m:=l.map λs=>((⟨s.Round,s.Place⟩:aB),s)) habn λx hx=>?_
    ·simpa using this
    ·obtain⟨m,s⟩:=x;obtain⟨a1,a2,rfl⟩:=(hLA.am m s).1 hx;exact l5.2 ⟨s,a1,rfl⟩
   omega
  ·constructor
   ·exact .inl
   ·rintro(h|⟨x,⟨hx1,hx2⟩,_⟩)
    ·exact h
    ·exact absurd ((hLA.am _ _).2 ⟨hx1.1,hx1.2,rfl⟩) hx2
 ·simp only[n8,i7];refine hbad λd' hd'=>?_;have:=hd'.1;unfold oV at this;split at this
  ·rename_i d2 U hr
   split at this
   ·rename_i hU;exact hno d2 U hr hU
   ·cases this
  ·cases this
end Go.Am
end
section
namespace Go.Am
def mat(must:List (List Int))(r p:Nat):Int:=(must.getD r []).getD p (-2)
structure MustIs(t:aD)(must:List (List Int))(P:pQ):Prop where
 len:must.length=t.Rounds.toNat
 row:∀r:Nat,r<t.Rounds.toNat->(must.getD r []).length=bM t r
 mem:∀(r p:Nat) (v:Int),r<t.Rounds.toNat->p<bM t r->((mat must r p=v/\v≠-2)↔P ⟨r,p⟩ v)
theorem MustIs.ext{t:aD}{must:List (List Int)}{P Q:pQ}(h:MustIs t must P)(he:∀m v,P m v↔Q m v):MustIs t must Q:=⟨h.len,h.row,λr p v h1 h2=>(h.mem r p v h1 h2).trans (he _ v)⟩
theorem MustIs.set{t:aD}{must:List (List Int)}{P:pQ}(h:MustIs t must P){r p:Nat}{n:Int}(hr:r<t.Rounds.toNat)(hp:p<bM t r)(hn:n≠-2)(hc:∀v,P ⟨r,p⟩ v->v=n):
  MustIs t (must.set r ((must.getD r []).set p n)) (λm v=>P m v\/(m=⟨r,p⟩/\v=n)):=by
 have hl:=h.len;have hrow:=h.row r hr;have hrl:r<must.length:=by omega
 have hg:∀r',(must.set r ((must.getD r []).set p n)).getD r' []=if r'=r then(must.getD r []).set p n else must.getD r' []:=by
  intro r'
  by_cases e:r'=r
  ·subst e;simp[List.getD,hrl]
  ·simp[List.getD,e,aB3,aF9 e]
 refine⟨by rw[aA7];exact hl,λr' hr'=>?_,λr' p' v hr' hp'=>?_⟩
 ·rw[hg]
  split
  ·rename_i e;subst e;rw[aA7];exact h.row r' hr'
  ·exact h.row r' hr'
 ·have hm:=h.mem r' p' v hr' hp';unfold mat at hm|-;rw[hg]
  by_cases e:r'=r
  ·subst e;rw[if_pos rfl]
   by_cases e2:p'=p
   ·subst e2;have:((must.getD r' []).set p' n).getD p' (-2)=n:=by simp[List.getD];rw[aB3];simp;have:=hrow;simp[List.getD] at this;simp[this,hp]
    rw[this]
    constructor
    ·rintro⟨rfl,_⟩;exact .inr ⟨rfl,rfl⟩
    ·rintro(hP|⟨_,rfl⟩)
     ·exact⟨(hc v hP).symm,(hm.2 hP).2⟩
     ·exact⟨rfl,hn⟩
   ·have:((must.getD r' []).set p n).getD p' (-2)=(must.getD r' []).getD p' (-2):=by simp only[List.getD];rw[aB3,if_neg (aF9 e2)]
    rw[this,hm]
    constructor
    ·exact .inl
    ·rintro(hP|⟨e3,_⟩)
     ·exact hP
     ·simp only[aB.mk.injEq] at e3;omega
  ·rw[if_neg e,hm]
   constructor
   ·exact .inl
   ·rintro(hP|⟨e3,_⟩)
    ·exact hP
    ·simp only[aB.mk.injEq] at e3;omega
theorem MustIs.func{t:aD}{must:List (List Int)}{P:pQ}(h:MustIs t must P){r p:Nat}(hr:r<t.Rounds.toNat)(hp:p<bM t r){v w:Int}(h1:P ⟨r,p⟩ v)(h2:P ⟨r,p⟩ w):v=w:=
 ((h.mem r p v hr hp).2 h1).1.symm.trans ((h.mem r p w hr hp).2 h2).1
section
variable{t:aD}(ht:TreeOK t){d:List Int}(hD:DOK t d)
include ht
theorem aIb{a r:Nat}(ha:a<t.Slots.length)(hr:r<t.Rounds.toNat):a/2^(r+1)<bM t r:=by
 rw[ht.len] at ha;unfold bM;rw[Nat.div_lt_iff_lt_mul (Nat.two_pow_pos _),<-Nat.pow_add];have e:t.Rounds.toNat-1-(r:Int).toNat+(r+1)=t.Rounds.toNat:=by simp;omega
 rw[e];exact ha
theorem aEn:2*bM t 0=t.Slots.length:=by
 have h1:=ht.r1;rw[ht.len];unfold bM;have e:t.Rounds.toNat=(t.Rounds.toNat-1-(0:Int).toNat)+1:=by simp;omega
 conv=>rhs;rw[e,aH7]
 omega
omit ht in
def aBw(d:List Int)(p:Nat):Int:=if d.getD (2*p+1) 0= -1 then d.getD (2*p) 0 else if d.getD (2*p) 0= -1 then d.getD (2*p+1) 0 else-2
def aAp(t:aD)(d:List Int)(r:Nat):List Int:=(List.range (bM t r)).map λp=>if r=0 then aBw d p else-2
include hD in
theorem cHm(a0:Int->List (List Int)->List Int->Option (aI×Bool))(l:List aA)(o4:aI)(M:List (List Int))(d2:List Int){r:Nat}(hr:r<t.Rounds.toNat):
  eD a0 l d r t o4 M d2 BIG 0 []=mG a0 l d r t o4 M d2 (aAp t d r):=by
 have hpl:=qP ht (r:=(r:Int));have h5:=ht.r5;have hP:=aKd ht (r:=(r:Int)) (by omega) (by omega);have hp0:=aEn ht;have hlen:=hD.len;have:=eX (S:=List Int) (λk p row=>eD a0 l d r t o4 M d2 k p row) (bM t r) (λ_ _=>mG a0 l d r t o4 M d2 (aAp t d r)) (λp row=>row=(List.range p).map λp=>if r=0 then aBw d p else-2) ?_ ?_ BIG [] (cB (by omega)) (by simp)
 ·exact this
 ·rintro k p row hp rfl ih;have happ:∀v:Int,app 8 ((List.range p).map λp=>if r=0 then aBw d p else-2) [v]=some (((List.range p).map λp=>if r=0 then aBw d p else-2)++[v]):=λv=>gD (by simp;omega);simp only[eD,hP,c6,m6,hp,j4,i7,happ,bF (show p<9223372036854775807 by omega)];have fin:∀v:Int,v=(if r=0 then aBw d p else-2)->eD a0 l d r t o4 M d2 k ((p+1:Nat):Int) (((List.range p).map λp=>if r=0 then aBw d p else-2)++[v])=mG a0 l d r t o4 M d2 (aAp t d r):=by
   intro v hv;refine ih _ ?_;rw[aC9,v7,hv];rfl
  by_cases h0:r=0
  ·subst h0;have hpl2:p<bM t 0:=hp;have w1:w64 (2*(p:Int))=((2*p:Nat):Int):=by rw[cV (by omega) (by omega)];omega
   have w2:w64 (((2*p:Nat):Int)+1)=((2*p+1:Nat):Int):=bF (by omega);have i1:2*p<d.length:=by omega
   have i2:2*p+1<d.length:=by omega
   simp only[w1,w2,bI i1,bI i2,c6,aG8,j4,i7];rw[<-bC i1 0,<-bC i2 0]
   by_cases b1:d.getD (2*p) 0= -1
   ·by_cases b2:d.getD (2*p+1) 0= -1
    ·simp only[b1,b2,j4,i7];exact fin _ (by simp only[aBw,b1,b2,aF2])
    ·simp only[b1,b2,j4,m5,i7,g6];exact fin _ (by simp only[aBw,b1,b2,aF2,aB8])
   ·by_cases b2:d.getD (2*p+1) 0= -1
    ·simp only[b1,b2,j4,m5,i7,g6];exact fin _ (by simp only[aBw,b2,aF2])
    ·simp only[b1,b2,m5,g6];exact fin _ (by simp only[aBw,b1,b2,aF2,aB8])
  ·have hr0:decide ((r:Int)=0)=false:=j6 (by omega);simp only[hr0,g6,c6];exact fin _ (by rw[if_neg h0])
 ·intro k row hrow;have hlt:decide ((bM t r:Int)<(bM t r:Int))=false:=j6 (by omega);simp only[eD,hP,c6,hlt,g6,hrow,aAp]
include hD in
theorem cCc(l:List aA)(o4:aI)(d2:List Int):gL l d t o4 BIG 0 [] d2=mF l d o4 ((List.range t.Rounds.toNat).map (aAp t d)) d2:=by
 have h1:=ht.r1;have h5:=ht.r5;have e:t.Rounds=((t.Rounds.toNat:Nat):Int):=by omega
 have:=eX (S:=List (List Int)) (λk r M=>gL l d t o4 k r M d2) t.Rounds.toNat (λ_ _=>mF l d o4 ((List.range t.Rounds.toNat).map (aAp t d)) d2) (λr M=>M=(List.range r).map (aAp t d)) ?_ ?_ BIG [] (cB (by omega)) (by simp)
 ·exact this
 ·rintro k r M hr rfl ih;have hlt:decide ((r:Int)<t.Rounds)=true:=n7 (by omega);simp only[gL,hlt,i7,cHm ht hD _ l o4 _ d2 hr,mG,xE,bF (show r<9223372036854775807 by omega)];rw[gD (by simp;omega),c6];refine ih _ ?_;rw[aC9,v7];rfl
 ·rintro k M rfl;have hlt:decide (((t.Rounds.toNat:Nat):Int)<t.Rounds)=false:=j6 (by omega);simp only[gL,hlt,g6]
include hD in
theorem cNf:MustIs t ((List.range t.Rounds.toNat).map (aAp t d)) (bZe d):=by
 have hg:∀r,r<t.Rounds.toNat->((List.range t.Rounds.toNat).map (aAp t d)).getD r []=aAp t d r:=by
  intro r hr;rw[bC (by simpa using hr)];simp
 have hp0:=aEn ht;have hlen:=hD.len;refine⟨by simp,λr hr=>by rw[hg r hr];simp[aAp],λr p v hr hp=>?_⟩;have hm:mat ((List.range t.Rounds.toNat).map (aAp t d)) r p=if r=0 then aBw d p else-2:=by
  unfold mat;rw[hg r hr,bC (by simpa[aAp] using hp)]
  simp[aAp]
 rw[hm]
 by_cases h0:r=0
 ·subst h0;have hpl2:p<bM t 0:=hp;have i1:2*p<d.length:=by omega
  have i2:2*p+1<d.length:=by omega
  have s1:sib (2*p)=2*p+1:=by unfold sib;split<;>omega
  have s2:sib (2*p+1)=2*p:=by unfold sib;split<;>omega
  rw[if_pos rfl]
  constructor
  ·rintro⟨hv,hn⟩;unfold aBw at hv;split at hv
   ·rename_i b;exact⟨2*p+1,i2,b,by rw[s2];simp[cell],by rw[s2];exact hv.symm⟩
   ·split at hv
    ·rename_i b;exact⟨2*p,i1,b,by rw[s1];simp[cell];omega,by rw[s1];exact hv.symm⟩
    ·exact absurd hv.symm hn
  ·rintro⟨i,hi,hb,hc,rfl⟩;have hsib:=hD.sib_ne ht hi hb;have hsl:sib i<d.length:=by rw[hlen];exact aNa ht (by omega)
   have hrng:=hD.rng _ hsl;refine⟨?_,by omega⟩;have:p=i/2:=by
    rw[aNt] at hc;simp only[cell,aB.mk.injEq] at hc
    omega
   rcases(show i=2*p\/i=2*p+1 by omega) with rfl|rfl
   ·rw[s1] at hsib|-;unfold aBw;rw[if_neg hsib,if_pos hb]
   ·rw[s2];unfold aBw;rw[if_pos hb]
 ·rw[if_neg h0]
  constructor
  ·rintro⟨rfl,hn⟩;exact absurd rfl hn
  ·rintro⟨i,hi,hb,hc,_⟩;simp only[cell,aB.mk.injEq] at hc
   omega
end
end Go.Am
end
section
namespace Go.Am
abbrev aSj:Option (aI×Bool):=some (aI.mk [] [],false)
def Out(t:aD)(d:List Int)(l:List aA)(o:Option (aI×Bool)):Prop:=
 (OKF d l->∃must,o=some (⟨d,must⟩,true)/\MustIs t must (eR d (Res l)))/\(¬OKF d l->o=aSj)
theorem Out.bad{t:aD}{d:List Int}{l:List aA}(h:¬OKF d l):Out t d l aSj:=⟨λh'=>absurd h' h,λ_=>rfl⟩
section
variable{t:aD}(ht:TreeOK t){d:List Int}(hD:DOK t d){l:List aA}(hR:∀s,Res l s->ROK t s)
include ht hD
theorem bUg{P:pQ}{x:aA}(hx:ROK t x){a:Nat}(ha:a<d.length)(he:d.getD a 0=x.Player)(a4:Int->aI->List (List Int)->Option (aI×Bool))(all:List aA)(i:Int)(o4:aI)
  {must:List (List Int)}(h:MustIs t must P)(hok:vK P (clm d a x.Round.toNat)->∀must',MustIs t must' (λm v=>P m v\/clm d a x.Round.toNat m v)->Out t d l (a4 (w64 (i+1)) o4 must'))
  (hbad:¬vK P (clm d a x.Round.toNat)->¬OKF d l):Out t d l (lI a4 d all i a d x BIG 0 o4 must):=by
 have h5:=ht.r5;have hr0:=hx.r0;have hr1:=hx.r1;have hp0:=hx.p0;have hal:a<t.Slots.length:=by rw[<-hD.len];exact ha
 have key:∀n q k must',q+n=x.Round.toNat+1->n<k->MustIs t must' (λm v=>P m v\/(v=d.getD a 0/\∃p,p<q/\m=cell a p))->(∀p,p<q->∀v,P (cell a p) v->v=d.getD a 0)->
   Out t d l (lI a4 d all i a d x k q o4 must'):=by
  intro n
  induction n with
  | zero=>
   intro q k must' hq hk hW hc;cases k with
   |zero=>omega
   | succ k=>
    have hlt:decide ((q:Int)<=x.Round)=false:=j6 (by omega);simp only[lI,hlt,g6,aDq,sJ];refine hok ?_ must' (hW.ext λm v=>?_)
    ·rintro m v w hp ⟨rfl,p,hp',rfl⟩;exact hc p (by omega) v hp
    ·constructor
     ·rintro(h|⟨e,p,hp,e2⟩)
      ·exact .inl h
      ·exact .inr ⟨e,p,by omega,e2⟩
     ·rintro(h|⟨e,p,hp,e2⟩)
      ·exact .inl h
      ·exact .inr ⟨e,p,by omega,e2⟩
  | succ n ih=>
   intro q k must' hq hk hW hc;cases k with
   |zero=>omega
   | succ k=>
    have hlt:decide ((q:Int)<=x.Round)=true:=n7 (by omega);have hqR:q<t.Rounds.toNat:=by omega
    have hw:w64 ((q:Int)+1)=((q+1:Nat):Int):=bF (by omega);have hu:IntKind.u64.wrap ((q+1:Nat):Int)=((q+1:Nat):Int):=aLd (by omega) (by omega);have hch:chk (decide (0<=((q+1:Nat):Int)))=some ():=by unfold chk;rw[n7 (by omega)];rfl
    have hmin:min ((q+1:Nat):Int).toNat 64=q+1:=by omega
    have hml:=hW.len;have hrl:=hW.row q hqR;have hpin:=aIb ht hal hqR;have hql:q<must'.length:=by omega
    have hi1:idx must' (q:Int)=some (must'.getD q []):=by rw[bI hql,bC hql]
    have hi2:idx (must'.getD q []) ((a/2^(q+1):Nat):Int)=some (mat must' q (a/2^(q+1))):=by
     have hlt':a/2^(q+1)<(must'.getD q []).length:=by omega
     rw[bI hlt'];exact aA5 some (bC hlt' (-2)).symm
    simp only[lI,hlt,i7,hw,hu,hch,hmin,aVz,c6,hi1,hi2];have hmem:=λv=>hW.mem q (a/2^(q+1)) v hqR hpin;have hcell:(⟨(q:Int),((a/2^(q+1):Nat):Int)⟩:aB)=cell a q:=rfl;rw[hcell] at hmem
    by_cases hex:mat must' q (a/2^(q+1))≠-2/\mat must' q (a/2^(q+1))≠x.Player
    ·simp only[hex.1,hex.2,m5,n8,i7,c6];refine Out.bad (hbad λhco=>hex.2 ?_)
     rcases(hmem _).1 ⟨rfl,hex.1⟩ with h|⟨h,_⟩
     ·rw[<-he];exact hco _ _ _ h ⟨rfl,q,by omega,rfl⟩
     ·rw[h,he]
    ·have hb:((bif !decide (mat must' q (a/2^(q+1))= -2) then some (!decide (mat must' q (a/2^(q+1))=x.Player)) else some false):Option Bool)=some false:=by
      rw[dA,m7,aF6]
      by_cases h1:mat must' q (a/2^(q+1))= -2
      ·exact .inl (by simp[h1])
      ·exact .inr (by simpa usingλh2=>hex ⟨h1,h2⟩)
     have hall:∀v,(P (cell a q) v\/(v=d.getD a 0/\∃p,p<q/\cell a q=cell a p))->v=d.getD a 0:=by
      intro v hv;have⟨h1,h2⟩:=(hmem v).2 hv;rw[he];refine aA3 λhne=>hex ⟨by rw[h1];exact h2,by rw[h1];exact hne⟩
     simp only[hb,c6,g6];simp only[<-he];have e8:((q:Int)).toNat=q:=by omega
     have e9:(((a/2^(q+1):Nat)):Int).toNat=a/2^(q+1):=aD3 _;rw[e8,e9];rw[<-he] at hp0;refine ih (q+1) k _ (by omega) (by omega) ((hW.set hqR hpin (n:=d.getD a 0) (by omega) hall).ext λm v=>?_) λp hp v hv=>?_
     ·rw [hcell]
      constructor
      ·rintro((h|⟨e,p,hp,e2⟩)|⟨e1,e2⟩)
       ·exact .inl h
       ·exact .inr ⟨e,p,by omega,e2⟩
       ·exact .inr ⟨e2,q,by omega,e1⟩
      ·rintro(h|⟨e,p,hp,e2⟩)
       ·exact .inl (.inl h)
       ·by_cases hpq:p=q
        ·subst hpq;exact .inr ⟨e2,e⟩
        ·exact .inl (.inr ⟨e,p,by omega,e2⟩)
     ·by_cases hpq:p=q
      ·subst hpq;exact hall v (.inl hv)
      ·exact hc p (by omega) v hv
 exact key (x.Round.toNat+1) 0 BIG must (by omega) (cB (by omega)) (h.ext λm v=>by simp) (λp hp=>by omega)
omit ht in
theorem cAy(hl:d.length<=1000){x:aA}(hp:0<=x.Player)(a4:Int->aI->List (List Int)->Option (aI×Bool))(all:List aA)(i:Int)(o4:aI)(must:List (List Int))(d2:List Int):
  (∀a,a<d.length->d.getD a 0=x.Player->eV a4 d all i o4 must d2 x BIG (-1) 0=kI a4 d all i a o4 must d2 x)/\
  ((∀a,a<d.length->d.getD a 0≠x.Player)->eV a4 d all i o4 must d2 x BIG (-1) 0=kI a4 d all i (-1) o4 must d2 x):=by
 refine⟨λa ha he=>?_,λhno=>?_⟩
 ·have:=eX (S:=Int) (λk s at'=>eV a4 d all i o4 must d2 x k at' s) d.length (λs at'=>kI a4 d all i (if s<=a then(a:Int) else at') o4 must d2 x) (λ_ _=>True) ?_ ?_ BIG (-1) (cB (by omega)) trivial
  ·simpa using this
  ·intro k s at' hs _ ih;simp only[eV,m6,hs,j4,i7,bI hs,c6,bF (show s<9223372036854775807 by omega),ih _ trivial];rw[<-bC hs 0]
   by_cases hsa:s=a
   ·subst hsa;simp only[he,j4,i7];rw[if_neg (by omega),if_pos (n5 s)]
   ·have:d.getD s 0≠x.Player:=λe=>hsa (hD.uni hs ha (e.trans he.symm) (by omega));simp only[this,m5,g6]
    by_cases hle:s<=a
    ·rw[if_pos hle,if_pos (by omega)]
    ·rw[if_neg hle,if_neg (by omega)]
  ·intro k at' _;have hlt:decide ((d.length:Int)<(d.length:Int))=false:=j6 (by omega);simp only[eV,hlt,g6];rw[if_neg (by omega)]
 ·have:=eX (S:=Int) (λk s at'=>eV a4 d all i o4 must d2 x k at' s) d.length (λs at'=>kI a4 d all i at' o4 must d2 x) (λ_ _=>True) ?_ ?_ BIG (-1) (cB (by omega)) trivial
  ·exact this
  ·intro k s at' hs _ ih;simp only[eV,m6,hs,j4,i7,bI hs,c6,bF (show s<9223372036854775807 by omega),ih _ trivial];rw[<-bC hs 0];simp only[hno s hs,m5,g6]
  ·intro k at' _;have hlt:decide ((d.length:Int)<(d.length:Int))=false:=j6 (by omega);simp only[eV,hlt,g6]
include hR in
theorem bXs(hl:l.length<=1000):Out t d l (mF l d (aI.mk [] []) ((List.range t.Rounds.toNat).map (aAp t d)) d):=by
 have h5:=ht.r5;have h32:=ht.len32;have hlen:=hD.len;have hol:=aFx l;unfold mF;rw[bOd l hl,c6];refine uM (S:=List (List Int)) (λk i must=>eE d (bQ l) d k i (aI.mk [] []) must) (bQ l).length (Out t d l)
  (λi must=>MustIs t must (eR d (Res ((bQ l).take i)))/\(∀x,Res ((bQ l).take i) x->gs d x)/\aTg ((bQ l).take i)) ?_ ?_ BIG 0 _ (cB (by omega)) ?_
 ·intro k i must hi ⟨hM,hg,hN⟩ ih;have hmt:∀x,x∈(bQ l).take (i+1)↔x∈(bQ l).take i\/x=(bQ l)[i]:=λx=>by
   rw[p6 hi,i6,l7]
  have hsub:∀x,x∈(bQ l).take i->x∈l:=λx hx=>(qN l x).1 (List.mem_of_mem_take hx);simp only[eE,m6,hi,j4,i7,bI hi,c6]
  by_cases hk:(bQ l)[i].Kind=5
  ·simp only[hk,j4,i7,sJ,bF (show i<9223372036854775807 by omega)];have hres:∀x,Res ((bQ l).take (i+1)) x↔Res ((bQ l).take i) x:=by
    intro x;unfold Res;rw[hmt]
    constructor
    ·rintro⟨h|h,h2⟩
     ·exact⟨h,h2⟩
     ·exact absurd (h▸hk) h2
    ·rintro⟨h,h2⟩;exact⟨.inl h,h2⟩
   refine ih must ⟨hM.ext λm v=>?_,λx hx=>hg x ((hres x).1 hx),λx hx y hy kx ky=>hN x ((hres x).1 ⟨hx,kx⟩).1 y ((hres y).1 ⟨hy,ky⟩).1 kx ky⟩;simp only[eR,aUe,hres]
  ·have hmi:(bQ l)[i]∈l:=(qN l _).1 (j9 hi);have hresx:Res l (bQ l)[i]:=⟨hmi,hk⟩;have hx:=hR _ hresx;have hxp:=hx.p0;have hxr0:=hx.r0;have hxr1:=hx.r1;simp only[hk,m5,g6];have htwo:mH (eE d (bQ l) d k) d (bQ l) i must d (bQ l)[i] BIG 0 (aI.mk [] [])=
     bif (List.range i).all λj=>!(!decide ((bQ l)[j]?.any (λy=>decide (y.Kind=5))=true)&&decide ((bQ l)[j]?.any (λy=>decide (y.Round=(bQ l)[i].Round))=true)&&decide ((bQ l)[j]?.any (λy=>decide (y.Place=(bQ l)[i].Place))=true)) then
      xG (eE d (bQ l) d k) d (bQ l) i (aI.mk [] []) must d (bQ l)[i] else aSj:=by
    refine gR (λq j=>mH (eE d (bQ l) d k) d (bQ l) i must d (bQ l)[i] q j (aI.mk [] [])) i _ aSj _ ?_ ?_ BIG (cB (by omega))
    ·intro q j hj;have hj':j<(bQ l).length:=by omega
     simp only[mH,m6,hj,j4,i7,bI hj',c6,dA,bF (show j<9223372036854775807 by omega),g9 hj',aH3,l9];cases(!decide ((bQ l)[j].Kind=5)&&decide ((bQ l)[j].Round=(bQ l)[i].Round)&&decide ((bQ l)[j].Place=(bQ l)[i].Place))<;>rfl
    ·intro q;have hlt:decide ((i:Int)<(i:Int))=false:=j6 (by omega);simp only[mH,hlt,g6]
   rw[htwo];cases hall:(List.range i).all λj=>!(!decide ((bQ l)[j]?.any (λy=>decide (y.Kind=5))=true)&&decide ((bQ l)[j]?.any (λy=>decide (y.Round=(bQ l)[i].Round))=true)&&decide ((bQ l)[j]?.any (λy=>decide (y.Place=(bQ l)[i].Place))=true)) with
   | false=>
    rw[g6];refine Out.bad λhO=>?_;rw[List.all_eq_false] at hall;obtain⟨j,hj,hb⟩:=hall;simp only[u6] at hj;have hj':j<(bQ l).length:=by omega
    rw[Bool.not_eq_true,Bool.not_eq_false'] at hb;simp only[g9 hj',aH3,f4,l6,l9,n9] at hb;have:=hO.two _ ((qN l _).1 (j9 hj')) _ hmi hb.1.1 hk hb.1.2 hb.2;have:=(List.getElem_inj (aLp l)).1 this
    omega
   | true =>
    rw[i7];rw[gP] at hall;have hfresh:∀y,y∈(bQ l).take i->y.Kind≠5->¬(y.Round=(bQ l)[i].Round/\y.Place=(bQ l)[i].Place):=by
     rintro y hy ky ⟨e1,e2⟩;obtain⟨j,hj,rfl⟩:=y9.1 hy;have hj':j<(bQ l).length:=by omega
     have:=hall j (by omega);simp only[g9 hj',aH3,l6,aF6,Bool.not_eq_false',l9,n9] at this
     rcases this with(h|h)|h
     ·exact ky h
     ·exact h e1
     ·exact h e2
    unfold xG;have hlast:=cAy hD (by omega) hxp (eE d (bQ l) d k) (bQ l) i (aI.mk [] []) must d
    by_cases hex:∃a,a<d.length/\d.getD a 0=(bQ l)[i].Player
    ·obtain⟨a,ha,he⟩:=hex;rw[hlast.1 a ha he];have er:(bQ l)[i].Round=(((bQ l)[i].Round.toNat:Nat):Int):=by omega
     have hw:w64 ((bQ l)[i].Round+1)=(((bQ l)[i].Round.toNat+1:Nat):Int):=by rw[cV (by omega) (by omega)];omega
     have hu:IntKind.u64.wrap (((bQ l)[i].Round.toNat+1:Nat):Int)=(((bQ l)[i].Round.toNat+1:Nat):Int):=aLd (by omega) (by omega);have hch:chk (decide (0<=(((bQ l)[i].Round.toNat+1:Nat):Int)))=some ():=by unfold chk;rw[n7 (by omega)];rfl
     have hmin:min (((bQ l)[i].Round.toNat+1:Nat):Int).toNat 64=(bQ l)[i].Round.toNat+1:=by omega
     have hneg:decide ((a:Int)<0)=false:=j6 (by omega);have hcell:cell a (bQ l)[i].Round.toNat=⟨(bQ l)[i].Round,(bQ l)[i].Place⟩↔((a/2^((bQ l)[i].Round.toNat+1):Nat):Int)=(bQ l)[i].Place:=by
      simp only[cell,aB.mk.injEq,<-er,true_and]
     unfold kI;simp only[hneg,g6,hw,hu,hch,hmin,aVz,c6]
     by_cases hc:((a/2^((bQ l)[i].Round.toNat+1):Nat):Int)=(bQ l)[i].Place
     ·simp only[hc,j4,l8,g6];refine bUg ht hD hx ha he _ _ _ _ hM (λhco must' hM'=>?_) λhco hO=>hco λm v w h1 h2=>hO.fn m v w ?_ (.inr ⟨_,hresx,a,ha,he,h2⟩)
      ·rw [bF (show i<9223372036854775807 by omega)];have hres:∀x,Res ((bQ l).take (i+1)) x↔Res ((bQ l).take i) x\/x=(bQ l)[i]:=by
        intro x;unfold Res;rw[hmt]
        constructor
        ·rintro⟨h|h,h2⟩
         ·exact .inl ⟨h,h2⟩
         ·exact .inr h
        ·rintro(⟨h,h2⟩|rfl)
         ·exact⟨.inl h,h2⟩
         ·exact⟨.inr rfl,hk⟩
       refine ih must' ⟨hM'.ext λm v=>?_,λx hxx=>?_,λx hxx y hyy kx ky e1 e2=>?_⟩
       ·constructor
        ·rintro((h|⟨y,hy,h⟩)|h)
         ·exact .inl h
         ·exact .inr ⟨y,(hres y).2 (.inl hy),h⟩
         ·exact .inr ⟨_,(hres _).2 (.inr rfl),a,ha,he,h⟩
        ·rintro(h|⟨y,hy,h⟩)
         ·exact .inl (.inl h)
         ·rcases(hres y).1 hy with hy|rfl
          ·exact .inl (.inr ⟨y,hy,h⟩)
          ·exact .inr ((aTc hD hx ha he m v).1 ⟨_,rfl,h⟩)
       ·rcases(hres x).1 hxx with h|rfl
        ·exact hg x h
        ·exact⟨a,ha,he,hcell.2 hc⟩
       ·rcases(hres x).1 ⟨hxx,kx⟩ with h|rfl
        ·rcases(hres y).1 ⟨hyy,ky⟩ with h'|rfl
         ·exact hN x h.1 y h'.1 kx ky e1 e2
         ·exact absurd ⟨e1,e2⟩ (hfresh x h.1 kx)
        ·rcases(hres y).1 ⟨hyy,ky⟩ with h'|h'
         ·exact absurd ⟨e1.symm,e2.symm⟩ (hfresh y h'.1 ky)
         ·exact h'.symm
      ·rcases h1 with h1|⟨y,hy,h1⟩
       ·exact .inl h1
       ·exact .inr ⟨y,⟨hsub y hy.1,hy.2⟩,h1⟩
     ·simp only[hc,m5,n8,i7];exact Out.bad λhO=>hc (hcell.1 ((bWe hD hx ha he).1 (hO.slot _ hresx)))
    ·rw[hlast.2 λa ha e=>hex ⟨a,ha,e⟩];unfold kI;simp only[show decide ((-1:Int)<0)=true by decide,i7,c6];refine Out.bad λhO=>?_;obtain⟨a,ha,e,_⟩:=hO.slot _ hresx;exact hex ⟨a,ha,e⟩
 ·intro k i must hi ⟨hM,hg,hN⟩;have hlt:decide ((i:Int)<((bQ l).length:Int))=false:=j6 (by omega);have hta:(bQ l).take i=bQ l:=aC6 (by omega);rw[hta] at hM hg hN;have hres:∀x,Res (bQ l) x↔Res l x:=λx=>by unfold Res;rw[qN]
  have hM':MustIs t must (eR d (Res l)):=hM.ext λm v=>by simp only[eR,aUe,hres]
  simp only[eE,hlt,g6,xF];refine⟨λ_=>⟨must,rfl,hM'⟩,λhO=>absurd ⟨λx hx y hy=>hN x ((qN l x).2 hx) y ((qN l y).2 hy),λx hx=>hg x ((hres x).2 hx),?_⟩ hO⟩;intro m v w h1 h2;have hin:∀{v},eR d (Res l) m v->∃r p:Nat,m=⟨r,p⟩/\r<t.Rounds.toNat/\p<bM t r:=by
   have h1:=ht.r1;rintro v (⟨j,hj,hb,rfl,_⟩|⟨x,hx,a,ha,he,_,q,hq,rfl⟩)
   ·refine⟨0,sib j/2^(0+1),rfl,by omega,aIb ht (aNa ht (by omega)) (by omega)⟩
   ·have:=(hR x hx).r1;have:=(hR x hx).r0;exact⟨q,a/2^(q+1),rfl,by omega,aIb ht (by omega) (by omega)⟩
  obtain⟨r,p,rfl,hr,hp⟩:=hin h1;exact hM'.func hr hp h1 h2
 ·refine⟨(cNf ht hD).ext λm v=>?_,λx hx=>absurd hx.1 (by simp),λx hx=>absurd hx (by simp)⟩
  simp[eR,aUe,Res]
end
theorem bDu{t:aD}(ht:TreeOK t){l:List aA}(hs:∀s∈l,fG t s=true)(hl:l.length<=1000):
  (∀d,AGR t l d->∃must,cK t l=some (⟨d,must⟩,true)/\MustIs t must (eR d (Res l)))/\((∀d,¬AGR t l d)->cK t l=aSj):=by
 have h32:=ht.len32;have hP:=bPi hl h32 (aHf ht) (aXn hs);unfold cK;rw[hP,c6];cases hp:aPe t l with
 | none=>
  have hno:∀d,¬AGR t l d:=λd h=>by have:=h.1;unfold oV at this;rw[hp] at this;cases this
  exact⟨λd h=>absurd h (hno d),λ_=>rfl⟩
 | some q=>
  obtain⟨d,U⟩:=q;simp only
  by_cases hU:U.length=(dF l).length
  ·have hpo:oV t l=some d:=by unfold oV;rw[hp];simp[hU]
   have hD:=aPd ht hs hpo;have hO:=bXs ht hD (λs hr=>aXo (hs s hr.1) hr.2) hl;simp only[hU,j4,l8,g6,cCc ht hD];refine⟨λd' hd'=>?_,λhno=>hO.2 λh=>hno d ⟨hpo,h⟩⟩;have:=hd'.1;rw[hpo] at this;cases this;exact hO.1 hd'.2
  ·have hno:∀d,¬AGR t l d:=λd h=>by have:=h.1;unfold oV at this;rw[hp] at this;simp[hU] at this
   simp only[hU,m5,n8,i7];exact⟨λd h=>absurd h (hno d),λ_=>trivial⟩
end Go.Am
end
section
namespace Go.Am
structure Good(t:aD)(l:List aA)(d:List Int):Prop where
 tree:aFk t=true
 len:l.length<=60
 slips:∀s∈l,fG t s=true
 agr:AGR t l d
inductive Stat(t:aD)(l:List aA):Int->Prop
 |s70:aFk t=false->Stat t l 70
 |s71:aFk t=true->(60<l.length\/∃s∈l,fG t s=false)->Stat t l 71
 |s72:aFk t=true->l.length<=60->(∀s∈l,fG t s=true)->(∀d,¬AGR t l d)->Stat t l 72
theorem Stat.ne{t:aD}{l:List aA}{e:Int}(h:Stat t l e):decide (e=0)=false:=by cases h<;>rfl
theorem vH(t:aD)(l:List aA):(∃d,Good t l d)\/∃e,Stat t l e:=by
 cases ht:aFk t with
 |false=>exact .inr ⟨70,.s70 ht⟩
 | true=>
  by_cases hl:60<l.length
  ·exact .inr ⟨71,.s71 ht (.inl hl)⟩
  ·by_cases hs:∃s∈l,fG t s=false
   ·exact .inr ⟨71,.s71 ht (.inr hs)⟩
   ·have hs':∀s∈l,fG t s=true:=λs hm=>by
     cases h:fG t s with
     |true=>rfl
     |false=>exact absurd ⟨s,hm,h⟩ hs
    by_cases hd:∃d,AGR t l d
    ·obtain⟨d,hd⟩:=hd;exact .inl ⟨d,ht,by omega,hs',hd⟩
    ·exact .inr ⟨72,.s72 ht (by omega) hs' λd h=>hd ⟨d,h⟩⟩
theorem Good.ht{t:aD}{l:List aA}{d:List Int}(h:Good t l d):TreeOK t:=wY h.tree
theorem Good.dok{t:aD}{l:List aA}{d:List Int}(h:Good t l d):DOK t d:=aPd h.ht h.slips h.agr.1
theorem Good.uniq{t:aD}{l:List aA}{d d':List Int}(h:Good t l d)(h':Good t l d'):d=d':=by
 have:=h.agr.1;rw[h'.agr.1] at this;exact(z7 this).symm
theorem aJi{t:aD}{l:List aA}{e:Int}(h:Stat t l e){Q:(Option bJ×Int)->Prop}(hq:Q (none,e)):kG t l Q:=by
 unfold kG;refine⟨_,bEh t,?_⟩;cases h with
 |s70 ht=>simp only[ht,n8,i7];exact hq
 | s71 ht hs=>
  simp only[ht,l8,g6]
  by_cases hl:60<l.length
  ·have:decide (60<(l.length:Int))=true:=n7 (by omega);simp only[this,i7];exact⟨_,rfl,hq⟩
  ·have:decide (60<(l.length:Int))=false:=j6 (by omega);simp only[this,g6];rw[uT l (by omega) _ (λs=>!fG t s) λx _=>by simp[tR,aRt (wY ht)]];refine⟨_,rfl,?_⟩;have:(l.any λs=>!fG t s)=true:=by
    rcases hs with h|⟨s,h1,h2⟩
    ·exact absurd h hl
    ·rw[aG7];exact⟨s,h1,by rw[h2];rfl⟩
   simp only[this,i7];exact hq
 | s72 ht hl hs hno=>
  have:decide (60<(l.length:Int))=false:=j6 (by omega);simp only[ht,l8,g6,this];rw[uT l (by omega) _ (λs=>!fG t s) λx _=>by simp[tR,aRt (wY ht)]];refine⟨_,rfl,?_⟩;have:(l.any λs=>!fG t s)=false:=by
   rw[aE9];intro s hm;rw[hs s hm];simp
  simp only[this,g6];exact aXu (wY ht) hs (by omega) (λd hd=>absurd hd (hno d)) λ_=>hq
theorem aFy{t:aD}{l:List aA}{d:List Int}(h:Good t l d){Q:(Option bJ×Int)->Prop}(hq:∀won,WonIs won (eR d (Res l))->Q (some ⟨t,d,won⟩,0)):kG t l Q:=by
 unfold kG;have hl:=h.len;have:decide (60<(l.length:Int))=false:=j6 (by omega);refine⟨_,bEh t,?_⟩;simp only[h.tree,l8,g6,this];rw[uT l (by omega) _ (λs=>!fG t s) λx _=>by simp[tR,aRt h.ht]];refine⟨_,rfl,?_⟩;have:(l.any λs=>!fG t s)=false:=by
  rw[aE9];intro s hm;rw[h.slips s hm];simp
 simp only[this,g6];refine aXu h.ht h.slips (by omega) (λd' hd won hW=>?_) λhno=>absurd h.agr (hno d);have:=h.uniq ⟨h.tree,h.len,h.slips,hd⟩;subst this;exact hq won hW
theorem aLf{t:aD}(ht:TreeOK t){l:List aA}(hl:l.length<=60):jN l t BIG 0=bif l.all (fG t) then nX l t else some 71:=by
 have:=gR (λk i=>jN l t k i) l.length (λi=>l[i]?.any (fG t)) (some 71) (nX l t) ?_ ?_ BIG (cB (by omega))
 ·rw [this];have e:(List.range l.length).all (λi=>l[i]?.any (fG t))=l.all (fG t):=by
   rw[aB4,gP,k6]
   constructor
   ·intro h x hx;obtain⟨i,hi,rfl⟩:=aG2.1 hx;have:=h i hi
    rwa[g9 hi] at this
   ·intro h i hi;rw[g9 hi];exact h _ (j9 hi)
  rw[e]
 ·intro k i hi;simp only[jN,m6,hi,j4,i7,bI hi,c6,bQz ht,bF (show i<9223372036854775807 by omega),g9 hi,aH3];cases fG t l[i]<;>rfl
 ·intro k;have hlt:decide ((l.length:Int)<(l.length:Int))=false:=j6 (by omega);simp only[jN,hlt,g6]
theorem wW{t:aD}{l:List aA}{e:Int}(h:Stat t l e):eM t l=some e:=by
 unfold eM;rw[bDh,c6];cases h with
 |s70 ht=>simp only[ht,n8,i7]
 | s71 ht hs=>
  simp only[ht,l8,g6]
  by_cases hl:60<l.length
  ·have:decide (60<(l.length:Int))=true:=n7 (by omega);simp only[this,i7]
  ·have:decide (60<(l.length:Int))=false:=j6 (by omega);have h2:l.all (fG t)=false:=by
    rcases hs with h|⟨s,h1,h2⟩
    ·exact absurd h hl
    ·rw[List.all_eq_false];exact⟨s,h1,by simp[h2]⟩
   simp only[this,g6,aLf (wY ht) (show l.length<=60 by omega),h2]
 | s72 ht hl hs hno=>
  have:decide (60<(l.length:Int))=false:=j6 (by omega);have h2:l.all (fG t)=true:=by rw[k6];exact hs
  simp only[ht,l8,g6,this,aLf (wY ht) hl,h2,i7,nX,(bDu (wY ht) hs (by omega)).2 hno,c6,n8]
theorem sN{t:aD}{l:List aA}{d:List Int}(h:Good t l d):∃must,cK t l=some (⟨d,must⟩,true)/\MustIs t must (eR d (Res l)):=
 (bDu h.ht h.slips (by have:=h.len;omega)).1 d h.agr
theorem uS{t:aD}{l:List aA}{d:List Int}(h:Good t l d):eM t l=some 0:=by
 have hl:=h.len;have:decide (60<(l.length:Int))=false:=j6 (by omega);have h2:l.all (fG t)=true:=by rw[k6];exact h.slips
 obtain⟨must,hd,_⟩:=sN h;unfold eM;rw[bDh,c6];simp only[h.tree,l8,g6,this,aLf h.ht hl,h2,i7,nX,hd,c6]
theorem aWj{t:aD}{won:List (aB×Int)}{must:List (List Int)}{P:pQ}(hW:WonIs won P)(hM:MustIs t must P){r p:Nat}(hr:r<t.Rounds.toNat)(hp:p<bM t r):
  cR (⟨r,p⟩:aB) won=!decide (mat must r p= -2):=by
 rw[aB4,hW.has,l6,n9]
 constructor
 ·rintro⟨v,hv⟩;have:=(hM.mem r p v hr hp).2 hv;rw[this.1];exact this.2
 ·exactλh=>⟨_,(hM.mem r p _ hr hp).1 ⟨rfl,h⟩⟩
theorem bIn{t:aD}{won:List (aB×Int)}{must:List (List Int)}{P:pQ}(hW:WonIs won P)(hM:MustIs t must P){r p:Nat}(hr:r<t.Rounds.toNat)(hp:p<bM t r)(h:mat must r p≠-2)(z:Int):
  bW (⟨r,p⟩:aB) z won=mat must r p:=hW.get ((hM.mem r p _ hr hp).1 ⟨rfl,h⟩)
theorem aTn{t:aD}{must:List (List Int)}{P:pQ}(hM:MustIs t must P){r p:Nat}(hr:r<t.Rounds.toNat)(hp:p<bM t r):((idx must (r:Int)).bind λx=>idx x (p:Int))=some (mat must r p):=by
 have hl:=hM.len;have hrow:=hM.row r hr;have hrl:r<must.length:=by omega
 rw[bI hrl,c6];unfold mat;rw[bC hrl] at hrow|-;have hp':p<must[r].length:=by omega
 rw[bI hp',bC hp']
theorem aFe{t:aD}{r:Nat}(hr:r+1<t.Rounds.toNat):bM t r=2*bM t ((r+1:Nat):Int):=by
 unfold bM;have e:t.Rounds.toNat-1-((r:Nat):Int).toNat=(t.Rounds.toNat-1-((r+1:Nat):Int).toNat)+1:=by omega
 rw[e,aH7];omega
def dB(d:List Int)(must:List (List Int))(r at':Nat):Int:=if r=0 then d.getD at' 0 else mat must (r-1) at'
section
variable{t:aD}(ht:TreeOK t){d:List Int}(hD:DOK t d){must:List (List Int)}{P:pQ}(hM:MustIs t must P){won:List (aB×Int)}(hW:WonIs won P)
include ht hD hM
theorem bWh{r p s:Nat}(hr:r<t.Rounds.toNat)(hp:p<bM t r)(hs:s<2):vS ⟨d,must⟩ r p s=some (dB d must r (2*p+s)):=by
 have hpl:=qP ht (r:=(r:Int));have h5:=ht.r5;have w1:w64 (2*(p:Int))=((2*p:Nat):Int):=by rw[cV (by omega) (by omega)];omega
 have w2:w64 (((2*p:Nat):Int)+(s:Int))=((2*p+s:Nat):Int):=by rw[cV (by omega) (by omega)];omega
 unfold vS dB;simp only[w1,w2]
 by_cases h0:r=0
 ·subst h0;have hp0:=aEn ht;have hlen:=hD.len;have hpl2:p<bM t 0:=hp;have hi:2*p+s<d.length:=by omega
  simp only[aG8,j4,i7,bI hi,c6,aF2,bC hi]
 ·have hr0:decide ((r:Int)=0)=false:=j6 (by omega);have hw:w64 ((r:Int)-1)=((r-1:Nat):Int):=aEy (by omega) (by omega);have hph:=aFe (t:=t) (r:=r-1) (by omega);have e:r-1+1=r:=by omega
  rw[e] at hph;have:=aTn hM (r:=r-1) (p:=2*p+s) (by omega) (by omega);simp only[hr0,g6,hw,if_neg h0];rw[<-this]
  congr 1
  funext x
  cases idx x ((2*p+s:Nat):Int)<;>rfl
include hW
theorem bOq{r p s:Nat}(hr:r<t.Rounds.toNat)(hp:p<bM t r)(hs:s<2):pY ⟨t,d,won⟩ ⟨r,p⟩ s=some (dB d must r (2*p+s)):=by
 have hpl:=qP ht (r:=(r:Int));have h5:=ht.r5;have w1:w64 (2*(p:Int))=((2*p:Nat):Int):=by rw[cV (by omega) (by omega)];omega
 have w2:w64 (((2*p:Nat):Int)+(s:Int))=((2*p+s:Nat):Int):=by rw[cV (by omega) (by omega)];omega
 unfold pY dB;simp only[w1,w2]
 by_cases h0:r=0
 ·subst h0;have hp0:=aEn ht;have hlen:=hD.len;have hpl2:p<bM t 0:=hp;have hi:2*p+s<d.length:=by omega
  simp only[aG8,j4,i7,bI hi,c6,aF2,bC hi]
 ·have hr0:decide ((r:Int)=0)=false:=j6 (by omega);have hw:w64 ((r:Int)-1)=((r-1:Nat):Int):=aEy (by omega) (by omega);have hph:=aFe (t:=t) (r:=r-1) (by omega);have e:r-1+1=r:=by omega
  rw[e] at hph;simp only[hr0,g6,hw,if_neg h0];have h1:r-1<t.Rounds.toNat:=by omega
  have h2:2*p+s<bM t ((r-1:Nat):Int):=by omega
  rw[aWj hW hM h1 h2]
  by_cases hm:mat must (r-1) (2*p+s)= -2
  ·simp only[hm,j4,l8,g6]
  ·simp only[hm,m5,n8,i7,bIn hW hM h1 h2 hm]
omit ht hD hM hW
def tC(t:aD)(d:List Int)(must:List (List Int))(r:Nat):List aG:=(List.range (bM t r)).map λp:Nat=>⟨r,p,dB d must r (2*p),dB d must r (2*p+1)⟩
def bT(t:aD)(d:List Int)(must:List (List Int)):List aG:=(List.range t.Rounds.toNat).flatMap (tC t d must)
theorem aBq{α:Type}(f:Nat->List α)(n:Nat):(List.range (n+1)).flatMap f=(List.range n).flatMap f++f n:=by
 rw[aC9,List.flatMap_append];simp
include ht
theorem bYt(r:Nat):(tC t d must r).length<=16:=by
 have:=qP ht (r:=(r:Int))
 simpa[tC] using this
theorem aKf:∀r,((List.range r).flatMap (tC t d must)).length<=16*r
 |0=>by simp
 | r+1=>by
  have h1:=aKf r;have h2:=bYt ht (d:=d) (must:=must) r;rw[aBq,aA8];omega
include hD hM
theorem bDp:oC t ⟨d,must⟩=some (bT t d must):=by
 have h1:=ht.r1;have h5:=ht.r5;unfold oC;have:=eX (S:=List aG) (λk r out=>eZ t ⟨d,must⟩ k r out) t.Rounds.toNat (λ_ _=>some (bT t d must)) (λr out=>out=(List.range r).flatMap (tC t d must)) ?_ ?_ BIG [] (cB (by omega)) (by simp)
 ·exact this
 ·rintro k r out hr rfl ih;have hfl:=aKf ht (d:=d) (must:=must) r;have hpl:=qP ht (r:=(r:Int));have hlt:decide ((r:Int)<t.Rounds)=true:=n7 (by omega);have hin:jO (eZ t ⟨d,must⟩ k) r t ⟨d,must⟩ BIG 0 ((List.range r).flatMap (tC t d must))=rL (eZ t ⟨d,must⟩ k) r t ⟨d,must⟩ ((List.range r).flatMap (tC t d must)++tC t d must r):=by
   have hP:=aKd ht (r:=(r:Int)) (by omega) (by omega);refine eX (S:=List aG) (λq p out=>jO (eZ t ⟨d,must⟩ k) r t ⟨d,must⟩ q p out) (bM t r) (λ_ _=>rL (eZ t ⟨d,must⟩ k) r t ⟨d,must⟩ ((List.range r).flatMap (tC t d must)++tC t d must r))
    (λp out=>out=(List.range r).flatMap (tC t d must)++(List.range p).map λp:Nat=>(⟨r,p,dB d must r (2*p),dB d must r (2*p+1)⟩:aG)) ?_ ?_ BIG _ (cB (by omega)) (by simp)
   ·rintro q p out hp rfl ih2;simp only[jO,hP,c6,m6,hp,j4,i7,bF (show p<9223372036854775807 by omega)];have e0:=bWh ht hD hM hr hp (s:=0) (by omega);have e1:=bWh ht hD hM hr hp (s:=1) (by omega);simp only[aG8,Int.natCast_one,aE1] at e0 e1;rw[e0,c6,e1,c6,gD (by simp only[aA8,m8,List.length_range,aB2,aF1];omega),c6];refine ih2 _ ?_;rw[aC9,v7,List.append_assoc];rfl
   ·rintro q out rfl;have hlt:decide ((bM t r:Int)<(bM t r:Int))=false:=j6 (by omega);simp only[jO,hP,c6,hlt,g6,tC]
  simp only[eZ,hlt,i7,hin,rL,aDp,bF (show r<9223372036854775807 by omega)];exact ih _ (aBq _ _).symm
 ·rintro k out rfl;have hlt:decide (((t.Rounds.toNat:Nat):Int)<t.Rounds)=false:=j6 (by omega);simp only[eZ,hlt,g6,aDo]
  rfl
include hW
theorem aZk{S:Type}(y:S->aB->aG->Option S)(f:List aG->S)(good:List aG->Prop)
  (hy:∀(out:List aG) (r p:Nat),r<t.Rounds.toNat->p<bM t r->out.length<=200->y (f out) ⟨r,p⟩ ⟨r,p,dB d must r (2*p),dB d must r (2*p+1)⟩=some (f (out++[⟨r,p,dB d must r (2*p),dB d must r (2*p+1)⟩]))):
  iQ ⟨t,d,won⟩ y (f [])=some (f (bT t d must)):=by
 have h1:=ht.r1;have h5:=ht.r5;unfold iQ;have:=eX (S:=S) (λk r out=>cZ y ⟨t,d,won⟩ t.Rounds k r out) t.Rounds.toNat (λ_ _=>some (f (bT t d must))) (λr out=>out=f ((List.range r).flatMap (tC t d must))) ?_ ?_ BIG (f []) (cB (by omega)) (by simp)
 ·exact this
 ·rintro k r out hr rfl ih;have hfl:=aKf ht (d:=d) (must:=must) r;have hpl:=qP ht (r:=(r:Int));have hlt:decide ((r:Int)<t.Rounds)=true:=n7 (by omega);have hch:chk (decide (0<=w64 ((r:Int)+1)))=some ():=by
   rw[bF (by omega)];unfold chk;rw[n7 (by omega)];rfl
  have hin:fE y (cZ y ⟨t,d,won⟩ t.Rounds k) ⟨t,d,won⟩ r t.Rounds r (bM t r) BIG 0 (f ((List.range r).flatMap (tC t d must)))=
    kZ y (cZ y ⟨t,d,won⟩ t.Rounds k) ⟨t,d,won⟩ t.Rounds r (f ((List.range r).flatMap (tC t d must)++tC t d must r)):=by
   refine eX (S:=S) (λq p out=>fE y (cZ y ⟨t,d,won⟩ t.Rounds k) ⟨t,d,won⟩ r t.Rounds r (bM t r) q p out) (bM t r) (λ_ _=>kZ y (cZ y ⟨t,d,won⟩ t.Rounds k) ⟨t,d,won⟩ t.Rounds r (f ((List.range r).flatMap (tC t d must)++tC t d must r)))
    (λp out=>out=f ((List.range r).flatMap (tC t d must)++(List.range p).map λp:Nat=>(⟨r,p,dB d must r (2*p),dB d must r (2*p+1)⟩:aG))) ?_ ?_ BIG _ (cB (by omega)) (by simp)
   ·rintro q p out hp rfl ih2;have e0:=bOq ht hD hM hW hr hp (s:=0) (by omega);have e1:=bOq ht hD hM hW hr hp (s:=1) (by omega);simp only[aG8,Int.natCast_one,aE1] at e0 e1;simp only[fE,m6,hp,j4,i7,bF (show p<9223372036854775807 by omega),e0,e1,c6];rw[hy _ r p hr hp (by simp only[aA8,m8,List.length_range,aB2,aF1];omega),c6];refine ih2 _ ?_;rw[aC9,v7,List.append_assoc];rfl
   ·rintro q out rfl;have hlt:decide ((bM t r:Int)<(bM t r:Int))=false:=j6 (by omega);simp only[fE,hlt,g6,tC]
  simp only[cZ,hlt,i7,hch,c6,bOp ht (r:=(r:Int)) (by omega) (by omega),hin,kZ,rV];rw[bF (show r<9223372036854775807 by omega)];exact ih _ (aA5 f (aBq _ _)).symm
 ·rintro k out rfl;have hlt:decide (((t.Rounds.toNat:Nat):Int)<t.Rounds)=false:=j6 (by omega);simp only[cZ,hlt,g6,rU]
  rfl
end
theorem bTo(t:aD)(l:List aA){r:Int}(h:eM t l=some r)(Q:Int->Prop)(hq:Q r):vN t l Q:=by
 unfold vN
 rcases vH t l with⟨d,hg⟩|⟨e,he⟩
 ·rw[uS hg] at h;cases h;exact aFy hg λwon _=>hq
 ·rw[wW he] at h;cases h;exact aJi he hq
theorem aNg{t:aD}{l:List aA}{d:List Int}(h:Good t l d){must:List (List Int)}(hd:cK t l=some (⟨d,must⟩,true))(hM:MustIs t must (eR d (Res l))):kH t l=some (bT t d must,0):=by
 unfold kH;rw[uS h,c6];simp only[j4,l8,g6,hd,c6,bDp h.ht h.dok hM]
theorem bDg{t:aD}{l:List aA}{e:Int}(h:Stat t l e):kH t l=some ([],e):=by
 unfold kH;rw[wW h,c6];simp only[h.ne,n8,i7]
theorem bTn(t:aD)(l:List aA){r:List aG×Int}(h:kH t l=some r)(Q:List aG×Int->Prop)(hq:Q r):vM t l Q:=by
 unfold vM
 rcases vH t l with⟨d,hg⟩|⟨e,he⟩
 ·obtain⟨must,hd,hM⟩:=sN hg;rw[aNg hg hd hM] at h;cases h;refine aFy hg λwon hW=>?_;simp only[j4,l8,g6];refine⟨_,rfl,_,?_,hq⟩;refine aZk hg.ht hg.dok hM hW _ (λx=>x) (λ_=>True) λout r p hr hp hl=>?_;rw[gD (by simp;omega)];rfl
 ·rw[bDg he] at h;cases h;refine aJi he ?_;simp only[he.ne,n8,i7];exact hq
theorem cJm{t:aD}{l:List aA}{e:Int}(h:Stat t l e){r p:Int}{Q:(Option bJ×aB×Int)->Prop}(hq:Q (none,⟨r,p⟩,e)):uY t l r p Q:=by
 unfold uY;refine aJi h ?_;simp only[h.ne,g6];exact⟨_,rfl,hq⟩
theorem cFl{t:aD}{l:List aA}{d:List Int}(h:Good t l d){r p:Int}{Q:(Option bJ×aB×Int)->Prop}(hq:∀won,WonIs won (eR d (Res l))->Q (some ⟨t,d,won⟩,⟨r,p⟩,bif iZ t r p then 0 else 1)):uY t l r p Q:=by
 unfold uY;refine aFy h λwon hW=>?_;have:=hq won hW;simp only[j4,i7,cDy h.ht,c6];refine⟨_,rfl,?_⟩;cases hm:iZ t r p with
 |true=>rw[hm] at this;exact this
 |false=>rw[hm] at this;exact this
theorem bBr{t:aD}{l:List aA}{e:Int}(h:Stat t l e)(r p:Int):kB t l r p=some e:=by
 unfold kB;rw[wW h,c6];simp only[h.ne,n8,i7]
theorem aKi{t:aD}{l:List aA}{d:List Int}(h:Good t l d)(r p:Int):kB t l r p=some (bif iZ t r p then 0 else 1):=by
 unfold kB;rw[uS h,c6];simp only[j4,l8,g6,aXm h.ht,c6];cases iZ t r p<;>rfl
theorem aZj{t:aD}{r p:Int}(h:iZ t r p=true):∃r' p':Nat,r=r'/\p=p'/\r'<t.Rounds.toNat/\p'<bM t r':=by
 simp only[iZ,f4,kS] at h;refine⟨r.toNat,p.toNat,by omega,by omega,by omega,?_⟩;have e:((r.toNat:Nat):Int)=r:=by omega
 rw[e];omega
theorem bPl{t:aD}{l:List aA}{e:Int}(h:Stat t l e)(r p:Int):fH t l r p=some (0,e):=by
 unfold fH;rw[bBr h,c6];simp only[h.ne,n8,i7]
theorem bPk{t:aD}{l:List aA}{d:List Int}(h:Good t l d){r p:Int}(hm:iZ t r p=false):fH t l r p=some (0,1):=by
 unfold fH;rw[aKi h,hm,c6]
 rfl
theorem aUs{t:aD}{l:List aA}{d:List Int}(h:Good t l d){must:List (List Int)}(hd:cK t l=some (⟨d,must⟩,true))(hM:MustIs t must (eR d (Res l))){r p:Nat}(hm:iZ t r p=true):
  fH t l r p=some (if mat must r p= -2 then(0,3) else(mat must r p,0)):=by
 obtain⟨r',p',e1,e2,hr,hp⟩:=aZj hm;have e1:r=r':=by omega
 have e2:p=p':=by omega
 subst e1;subst e2;have hi:=aTn hM hr hp;unfold fH;rw[aKi h,hm,c6];simp only[i7,j4,l8,g6,hd,c6];rw[<-Option.bind_assoc,hi,c6]
 by_cases h2:mat must r p= -2
 ·simp only[h2,j4,i7,aF2]
 ·simp only[h2,m5,g6,aB8];rw[<-Option.bind_assoc,hi,c6]
theorem bPm(t:aD)(l:List aA)(r p:Int){o:Int×Int}(h:fH t l r p=some o)(Q:Int×Int->Prop)(hq:Q o):tP t l r p Q:=by
 unfold tP
 rcases vH t l with⟨d,hg⟩|⟨e,he⟩
 ·refine cFl hg λwon hW=>?_;cases hm:iZ t r p with
  | false=>
   rw[bPk hg hm] at h;cases h;exact hq
  | true=>
   obtain⟨r',p',rfl,rfl,hr,hp⟩:=aZj hm;obtain⟨must,hd,hM⟩:=sN hg;rw[aUs hg hd hM hm] at h;cases h;simp only[i7,j4,l8,g6];refine⟨_,rfl,?_⟩;simp only[aWj hW hM hr hp]
   by_cases h2:mat must r' p'= -2
   ·rw[if_pos h2] at hq;simp only[h2,j4,l8,n8,i7];exact hq
   ·rw[if_neg h2] at hq;simp only[h2,m5,l8,n8,g6,bIn hW hM hr hp h2];exact hq
 ·rw[bPl he] at h;cases h;refine cJm he ?_;simp only[he.ne,n8,i7];exact hq
end Go.Am
end
section
namespace Go.Am
structure HB(S ever:List Int)(U:List aA):Prop where
 se:∀x∈S,x∈ever
 ue:∀u∈U,u.Player∈ever
 us:∀u∈U,u.Player∉S
 uu:∀u∈U,∀v∈U,u.Player=v.Player->u=v
def bGk(S:List Int)(U:List aA)(i:Nat)(x:Int):Prop:=x=S.getD i 0\/∃u∈U,u.Place=(i:Int)/\u.Player=x
theorem HB.next{S ever:List Int}{U:List aA}(h:HB S ever U){s:aA}(hp:s.Player∉ever):HB S (ever++[s.Player]) (U++[s]):=by
 refine⟨λx hx=>aB1 _ (h.se x hx),λu hu=>?_,λu hu=>?_,λu hu v hv e=>?_⟩
 ·rcases i6.1 hu with hu|hu
  ·exact aB1 _ (h.ue u hu)
  ·simp at hu;subst hu;simp
 ·rcases i6.1 hu with hu|hu
  ·exact h.us u hu
  ·simp at hu;subst hu;exactλhs=>hp (h.se _ hs)
 ·rcases i6.1 hu with hu|hu
  ·rcases i6.1 hv with hv|hv
   ·exact h.uu u hu v hv e
   ·simp at hv;subst hv;exact absurd (e▸h.ue _ ‹u∈U›) hp
  ·simp at hu;subst hu
   rcases i6.1 hv with hv|hv
   ·exact absurd (e▸h.ue v hv) hp
   ·simp at hv;exact hv.symm
theorem bAu{L:List aA}{S:List Int}{i:Nat}:∀{n:Nat} {now:Int} {ever:List Int} {U:List aA} {now':Int} {ever':List Int} {U':List aA},
  HB S ever U->bGk S U i now->jX L i n now ever U=some (now',ever',U')->HB S ever' U'/\bGk S U' i now'/\(∀u∈U,u∈U')
 |0,_,_,_,_,_,_,_,_,h=>by simp[jX] at h
 | n +1,now,ever,U,now',ever',U',hB,hH,h=>by
  unfold jX at h;cases hc:iJ L i now with
  | nil=>
   rw[hc] at h;simp only[m7,aE8] at h;obtain⟨rfl,rfl,rfl⟩:=h;exact⟨hB,hH,λu hu=>hu⟩
  | cons s cs=>
   cases cs with
   |cons s2 cs=>simp[hc] at h
   | nil=>
    have hs:s∈iJ L i now:=by rw[hc];simp
    obtain⟨m1,m2,m3⟩:=uN.1 hs;rw[hc] at h
    by_cases hp:s.Player∈ever
    ·simp[hp] at h
    ·simp only[hp,aB8] at h;obtain⟨r1,r2,r3⟩:=bAu (hB.next hp) (.inr ⟨s,by simp,m2,rfl⟩) h;exact⟨r1,r2,λu hu=>r3 u (aB1 _ hu)⟩
theorem aZx{L:List aA}{S:List Int}:∀{n i:Nat} {d ever:List Int} {U:List aA} {d':List Int} {U':List aA},i+n<=d.length->HB S ever U->(∀j,j<d.length->bGk S U j (d.getD j 0))->
  gZ L n i d ever U=some (d',U')->∃ever',HB S ever' U'/\(∀j,j<d'.length->bGk S U' j (d'.getD j 0))
 | 0,i,d,ever,U,d',U',hn,hB,hH,he=>by
  simp only[gZ,m7,aE8] at he;obtain⟨rfl,rfl⟩:=he;exact⟨ever,hB,hH⟩
 | n +1,i,d,ever,U,d',U',hn,hB,hH,he=>by
  unfold gZ at he;have hid:i<d.length:=by omega
  cases hs:jX L i (L.length+1) (d.getD i 0) ever U with
  |none=>rw[hs] at he;simp at he
  | some q=>
   obtain⟨now',ever',U1⟩:=q;rw[hs] at he;obtain⟨r1,r2,r3⟩:=bAu hB (hH i hid) hs;refine aZx (by rw[aA7];omega) r1 (λj hj=>?_) he;rw[aA7] at hj;rw[nL hid]
   split
   ·rename_i e;subst e;exact r2
   ·rcases hH j hj with h|⟨u,hu,h⟩
    ·exact .inl h
    ·exact .inr ⟨u,r3 u hu,h⟩
structure HD(t:aD)(l:List aA)(d:List Int):Prop where
 us:∀u∈dF l,u.Player∉t.Slots
 uu:∀u∈dF l,∀v∈dF l,u.Player=v.Player->u=v
 home:∀j,j<d.length->bGk t.Slots (dF l) j (d.getD j 0)
theorem bMj{t:aD}(ht:TreeOK t){l:List aA}(hs:∀s∈l,fG t s=true){d:List Int}(h:oV t l=some d):HD t l d:=by
 unfold oV at h;split at h
 ·rename_i d' U hr
  split at h
  ·rename_i hU
   cases h;have hL:=aXn hs;obtain⟨ever,hI⟩:=aPb hL (aNi (dF l) (aHf ht)) (by omega) hr;have hall:∀u,u∈U↔u∈dF l:=λu=>by
    refine⟨hI.us u,λhu=>aA3 λhn=>?_⟩;have:=nodup_le (l:=u::U) (m:=dF l) (w6.2 ⟨hn,hI.un⟩) λx hx=>by
     rcases l4.1 hx with rfl|hx
     ·exact hu
     ·exact hI.us x hx
    simp only[aB2] at this
    omega
   obtain⟨ever',hB,hH⟩:=aZx (S:=t.Slots) (by omega) ⟨λx hx=>hx,by simp,by simp,by simp⟩ (λj _=>.inl rfl) hr;refine⟨λu hu=>hB.us u ((hall u).2 hu),λu hu v hv=>hB.uu u ((hall u).2 hu) v ((hall v).2 hv),λj hj=>?_⟩
   rcases hH j hj with h|⟨u,hu,h⟩
   ·exact .inl h
   ·exact .inr ⟨u,(hall u).1 hu,h⟩
  ·cases h
 ·cases h
theorem HD.same{t:aD}(ht:TreeOK t){l l':List aA}{d d':List Int}(h:HD t l d)(h':HD t l' d')(hl:d.length=t.Slots.length)(hl':d'.length=t.Slots.length)(hsub:∀s∈l',s∈l){a b:Nat}(ha:a<d'.length)(hb:b<d.length)
  (e:d'.getD a 0=d.getD b 0)(hn:d.getD b 0≠-1):a=b:=by
 have hL:∀u∈dF l',u∈dF l:=λu hu=>by
  simp only[dF,z6,qN] at hu|-;exact⟨hsub u hu.1,hu.2⟩
 have hSm:∀j,j<t.Slots.length->t.Slots.getD j 0∈t.Slots:=λj hj=>aOd hj
 rcases h'.home a ha with e1|⟨u,hu,e1,e2⟩
 ·rcases h.home b hb with e3|⟨v,hv,e3,e4⟩
  ·have hab:t.Slots.getD a 0=t.Slots.getD b 0:=by rw[<-e1,<-e3,e]
   have ha':a<t.Slots.length:=hl'▸ha;have hb':b<t.Slots.length:=hl▸hb;rw[bC ha',bC hb'] at hab;rw[e3,bC hb'] at hn
   rcases Nat.lt_trichotomy a b with hlt|rfl|hlt
   ·exact absurd (ht.dup b hb' a hlt hab) hn
   ·rfl
   ·exact absurd (hab▸ht.dup a ha' b hlt hab.symm) hn
  ·exact absurd (by rw[e4,<-e,e1];exact hSm a (hl'▸ha)) (h.us v hv)
 ·rcases h.home b hb with e3|⟨v,hv,e3,e4⟩
  ·exact absurd (by rw[e2,e,e3];exact hSm b (hl▸hb)) (h.us u (hL u hu))
  ·have:=h.uu u (hL u hu) v hv (by rw[e2,e4,e]);subst this
   omega
theorem Good.home{t:aD}{l:List aA}{d:List Int}(h:Good t l d):HD t l d:=bMj h.ht h.slips h.agr.1
def iE(t:aD):List (Nat×Nat):=(List.range t.Rounds.toNat).flatMap λr:Nat=>(List.range (bM t r)).map λp:Nat=>(r,p)
def iI(d:List Int)(must:List (List Int))(x:Nat×Nat):aG:=⟨x.1,x.2,dB d must x.1 (2*x.2),dB d must x.1 (2*x.2+1)⟩
theorem aBs(t:aD)(d:List Int)(must:List (List Int)):bT t d must=(iE t).map (iI d must):=by
 unfold bT iE;rw[List.map_flatMap]
 congr 1
 funext r
 rw[aA6]
 rfl
theorem aEj{t:aD}{x:Nat×Nat}:x∈iE t↔x.1<t.Rounds.toNat/\x.2<bM t x.1:=by
 simp only[iE,aB7,u6,l5]
 constructor
 ·rintro⟨r,hr,p,hp,rfl⟩;exact⟨hr,hp⟩
 ·rintro⟨hr,hp⟩;exact⟨x.1,hr,x.2,hp,rfl⟩
theorem aZa(t:aD):(iE t).Nodup:=by
 have key:∀n,((List.range n).flatMap λr:Nat=>(List.range (bM t r)).map λp=>(r,p)).Nodup:=by
  intro n
  induction n with
  |zero=>simp
  | succ n ih=>
   rw[aBq];refine aF0.2 ⟨ih,?_,λx hx y hy e=>?_⟩
   ·exact List.Pairwise.map _ (λa b hab e=>hab (aA5 Prod.snd e)) List.nodup_range
   ·simp only[aB7,u6,l5] at hx hy;obtain⟨r,hr,p,hp,rfl⟩:=hx;obtain⟨q,hq,rfl⟩:=hy;have:=aA5 Prod.fst e
    simp at this
    omega
 exact key _
end Go.Am
end
section
namespace Go.Am
theorem cKz{α:Type}{l l':List α}(hn:l.Nodup)(hn':l'.Nodup)(h:∀x,x∈l↔x∈l'):(l=[]↔l'=[])/\(∀x,l=[x]↔l'=[x]):=by
 have key:∀{l l':List α},l.Nodup->l'.Nodup->(∀x,x∈l↔x∈l')->(l=[]->l'=[])/\∀x,l=[x]->l'=[x]:=by
  intro l l' hn hn' h;refine⟨λe=>?_,λx e=>?_⟩
  ·subst e;cases l' with
   |nil=>rfl
   |cons a l'=>exact absurd ((h a).2 (by simp)) (by simp)
  ·subst e;cases l' with
   |nil=>exact absurd ((h x).1 (by simp)) (by simp)
   | cons a l'=>
    have ha:a=x:=by simpa using(h a).2 (by simp)
    subst ha;cases l' with
    |nil=>rfl
    | cons b l'=>
     have hb:b=a:=by simpa using(h b).2 (by simp)
     subst hb
     simp at hn'
 exact⟨⟨(key hn hn' h).1,(key hn' hn λx=>(h x).symm).1⟩,λx=>⟨(key hn hn' h).2 x,(key hn' hn λx=>(h x).symm).2 x⟩⟩
theorem bIk{α:Type}[DecidableEq α]{l l':List α}(hn:l.Nodup)(hn':l'.Nodup)(h:∀x,x∈l↔x∈l'):l.length=l'.length:=
 Nat.le_antisymm (nodup_le hn λx hx=>(h x).1 hx) (nodup_le hn' λx hx=>(h x).2 hx)
theorem bFf{L L':List aA}(hn:L.Nodup)(hn':L'.Nodup)(h:∀x,x∈L↔x∈L')(i:Int):∀(n:Nat) (now:Int) (ever:List Int) (U:List aA),jX L i n now ever U=jX L' i n now ever U
 |0,_,_,_=>rfl
 | n +1,now,ever,U=>by
  have hc:=cKz (l:=iJ L i now) (l':=iJ L' i now) (hn.filter _) (hn'.filter _) λx=>by simp only[uN,h]
  unfold jX;cases e:iJ L i now with
  |nil=>rw[hc.1.1 e]
  | cons s cs=>
   cases cs with
   | nil=>
    rw[(hc.2 s).1 e];simp only;rw[bFf hn hn' h i n]
   | cons s2 cs=>
    cases e':iJ L' i now with
    |nil=>rw[hc.1.2 e'] at e;cases e
    | cons s' cs'=>
     cases cs' with
     |nil=>rw[(hc.2 s').2 e'] at e;cases e
     |cons s2' cs'=>rfl
theorem bEt{L L':List aA}(hn:L.Nodup)(hn':L'.Nodup)(h:∀x,x∈L↔x∈L'):∀(n i:Nat) (d ever:List Int) (U:List aA),gZ L n i d ever U=gZ L' n i d ever U
 |0,_,_,_,_=>rfl
 | n+1,i,d,ever,U=>by
  unfold gZ;rw[bFf hn hn' h,bIk hn hn' h];cases jX L' i (L'.length+1) (d.getD i 0) ever U with
  |none=>rfl
  |some q=>exact bEt hn hn' h n _ _ _ _
theorem aCk(l:List aA):(dF l).Nodup:=(aLp l).filter _
theorem aOp{l:List aA}{x:aA}:x∈dF l↔x∈l/\x.Kind=5:=by simp[dF,qN,isL]
theorem bRw{t:aD}{l l':List aA}(h:∀x:aA,x.Kind=5->(x∈l↔x∈l')):oV t l=oV t l':=by
 have hm:∀x,x∈dF l↔x∈dF l':=λx=>by
  rw[aOp,aOp];exact⟨λ⟨a,b⟩=>⟨(h x b).1 a,b⟩,λ⟨a,b⟩=>⟨(h x b).2 a,b⟩⟩
 unfold oV aPe;rw[bEt (aCk l) (aCk l') hm,bIk (aCk l) (aCk l') hm]
section
variable{t:aD}{l:List aA}{d:List Int}(hg:Good t l d)
include hg
theorem Good.fn:Func (eR d (Res l)):=hg.agr.2.fn
theorem Good.rok{x:aA}(hx:Res l x):ROK t x:=aXo (hg.slips x hx.1) hx.2
theorem Good.down{q p:Nat}{v:Int}(h:eR d (Res l) ⟨q,p⟩ v):∃a,a<d.length/\v=d.getD a 0/\d.getD a 0≠-1/\cell a q=⟨q,p⟩/\q<t.Rounds.toNat/\∀q',q'<=q->eR d (Res l) (cell a q') v:=by
 have hD:=hg.dok;have h1:=hg.ht.r1
 rcases h with⟨i,hi,hb,hm,hv⟩|⟨x,hx,a,ha,he,hv,q',hq,hm⟩
 ·have hsl:sib i<d.length:=by rw[hD.len];exact aNa hg.ht (by rw[<-hD.len];exact hi)
  have hq0:q=0:=by simp only[cell,aB.mk.injEq] at hm;omega
  refine⟨sib i,hsl,hv,hD.sib_ne hg.ht hi hb,by rw[hq0] at hm|-;exact hm.symm,by omega,λq' hq'=>?_⟩;have:q'=0:=by omega
  subst this;exact .inl ⟨i,hi,hb,rfl,hv⟩
 ·have hr:=hg.rok hx;have hp:=hr.p0;have hr0:=hr.r0;have hr1:=hr.r1;have hqq:q=q':=by simp only[cell,aB.mk.injEq] at hm;omega
  subst hqq;exact⟨a,ha,hv,by omega,hm.symm,by omega,λq' hq'=>.inr ⟨x,hx,a,ha,he,hv,q',by omega,rfl⟩⟩
end
theorem aAu{l:List aA}{x:aA}(hx:x.Kind≠5)(y:aA):Res (l++[x]) y↔Res l y\/y=x:=by
 unfold Res;rw[i6,l7]
 constructor
 ·rintro⟨h|h,h2⟩
  ·exact .inl ⟨h,h2⟩
  ·exact .inr h
 ·rintro(⟨h,h2⟩|rfl)
  ·exact⟨.inl h,h2⟩
  ·exact⟨.inr rfl,hx⟩
section
variable{t:aD}{l:List aA}{d:List Int}(hg:Good t l d){x:aA}(hx:x.Kind≠5)(hs:fG t x=true)
include hg hx hs
theorem aIp{a:Nat}(ha:a<d.length)(he:d.getD a 0=x.Player)(m:aB)(v:Int):eR d (Res (l++[x])) m v↔eR d (Res l) m v\/clm d a x.Round.toNat m v:=by
 have h1:=aTc hg.dok (aXo hs hx) ha he m v
 constructor
 ·rintro(h|⟨y,hy,h⟩)
  ·exact .inl (.inl h)
  ·rcases(aAu hx y).1 hy with hy|rfl
   ·exact .inl (.inr ⟨y,hy,h⟩)
   ·exact .inr (h1.1 ⟨_,rfl,h⟩)
 ·rintro((h|⟨y,hy,h⟩)|h)
  ·exact .inl h
  ·exact .inr ⟨y,(aAu hx y).2 (.inl hy),h⟩
  ·exact .inr ⟨x,(aAu hx x).2 (.inr rfl),a,ha,he,h⟩
omit hg hs in
theorem aZz:oV t (l++[x])=oV t l:=bRw λy hy=>by
 rw[i6,l7];exact⟨λh=>h.resolve_right λe=>hx (e▸hy),.inl⟩
theorem cFc{a:Nat}(ha:a<d.length)(he:d.getD a 0=x.Player)(hc:cell a x.Round.toNat=⟨x.Round,x.Place⟩)(hco:vK (eR d (Res l)) (clm d a x.Round.toNat))(hno:∀y∈l,y.Kind≠5->y.Round=x.Round->y.Place=x.Place->y=x):AGR t (l++[x]) d:=by
 have hO:=hg.agr.2;refine⟨by rw[aZz hx];exact hg.agr.1,λy hy z hz ky kz e1 e2=>?_,λy hy=>?_,λm v w h1 h2=>?_⟩
 ·rcases(aAu hx y).1 ⟨hy,ky⟩ with hy'|rfl
  ·rcases(aAu hx z).1 ⟨hz,kz⟩ with hz'|rfl
   ·exact hO.two y hy'.1 z hz'.1 ky kz e1 e2
   ·exact hno y hy'.1 ky e1 e2
  ·rcases(aAu hx z).1 ⟨hz,kz⟩ with hz'|hz'
   ·exact(hno z hz'.1 kz e1.symm e2.symm).symm
   ·exact hz'.symm
 ·rcases(aAu hx y).1 hy with hy'|rfl
  ·exact hO.slot y hy'
  ·exact⟨a,ha,he,hc⟩
 ·rcases(aIp hg hx hs ha he m v).1 h1 with p1|p1<;>rcases(aIp hg hx hs ha he m w).1 h2 with p2|p2
  ·exact hO.fn m v w p1 p2
  ·exact hco m v w p1 p2
  ·exact(hco m w v p2 p1).symm
  ·rw[p1.1,p2.1]
theorem bLj{d':List Int}(hA:AGR t (l++[x]) d'):d'=d/\∃a,a<d.length/\d.getD a 0=x.Player/\cell a x.Round.toNat=⟨x.Round,x.Place⟩/\vK (eR d (Res l)) (clm d a x.Round.toNat):=by
 have h1:=hA.1;rw[aZz hx,hg.agr.1] at h1;cases h1;obtain⟨a,ha,he,hc⟩:=hA.2.slot x ((aAu hx x).2 (.inr rfl));refine⟨rfl,a,ha,he,hc,λm v w p1 p2=>hA.2.fn m v w ((aIp hg hx hs ha he m v).2 (.inl p1)) ((aIp hg hx hs ha he m w).2 (.inr p2))⟩
theorem Good.add{a:Nat}(hl:l.length<60)(ha:a<d.length)(he:d.getD a 0=x.Player)(hc:cell a x.Round.toNat=⟨x.Round,x.Place⟩)(hco:vK (eR d (Res l)) (clm d a x.Round.toNat))(hno:∀y∈l,y.Kind≠5->y.Round=x.Round->y.Place=x.Place->y=x):Good t (l++[x]) d:=
 ⟨hg.tree,by simp;omega,λs hm=>by
  rcases i6.1 hm with h|h
  ·exact hg.slips s h
  ·rw[l7.1 h];exact hs,cFc hg hx hs ha he hc hco hno⟩
theorem Stat.add(hl:l.length<60)(hno:¬∃a,a<d.length/\d.getD a 0=x.Player/\cell a x.Round.toNat=⟨x.Round,x.Place⟩/\vK (eR d (Res l)) (clm d a x.Round.toNat)):Stat t (l++[x]) 72:=
 .s72 hg.tree (by simp;omega) (λs hm=>by
  rcases i6.1 hm with h|h
  ·exact hg.slips s h
  ·rw[l7.1 h];exact hs) λd' hd=>hno (bLj hg hx hs hd).2
end
end Go.Am
end
section
namespace Go.Am
section
variable{t:aD}(d:List Int)(must:List (List Int))(a:Nat)
end
section
variable{t:aD}(ht:TreeOK t){d:List Int}(hD:DOK t d){must:List (List Int)}{P:pQ}(hM:MustIs t must P)
include ht hD hM
end
def Srt(l:List Int):Prop:=l.Pairwise (·<=·)
structure SinkI(l out:List Int)(k:Nat):Prop where
 lt:k<out.length
 perm:out.Perm l
 srt:∀i j,i<j->j<out.length->j≠k->i≠k->out.getD i 0<=out.getD j 0
 up:∀j,k<j->j<out.length->out.getD k 0<=out.getD j 0
theorem SinkI.done{l out:List Int}{k:Nat}(h:SinkI l out k)(hd:k=0\/out.getD (k-1) 0<=out.getD k 0):Srt out/\out.Perm l:=by
 refine⟨?_,h.perm⟩;unfold Srt;rw[u0];intro i j hi hj hij;rw[<-bC hi 0,<-bC hj 0]
 by_cases hjk:j=k
 ·subst hjk
  rcases hd with h0|h0
  ·omega
  ·by_cases hik:i=j-1
   ·subst hik;exact h0
   ·have:=h.srt i (j-1) (by omega) (by omega) (by omega) (by omega)
    omega
 ·by_cases hik:i=k
  ·subst hik;exact h.up j hij hj
  ·exact h.srt i j hij hj hjk hik
theorem bXv{l:List Int}{i j:Nat}(hi:i<l.length)(hj:j<l.length):((l.set i (l.getD j 0)).set j (l.getD i 0)).Perm l:=by
 rw[bC hi,bC hj]
 by_cases hij:i=j
 ·subst hij;rw[aH2];rw[List.set_getElem_self]
 ·exact List.set_set_perm hi hj
theorem SinkI.next{l out:List Int}{k:Nat}(h:SinkI l out k)(hk:0<k)(hlt:out.getD k 0<out.getD (k-1) 0):SinkI l ((out.set k (out.getD (k-1) 0)).set (k-1) (out.getD k 0)) (k-1):=by
 have hkl:=h.lt;have hg:∀j,((out.set k (out.getD (k-1) 0)).set (k-1) (out.getD k 0)).getD j 0=if j=k-1 then out.getD k 0 else if j=k then out.getD (k-1) 0 else out.getD j 0:=by
  intro j;rw[nL (by rw[aA7];omega),nL hkl]
 refine⟨by simp;omega,(bXv hkl (by omega)).trans h.perm,λi j hij hj hjk hik=>?_,λj hj1 hj=>?_⟩
 ·simp only[aA7] at hj;rw[hg,hg,if_neg hik,if_neg hjk]
  by_cases hi:i=k
  ·subst hi;rw[if_pos rfl,if_neg (by omega)];exact h.srt (i-1) j (by omega) hj (by omega) (by omega)
  ·rw[if_neg hi]
   by_cases hj':j=k
   ·subst hj';rw[if_pos rfl];exact h.srt i (j-1) (by omega) (by omega) (by omega) (by omega)
   ·rw[if_neg hj'];exact h.srt i j hij hj hj' hi
 ·simp only[aA7] at hj;rw[hg,hg,if_pos rfl,if_neg (by omega)]
  by_cases hj':j=k
  ·subst hj';rw[if_pos rfl];omega
  ·rw[if_neg hj'];exact h.up j (by omega) hj
theorem SinkI.start{out:List Int}(hs:Srt out)(x:Int):SinkI (out++[x]) (out++[x]) out.length:=by
 unfold Srt at hs;rw[u0] at hs;refine⟨by simp,.refl _,λi j hij hj hjk hik=>?_,λj h1 h2=>by simp at h2;omega⟩;simp only[aA8,List.length_singleton] at hj;have hj':j<out.length:=by omega
 have hi':i<out.length:=by omega
 rw[bC (by simp;omega),bC (by simp;omega),w7 hi',w7 hj'];exact hs i j hi' hj' hij
end Go.Am
end
section
namespace Go.Am
def bBp(t:aD)(p:Nat):Bool:=decide (t.Slots.getD (2*p) 0= -1)||decide (t.Slots.getD (2*p+1) 0= -1)
theorem cNe{t:aD}(ht:TreeOK t){r p:Nat}(hr:r<t.Rounds.toNat)(hp:p<bM t r):iZ t r p=true:=by
 have h1:=ht.r1;simp only[iZ,f4,kS]
 omega
theorem bYc{t:aD}(ht:TreeOK t){a k:Nat}{n:Int}(ha:a<t.Slots.length)(hk:k<t.Rounds.toNat)(h0:0<=n)(h1:n<=999)(hb:¬(k=0/\bBp t (a/2^(k+1))=true)):fG t ⟨1,k,((a/2^(k+1):Nat):Int),n,0⟩=true:=by
 have hm:=cNe ht hk (aIb ht ha hk);have hw:wi n 0 999=true:=kS.2 ⟨h0,h1⟩;have hb':(decide ((0:Int)<(k:Int))||!decide (t.Slots.getD (2*(((a/2^(k+1):Nat):Int))).toNat 0= -1)&&!decide (t.Slots.getD (2*(((a/2^(k+1):Nat):Int))+1).toNat 0= -1))=true:=by
  by_cases hk0:k=0
  ·have hbf:bBp t (a/2^(k+1))=false:=by
    cases h:bBp t (a/2^(k+1)) with
    |false=>rfl
    |true=>exact absurd ⟨hk0,h⟩ hb
   have e1:(2*(((a/2^(k+1):Nat):Int))).toNat=2*(a/2^(k+1)):=by omega
   have e2:(2*(((a/2^(k+1):Nat):Int))+1).toNat=2*(a/2^(k+1))+1:=by omega
   rw[e1,e2];unfold bBp at hbf;rw[j7] at hbf;rw[hbf.1,hbf.2]
   simp
  ·rw[n7 (by omega)];rfl
 unfold fG;simp only[show((1:Int)=5)=False by simp,aB8,hw,hm,hb',show wi 1 1 4=true by decide,j4,Bool.and_self]
section
variable{t:aD}{l:List aA}{d:List Int}(hg:Good t l d)
include hg
end
end Go.Am
end
section
namespace Go.Am
section
variable{t:aD}(ht:TreeOK t){d:List Int}(hD:DOK t d){must:List (List Int)}{P:pQ}(hM:MustIs t must P){won:List (aB×Int)}(hW:WonIs won P)
include ht hD hM
include hW
end
section
variable{t:aD}{l:List aA}{d:List Int}(hg:Good t l d){must:List (List Int)}(hd:cK t l=some (⟨d,must⟩,true))(hM:MustIs t must (eR d (Res l)))
include hg hM
end
theorem bOj{α:Type}(A:Option Int)(B:Option (aI×Bool))(F:aI->Option α)(z:Int->α){d:aI}(hA:A=some 0)(hB:B=some (d,true)):
  (A.bind λr2=>bif !decide (r2=0) then some (z r2) else(B.bind λr3=>F r3.1))=F d:=by subst hA;subst hB;rfl
end Go.Am
end
section
namespace Go.Am
theorem aYs{α:Type}(p:α->Bool):∀l:List α,(l.filter p).length+(l.filter λx=>!p x).length=l.length
 |[]=>rfl
 | x::l=>by
  have:=aYs p l;simp only[aD0];cases p x<;>simp<;>omega
def mU(must:List (List Int))(x:Nat×Nat):Bool:=decide (mat must x.1 x.2= -2)
def aKm(t:aD)(must:List (List Int)):Nat:=((iE t).filter (mU must)).length
def aGn(t:aD)(n:Nat):List (Nat×Nat):=(List.range n).flatMap λr:Nat=>(List.range (bM t r)).map λp:Nat=>(r,p)
theorem bEg(t:aD)(n:Nat):aGn t (n+1)=aGn t n++(List.range (bM t n)).map λp:Nat=>(n,p):=aBq _ _
theorem aWh(t:aD):∀n,n<=t.Rounds.toNat->(aGn t n).length+2^(t.Rounds.toNat-n)=2^t.Rounds.toNat
 |0,_=>by simp[aGn]
 | n+1,h=>by
  have ih:=aWh t n (by omega);rw[bEg,aA8,m8,List.length_range];unfold bM;have e:t.Rounds.toNat-1-((n:Nat):Int).toNat=t.Rounds.toNat-(n+1):=by simp;omega
  have e2:2^(t.Rounds.toNat-n)=2*2^(t.Rounds.toNat-(n+1)):=by
   have:t.Rounds.toNat-n=(t.Rounds.toNat-(n+1))+1:=by omega
   rw[this,aH7];omega
  rw[e]
  omega
theorem aJa{t:aD}(ht:TreeOK t):(iE t).length+1=t.Slots.length:=by
 have:=aWh t t.Rounds.toNat (n5 _);rw[ht.len]
 simpa[aGn,iE] using this
theorem Good.inn{t:aD}{l:List aA}{d:List Int}(hg:Good t l d){m:aB}{v:Int}(h:eR d (Res l) m v):∃r p:Nat,m=⟨r,p⟩/\r<t.Rounds.toNat/\p<bM t r:=by
 have h1:=hg.ht.r1;have hlen:=hg.dok.len
 rcases h with⟨j,hj,hb,rfl,_⟩|⟨x,hx,a,ha,he,_,q,hq,rfl⟩
 ·exact⟨0,sib j/2^(0+1),rfl,by omega,aIb hg.ht (aNa hg.ht (by omega)) (by omega)⟩
 ·have:=(hg.rok hx).r1;have:=(hg.rok hx).r0;exact⟨q,a/2^(q+1),rfl,by omega,aIb hg.ht (by omega) (by omega)⟩
theorem cIk{t:aD}{l:List aA}{d:List Int}(hg:Good t l d){must:List (List Int)}(hM:MustIs t must (eR d (Res l))){won:List (aB×Int)}(hW:WonIs won (eR d (Res l))):won.length+aKm t must+1=t.Slots.length:=by
 have hs:=aYs (mU must) (iE t);have hl:=aJa hg.ht;have hmem:∀m:aB,m∈won.map (·.1)↔m∈((iE t).filter λx=>!mU must x).map λx=>(⟨x.1,x.2⟩:aB):=by
  intro m;rw[l5,l5]
  constructor
  ·rintro⟨⟨m',v⟩,hv,rfl⟩;have hP:=(hW.mem _ _).1 hv;obtain⟨r,p,rfl,hr,hp⟩:=hg.inn hP;refine⟨(r,p),?_,rfl⟩;rw[z6,aEj];have:=(hM.mem r p v hr hp).2 hP;refine⟨⟨hr,hp⟩,?_⟩;unfold mU;rw[this.1];simp[this.2]
  ·rintro⟨x,hx,rfl⟩;rw[z6,aEj] at hx;obtain⟨⟨hr,hp⟩,ho⟩:=hx;have h2:mat must x.1 x.2≠-2:=by simpa[mU] using ho
   exact⟨(⟨x.1,x.2⟩,mat must x.1 x.2),(hW.mem _ _).2 ((hM.mem x.1 x.2 _ hr hp).1 ⟨rfl,h2⟩),rfl⟩
 have hnd:(((iE t).filter λx=>!mU must x).map λx=>(⟨x.1,x.2⟩:aB)).Nodup:=by
  refine List.Pairwise.map _ (λx y hxy e=>hxy ?_) ((aZa t).filter _);simp only[aB.mk.injEq] at e;exact Prod.ext (by omega) (by omega)
 have:=bIk hW.nd hnd hmem;rw[m8,m8] at this;unfold aKm
 omega
section
variable{t:aD}{l:List aA}{d:List Int}(hg:Good t l d){must:List (List Int)}(hM:MustIs t must (eR d (Res l)))
include hg hM
theorem cBc:gK t ⟨d,must⟩ BIG 0 0=some (((aKm t must:Nat):Int),0):=by
 have ht:=hg.ht;have h1:=ht.r1;have h5:=ht.r5;have hil:=aJa ht;have h32:=ht.len32;have hlen:∀n,n<=t.Rounds.toNat->((aGn t n).filter (mU must)).length<=40:=λn hn=>by
  have hA:=z8 (mU must) (aGn t n);have hB:=aWh t n hn;rw[<-ht.len] at hB
  generalize 2^(t.Rounds.toNat-n)=z at hB
  omega
 have:=eX (S:=Int) (λk r n=>gK t ⟨d,must⟩ k n r) t.Rounds.toNat (λ_ _=>some (((aKm t must:Nat):Int),0)) (λr n=>n=(((aGn t r).filter (mU must)).length:Nat)) ?_ ?_ BIG 0 (cB (by omega)) (by simp[aGn])
 ·exact this
 ·rintro k r n hr rfl ih;have hlt:decide ((r:Int)<t.Rounds)=true:=n7 (by omega);have hP:=aKd ht (r:=(r:Int)) (by omega) (by omega);have hpl:=qP ht (r:=(r:Int));have hl0:=hlen r (by omega);have hin:=eX (S:=Int) (λq p n=>mE (gK t ⟨d,must⟩ k) r t ⟨d,must⟩ q n p) (bM t r)
   (λ_ _=>xD (gK t ⟨d,must⟩ k) ((((aGn t (r+1)).filter (mU must)).length:Nat):Int) r t ⟨d,must⟩)
   (λp n=>n=((((aGn t r).filter (mU must)).length+(((List.range p).map λp:Nat=>(r,p)).filter (mU must)).length:Nat):Int)) ?_ ?_ BIG (((aGn t r).filter (mU must)).length:Nat) (cB (by omega)) (by simp)
  ·simp only[gK,hlt,i7];refine hin.trans ?_;unfold xD aFp;rw[bF (show r<9223372036854775807 by omega)];exact ih _ rfl
  ·rintro q p n hp rfl ih2;have hle:(((List.range p).map λp:Nat=>(r,p)).filter (mU must)).length<=p:=by
    have:=z8 (mU must) ((List.range p).map λp:Nat=>(r,p));simpa using this
   have hi:=aTn hM hr hp;simp only[mE,hP,c6,m6,hp,j4,i7,bF (show p<9223372036854775807 by omega)];rw[<-Option.bind_assoc,hi,c6];have hst:(((List.range (p+1)).map λp:Nat=>(r,p)).filter (mU must)).length=(((List.range p).map λp:Nat=>(r,p)).filter (mU must)).length+(if mU must (r,p)=true then 1 else 0):=by
    rw[aC9,v7,aC2,aA8]
    congr 1
    simp only[j3,aH1,aD0,List.filter_nil]
    split<;>rfl
   by_cases ho:mat must r p= -2
   ·have ho':mU must (r,p)=true:=by unfold mU;simp[ho]
    rw[ho',if_pos rfl] at hst;simp only[ho,j4,i7];rw[bF (by omega)];exact ih2 _ (by rw[hst];omega)
   ·have ho':mU must (r,p)=false:=by unfold mU;simp[ho]
    rw[ho'] at hst;simp only[ho,m5,g6];exact ih2 _ (by rw[hst];simp)
  ·rintro q n rfl;have hlt2:decide ((bM t r:Int)<(bM t r:Int))=false:=j6 (by omega);simp only[mE,hP,c6,hlt2,g6,bEg,aC2,aA8]
 ·rintro k n rfl;have hlt:decide (((t.Rounds.toNat:Nat):Int)<t.Rounds)=false:=j6 (by omega);simp only[gK,hlt,g6,aFo]
  rfl
end
theorem bYm{t:aD}{l:List aA}{e:Int}(h:Stat t l e):pF t l=some (0,e):=by
 unfold pF;rw[wW h,c6];simp only[h.ne,n8,i7]
theorem bDi{t:aD}{l:List aA}{d:List Int}(h:Good t l d){must:List (List Int)}(hd:cK t l=some (⟨d,must⟩,true))(hM:MustIs t must (eR d (Res l))):pF t l=some (((aKm t must:Nat):Int),0):=by
 unfold pF;exact(bOj _ _ (λdd=>gK t dd BIG 0 0) (λr2=>(0,r2)) (uS h) hd).trans (cBc h hM)
theorem bYn(t:aD)(l:List aA){o:Int×Int}(h:pF t l=some o)(Q:Int×Int->Prop)(hq:Q o):xB t l Q:=by
 unfold xB
 rcases vH t l with⟨d,hg⟩|⟨e,he⟩
 ·obtain⟨must,hd,hM⟩:=sN hg;rw[bDi hg hd hM] at h;cases h;refine aFy hg λwon hW=>?_;have hl:=cIk hg hM hW;have h32:=hg.ht.len32;simp only[j4,l8,g6];refine⟨_,rfl,_,rfl,?_⟩;have e:w64 (w64 ((t.Slots.length:Int)-1)-(((won.map λp:aB×Int=>((λa:aB=>Value.agg ((aN a).map bD).toArray) p.1,aP p.2)).length:Nat):Int))=((aKm t must:Nat):Int):=by
   rw[m8,cV (show-9223372036854775808<=(t.Slots.length:Int)-1 by omega) (by omega),cV (by omega) (by omega)]
   omega
  show Q (w64 (w64 ((t.Slots.length:Int)-1)-(((won.map λp:aB×Int=>((λa:aB=>Value.agg ((aN a).map bD).toArray) p.1,aP p.2)).length:Nat):Int)),0);rw[e];exact hq
 ·rw[bYm he] at h;cases h;refine aJi he ?_;simp only[he.ne,n8,i7];exact hq
section
variable{t:aD}{l:List aA}{d:List Int}(hg:Good t l d){must:List (List Int)}(hM:MustIs t must (eR d (Res l)))
include hg hM
end
end Go.Am
end
section
namespace Go.Am
theorem aUi(a0:aD)(a1:List aA){r}(h:sE a0 a1=some r)(Q:List aG×Int->Prop)(hq:Q r):vM a0 a1 Q:=bTn a0 a1 h Q hq
theorem aRe(a0:aD)(a1:List aA)(a2 a3:Int){r}(h:uZ a0 a1 a2 a3=some r)(Q:Int×Int->Prop)(hq:Q r):tP a0 a1 a2 a3 Q:=bPm a0 a1 a2 a3 h Q hq
theorem aUj(a0:aD)(a1:List aA){r}(h:pD a0 a1=some r)(Q:Int->Prop)(hq:Q r):vN a0 a1 Q:=bTo a0 a1 h Q hq
theorem aVs(a0:aD)(a1:List aA){r}(h:tT a0 a1=some r)(Q:Int×Int->Prop)(hq:Q r):xB a0 a1 Q:=bYn a0 a1 h Q hq
end Go.Am
end
section
namespace Go.Am
end Go.Am
end
section
namespace Go.Am
end Go.Am
end
section
namespace Go.Am
theorem bLo{t:aD}(ht:TreeOK t)(d:List Int)(must:List (List Int)):(bT t d must).length+1=t.Slots.length:=by
 rw[aBs,m8];exact aJa ht
end Go.Am
end
section
namespace Go.Am
def bXa(d:List Int)(must:List (List Int))(x:Nat×Nat):Bool:=decide (mat must x.1 x.2= -2)&&(decide (0<=dB d must x.1 (2*x.2))&&decide (0<=dB d must x.1 (2*x.2+1)))
def uF(must:List (List Int))(b:aG):Bool:=decide (mat must b.Round.toNat b.Place.toNat= -2)&&(decide (0<=b.One)&&decide (0<=b.Two))
def aCx(t:aD)(d:List Int)(must:List (List Int)):List aG:=(bT t d must).filter (uF must)
theorem bAc(t:aD)(d:List Int)(must:List (List Int)):aCx t d must=((iE t).filter (bXa d must)).map (iI d must):=by
 unfold aCx;rw[aBs,List.filter_map]
 rfl
theorem bSa{t:aD}(ht:TreeOK t)(d:List Int)(must:List (List Int)):(aCx t d must).length<=32:=by
 have h1:=z8 (uF must) (bT t d must);have h2:=bLo ht d must;have h3:=ht.len32;unfold aCx
 omega
section
variable{t:aD}{l:List aA}{d:List Int}(hg:Good t l d){must:List (List Int)}(hM:MustIs t must (eR d (Res l)))
include hg hM
theorem bXc:gV (bT t d must) ⟨d,must⟩ BIG 0 []=some (aCx t d must,0):=by
 have hil:=aJa hg.ht;have h32:=hg.ht.len32;have hbl:(bT t d must).length=(iE t).length:=by rw[aBs,m8]
 have:=eX (S:=List aG) (λk i out=>gV (bT t d must) ⟨d,must⟩ k i out) (bT t d must).length (λ_ _=>some (aCx t d must,0)) (λi out=>out=((bT t d must).take i).filter (uF must)) ?_ ?_ BIG [] (cB (by omega)) (by simp)
 ·exact this
 ·rintro k i out hi rfl ih;have hii:i<(iE t).length:=by omega
  have hlt:decide ((i:Int)<((bT t d must).length:Int))=true:=n7 (by omega);have hb:(bT t d must)[i]=iI d must (iE t)[i]:=by simp only[aBs,List.getElem_map]
  obtain⟨hr,hp⟩:=aEj.1 (j9 hii);have ht1:(bT t d must).take (i+1)=(bT t d must).take i++[(bT t d must)[i]]:=p6 hi;have hfl:=z8 (uF must) ((bT t d must).take i);have htl:((bT t d must).take i).length<=i:=by simp;omega
  have hm:=aTn hM hr hp;have hrb:uF must (iI d must (iE t)[i])=(decide (mat must (iE t)[i].1 (iE t)[i].2= -2)&&(decide (0<=(iI d must (iE t)[i]).One)&&decide (0<=(iI d must (iE t)[i]).Two))):=by
   unfold uF;simp only[iI,Int.toNat_natCast];rfl
  rw[ht1,hb] at ih;simp only[gV,hlt,i7,bI hi,hb,c6,dA,bF (show i<9223372036854775807 by omega)];have hmm:((idx must (iI d must (iE t)[i]).Round).bind λx11=>(idx x11 (iI d must (iE t)[i]).Place).bind λx13=>some (decide (x13=(-2))))=some (decide (mat must (iE t)[i].1 (iE t)[i].2= -2)):=by
   have e1:(iI d must (iE t)[i]).Round=((iE t)[i].1:Int):=rfl;have e2:(iI d must (iE t)[i]).Place=((iE t)[i].2:Int):=rfl;rw[e1,e2,<-Option.bind_assoc,hm,c6]
  have hcond:(bif (decide (0<=(iI d must (iE t)[i]).One)&&decide (0<=(iI d must (iE t)[i]).Two)) then((idx must (iI d must (iE t)[i]).Round).bind λx11=>(idx x11 (iI d must (iE t)[i]).Place).bind λx13=>some (decide (x13=(-2)))) else(some false))=some (uF must (iI d must (iE t)[i])):=by
   rw[hmm,dA,hrb]
   congr 1
   exact Bool.and_comm _ _
  rw[hcond,c6];cases hrd:uF must (iI d must (iE t)[i]) with
  | true=>
   rw[i7,gD (by simp;omega),c6];refine ih _ ?_;rw[aC2];simp[hrd]
  | false=>
   rw[g6];refine ih _ ?_;rw[aC2];simp[hrd]
 ·rintro k out rfl;have hlt:decide (((bT t d must).length:Int)<((bT t d must).length:Int))=false:=j6 (by omega);simp only[gV,hlt,g6,aDn,aC4]
  rfl
theorem bSb{won:List (aB×Int)}(hW:WonIs won (eR d (Res l))){o:Option bJ}(ho:o=some ⟨t,d,won⟩):iQ (S:=List aG) ⟨t,d,won⟩ (λs7 x8 x9=>o.bind λx12=>
  (bif !(cR x8 x12.won) then(some (decide (0<=(min x9.One x9.Two)))) else(some false)).bind λb13=>bif b13 then((app 32 s7 ([x9])).bind λx14=>some x14) else(some s7)) []=some (aCx t d must):=by
 subst ho;refine aZk hg.ht hg.dok hM hW _ (λout=>out.filter (uF must)) (λ_=>True) λout r p hr hp hl=>?_;have hfl:=z8 (uF must) out;have hh:=aWj hW hM hr hp;have hmin:decide (0<=min (dB d must r (2*p)) (dB d must r (2*p+1)))=(decide (0<=dB d must r (2*p))&&decide (0<=dB d must r (2*p+1))):=by
  rw[aB4];simp only[f4,l9];omega
 have hrb:uF must ⟨r,p,dB d must r (2*p),dB d must r (2*p+1)⟩=(decide (mat must r p= -2)&&(decide (0<=dB d must r (2*p))&&decide (0<=dB d must r (2*p+1)))):=by
  unfold uF;simp only[aD3]
 rw[c6,hh,Bool.not_not,hmin,dA,<-hrb,c6];cases hrd:uF must ⟨r,p,dB d must r (2*p),dB d must r (2*p+1)⟩ with
 | true=>
  rw[i7,gD (by simp;omega),c6]
  simp[hrd]
 |false=>simp[hrd]
end
theorem bTq{t:aD}{l:List aA}{e:Int}(h:Stat t l e):oB t l=some ([],e):=by
 unfold oB;rw[wW h,c6];simp only[h.ne,n8,i7]
theorem aXp{t:aD}{l:List aA}{d:List Int}(hg:Good t l d){must:List (List Int)}(hd:cK t l=some (⟨d,must⟩,true))(hM:MustIs t must (eR d (Res l))):oB t l=some (aCx t d must,0):=by
 unfold oB;refine(bOj _ _ (λdd=>(oC t dd).bind λr5=>gV r5 dd BIG 0 []) (λr2=>([],r2)) (uS hg) hd).trans ?_;rw[bDp hg.ht hg.dok hM,c6];exact bXc hg hM
theorem bTr(t:aD)(l:List aA){r:List aG×Int}(h:oB t l=some r)(Q:List aG×Int->Prop)(hq:Q r):vO t l Q:=by
 unfold vO
 rcases vH t l with⟨d,hg⟩|⟨e,he⟩
 ·obtain⟨must,hd,hM⟩:=sN hg;rw[aXp hg hd hM] at h;cases h;refine aFy hg λwon hW=>?_;simp only[j4,l8,g6];exact⟨_,rfl,_,bSb hg hM hW rfl,hq⟩
 ·rw[bTq he] at h;cases h;refine aJi he ?_;simp only[he.ne,n8,i7];exact hq
end Go.Am
end
section
namespace Go.Am
theorem aUk(a0:aD)(a1:List aA){r}(h:pE a0 a1=some r)(Q:List aG×Int->Prop)(hq:Q r):vO a0 a1 Q:=bTr a0 a1 h Q hq
end Go.Am
end
