/- Several texts, one behind the other. -/
import Derived.Test.YtdebnakalmnnpaaGreatDoorRgSh
import Derived.Test.YtdebnakalmnnpaaGreatDoorAmPlain
import Derived.KernelRfl
section
namespace Go.Am
theorem aSe{α β:Type}[DecidableEq α](a b:α)(z v:β):∀l:List (α×β),cE b z (eM a v l)=if b=a then v else cE b z l
 |[]=>by by_cases h:b=a<;>simp[eM,cE,h]
 | (k,u)::l=>by
  by_cases h1:a=k
  ·subst h1
   by_cases h2:b=a
   ·simp[eM,cE,h2]
   ·simp[eM,cE,h2]
  ·by_cases h2:b=k
   ·subst h2
    simp[eM,cE,h1,Ne.symm h1]
   ·simp[eM,cE,h1,h2,aSe a b z v l]
def wi(n lo hi:Int):Bool:=decide (lo<=n)&&decide (n<=hi)
theorem mR{n lo hi:Int}:wi n lo hi=true↔lo<=n/\n<=hi:=by simp[wi]
theorem aCt(n lo hi:Int):fW n lo hi=some (wi n lo hi):=by simp[fW,cB,wi]
theorem aDn(n lo hi:Int):eR n lo hi=some (wi n lo hi):=by simp[eR,cB,wi]
theorem bN{α:Type}{l:List α}{i:Nat}(h:i<l.length)(d:α):l.getD i d=l[i]:=by simp[List.getD,h]
structure TreeOK(t:aD):Prop where
 r1:1<=t.Rounds
 r5:t.Rounds<=5
 len:t.Slots.length=2^t.Rounds.toNat
 rng:∀i (h:i<t.Slots.length),-1<=t.Slots[i]/\t.Slots[i]<=999
 bye:∀j (h:2*j+1<t.Slots.length),t.Slots[2*j]= -1->t.Slots[2*j+1]≠-1
 dup:∀i (h:i<t.Slots.length) k (hk:k<i),t.Slots[k]=t.Slots[i]->t.Slots[i]= -1
theorem TreeOK.len32{t:aD}(h:TreeOK t):t.Slots.length<=32:=by
 rw[h.len];have h1:=h.r1;have h5:=h.r5;have:t.Rounds.toNat<=5:=by omega
 exact Nat.pow_le_pow_right (by omega) this
theorem cFg:∀i:Fin 32,bAu ((i.val:Nat):Int) 1=((if i.val % 2=0 then i.val+1 else i.val-1:Nat):Int):=by decide+kernel
theorem bQc:∀r:Fin 6,w64 (1*2^(min r.val 64))=((2^r.val:Nat):Int):=by decide+kernel
theorem aKp{n:Int}(h0:0<=n)(h:n<=9223372036854775807):IntKind.u64.wrap n=n:=by
 simp[IntKind.wrap,IntKind.signed,IntKind.bits]
 omega
def rV(t:aD):Bool:=wi t.Rounds 1 5&&decide (t.Slots.length=2^t.Rounds.toNat)
theorem bUd{t:aD}(h:wi t.Rounds 1 5=true):w64 (1*2^(min t.Rounds.toNat 64))=((2^t.Rounds.toNat:Nat):Int):=by
 rw[mR] at h;have:=bQc ⟨t.Rounds.toNat,by omega⟩
 simpa using this
def aNy(S:List Int)(i:Nat):Bool:=
 if S.getD i 0= -1 then !decide (S.getD (if i % 2=0 then i+1 else i-1) 0= -1) else !decide (S.getD i 0∈S.take i)&&wi (S.getD i 0) 0 999
def aNz(S:List Int)(i:Nat):Bool:=
 wi (S.getD i 0) (-1) 999&&!(decide (i % 2=1)&&decide (S.getD i 0= -1)&&decide (S.getD (i-1) 0= -1))&&((List.range i).all λk=>!(decide (S.getD k 0=S.getD i 0)&&!decide (S.getD i 0= -1)))
theorem aOw{t:aD}(h:rV t=true):t.Slots.length<=32/\t.Slots.length % 2=0:=by
 simp only[rV,Bool.and_eq_true,mR,decide_eq_true_eq] at h;obtain⟨⟨h1,h2⟩,h3⟩:=h;have key:∀r:Fin 6,1<=r.val->2^r.val<=32/\2^r.val % 2=0:=by decide+kernel
 have:=key ⟨t.Rounds.toNat,by omega⟩ (by simp;omega);rw[h3];exact this
theorem bWl(t:aD):rG t=some (rV t&&(List.range t.Slots.length).all (aNy t.Slots)):=by
 unfold rG;rw[aCt];cases hw:wi t.Rounds 1 5 with
 |false=>simp[rV,hw]
 | true =>
  have hr:=mR.1 hw;have hch:chk (decide (0<=t.Rounds))=some ():=by unfold chk;rw[decide_eq_true (by omega)];rfl
  simp only[Option.bind_some,Bool.not_true,cond_false,hch,bUd hw]
  by_cases hl:t.Slots.length=2^t.Rounds.toNat
  ·have hsh:rV t=true:=by simp[rV,hw,hl]
   obtain⟨h32,hev⟩:=aOw hsh;have hl':decide ((t.Slots.length:Int)=((2^t.Rounds.toNat:Nat):Int))=true:=decide_eq_true (by rw[hl]);rw[hl',hsh];simp only[Bool.not_true,cond_false,Bool.true_and];have main:=fX (S:=List (Int×Int)) (λk i m=>jR t.Slots t.Slots.length t k i m) t.Slots.length (λi _=>some ((List.range' i (t.Slots.length-i)).all (aNy t.Slots)))
    (λi m=>∀x,x≠-1->cE x 0 m=if x∈t.Slots.take i then 1 else 0) ?_ ?_ BIG [] (cC (by omega)) (by simp[cE])
   ·simpa[List.range_eq_range'] using main
   ·intro k i m hi hI ih;have hx:=cFg ⟨i,by omega⟩;simp only at hx;have e:t.Slots.length-i=(t.Slots.length-(i+1))+1:=by omega
    rw[e,List.range'_succ,List.all_cons];have hm:∀x,x∈t.Slots.take (i+1)↔x∈t.Slots.take i\/x=t.Slots[i]:=by
     intro x;rw[List.take_succ_eq_append_getElem hi,List.mem_append,List.mem_singleton]
    simp only[jR,Int.ofNat_lt,hi,decide_true,cond_true,bE hi,Option.bind_some,bG (show i<9223372036854775807 by omega),aNy,bN hi]
    by_cases hb:t.Slots[i]= -1
    ·have hj:(if i % 2=0 then i+1 else i-1)<t.Slots.length:=by split<;>omega
     simp only[hb,decide_true,cond_true,hx,if_true,bE hj,Option.bind_some,bN hj]
     by_cases hc:t.Slots[if i % 2=0 then i+1 else i-1]= -1
     ·simp[hc]
     ·simp only[hc,decide_false,cond_false,Bool.not_false,Bool.true_and];refine ih m λx hxn=>?_;rw[hI x hxn];have:(x∈t.Slots.take (i+1))↔(x∈t.Slots.take i):=by
       rw[hm x]
       constructor
       ·rintro(h|h)
        ·exact h
        ·rw[hb] at h;exact absurd h hxn
       ·exact .inl
      simp[this]
    ·have hcnt:=hI t.Slots[i] hb;simp only[hb,decide_false,cond_false,if_false];rw[aSe];simp only[if_true,hcnt]
     by_cases hd:t.Slots[i]∈t.Slots.take i
     ·have:w64 2=2:=by decide+kernel
      simp[hd,this]
     ·have h1:w64 (0+1)=1:=by decide+kernel
      simp only[hd,if_false,h1,aCt,Option.bind_some,show decide ((1:Int)<1)=false by decide,cond_false,decide_false,Bool.not_false,Bool.true_and];cases hwi:wi t.Slots[i] 0 999 with
      |false=>simp
      | true=>
       simp only[Bool.not_true,cond_false,Bool.true_and];refine ih _ λx hxn=>?_;rw[aSe,hI x hxn]
       by_cases hxe:x=t.Slots[i]
       ·simp[hxe,hm]
       ·simp[hxe,hm]
   ·intro k m _
    simp[jR,zY]
  ·have hl':decide ((t.Slots.length:Int)=((2^t.Rounds.toNat:Nat):Int))=false:=decide_eq_false (by omega);rw[hl']
   simp[rV,hl]
theorem bWm(t:aD):nS t=some (rV t&&(List.range t.Slots.length).all (aNz t.Slots)):=by
 unfold nS;rw[aDn];cases hw:wi t.Rounds 1 5 with
 |false=>simp[rV,hw]
 | true=>
  have hr:=mR.1 hw;have hu:IntKind.u64.wrap t.Rounds=t.Rounds:=aKp (by omega) (by omega);have hch:chk (decide (0<=t.Rounds))=some ():=by unfold chk;rw[decide_eq_true (by omega)];rfl
  simp only[Option.bind_some,Bool.not_true,cond_false,hu,hch,bUd hw]
  by_cases hl:t.Slots.length=2^t.Rounds.toNat
  ·have hsh:rV t=true:=by simp[rV,hw,hl]
   obtain⟨h32,hev⟩:=aOw hsh;have hl':decide ((t.Slots.length:Int)=((2^t.Rounds.toNat:Nat):Int))=true:=decide_eq_true (by rw[hl]);rw[hl',hsh];simp only[Bool.not_true,cond_false,Bool.true_and];have main:=kW (λk i=>gA t k i) t.Slots.length (aNz t.Slots) (some false) (some true) ?_ ?_ BIG (cC (by omega))
   ·rw[main];cases(List.range t.Slots.length).all (aNz t.Slots)<;>rfl
   ·intro k i hi;have hin:∀ag:Int->Option Bool,gB ag i t BIG 0=bif (List.range i).all λk=>!(decide (t.Slots.getD k 0=t.Slots.getD i 0)&&!decide (t.Slots.getD i 0= -1)) then ag ((i+1:Nat):Int) else some false:=by
     intro ag;refine kW (λk j=>gB ag i t k j) i _ (some false) (ag ((i+1:Nat):Int)) ?_ ?_ BIG (cC (by omega))
     ·intro k j hj;have hj':j<t.Slots.length:=by omega
      simp only[gB,Int.ofNat_lt,hj,decide_true,cond_true,bE hj',bE hi,Option.bind_some,cB,bG (show j<9223372036854775807 by omega),bN hj',bN hi];cases(decide (t.Slots[j]=t.Slots[i])&&!decide (t.Slots[i]= -1))<;>simp
     ·intro k
      simp[gB,wB,wA,bG (show i<9223372036854775807 by omega)]
    have htm:decide (((i:Nat):Int).tmod 2=1)=decide (i % 2=1):=by
     have:((i:Nat):Int).tmod 2=((i % 2:Nat):Int):=by
      rw[Int.tmod_eq_emod_of_nonneg (by omega)];omega
     rw[this]
     simp
     omega
    simp only[gA,Int.ofNat_lt,hi,decide_true,cond_true,bE hi,Option.bind_some,aDn,htm,cB,hin,aNz,bN hi];cases hwi:wi t.Slots[i] (-1) 999 with
    |false=>simp
    | true=>
     by_cases ho:i % 2=1
     ·have hp:i-1<t.Slots.length:=by omega
      have hwp:w64 ((i:Int)-1)=((i-1:Nat):Int):=aFh (by omega) (by omega);simp only[ho,decide_true,Bool.true_and,hwp,bE hp,Option.bind_some,cB,Bool.not_true,cond_false,bN hp];cases(decide (t.Slots[i]= -1)&&decide (t.Slots[i-1]= -1))<;>simp
     ·simp[ho]
   ·intro k
    simp[gA,vZ]
  ·have hl':decide ((t.Slots.length:Int)=((2^t.Rounds.toNat:Nat):Int))=false:=decide_eq_false (by omega);rw[hl']
   simp[rV,hl]
theorem aIm(l:List Int)(hl:l.length<=9223372036854775807)(v:Int):kK l v=some (match l.findIdx? (λx=>decide (v=x)) with|some i=>(i:Int)|none=> -1):=by
 unfold kK;rw[fX (S:=Unit) (λk i _=>jU l v l.length k i) l.length (λi _=>some (match(l.drop i).findIdx? (λx=>decide (v=x)) with|some j=>((i+j:Nat):Int)|none=> -1)) (λ_ _=>True) ?_ ?_ BIG () (cC hl) trivial]
 ·simp
 ·intro k i _ hi _ ih;have:=ih () trivial;simp only[jU,bE hi,Option.bind_some,bG (show i<9223372036854775807 by omega),Int.ofNat_lt,hi,decide_true,cond_true,this];rw[List.drop_eq_getElem_cons hi,List.findIdx?_cons]
  by_cases h:v=l[i]
  ·simp[h]
  ·simp only[h,decide_false,cond_false,Bool.false_eq_true,if_false];cases List.findIdx? (λx=>decide (v=x)) (List.drop (i+1) l) with
   |none=>rfl
   |some j=>simp;omega
 ·intro k _ _
  simp[jU,xU]
theorem aCq(l:List Int)(hl:l.length<=9223372036854775807)(v:Int):cM l v=some (decide (v∈l)):=by
 unfold cM;rw[aIm l hl v];cases h:List.findIdx? (λx=>decide (v=x)) l with
 | none=>
  simp at h
  have:v∉l:=λhm=>h v hm rfl
  simp[this]
 | some j=>
  have:v∈l:=by
   obtain⟨h1,h2,_⟩:=List.findIdx?_eq_some_iff_getElem.1 h
   simp at h2
   rw[h2];exact List.getElem_mem h1
  simp[this]
theorem vR(l:List aA)(hl:l.length<=9223372036854775807)(f:aA->Option Bool)(g:aA->Bool)(hf:∀x∈l,f x=some (g x)):iK l f=some (l.any g):=by
 have key:jX l f=some (match l.findIdx? g with|some i=>(i:Int)|none=> -1):=by
  unfold jX;rw[fX (S:=Unit) (λk i _=>eO l f l.length k i) l.length (λi _=>some (match(l.drop i).findIdx? g with|some j=>((i+j:Nat):Int)|none=> -1)) (λ_ _=>True) ?_ ?_ BIG () (cC hl) trivial]
  ·simp
  ·intro k i _ hi _ ih;have:=ih () trivial;simp only[eO,bE hi,Option.bind_some,bG (show i<9223372036854775807 by omega),Int.ofNat_lt,hi,decide_true,cond_true,this,hf _ (List.getElem_mem hi)];rw[List.drop_eq_getElem_cons hi,List.findIdx?_cons];cases h:g l[i] with
   |true=>simp
   | false=>
    simp only[cond_false,Bool.false_eq_true,if_false];cases List.findIdx? g (List.drop (i+1) l) with
    |none=>rfl
    |some j=>simp;omega
  ·intro k _ _
   simp[eO,oZ]
 unfold iK;rw[key];cases h:List.findIdx? g l with
 | none=>
  simp at h
  have:l.any g=false:=by simpa using h
  simp[this]
 | some j=>
  have:l.any g=true:=by
   obtain⟨h1,h2,_⟩:=List.findIdx?_eq_some_iff_getElem.1 h;simp only[List.any_eq_true];exact⟨_,List.getElem_mem h1,h2⟩
  simp[this]
end Go.Am
end
section
namespace Go.Am
structure aIf(S:List Int):Prop where
 rng:∀i (h:i<S.length),-1<=S[i]/\S[i]<=999
 bye:∀j (h:2*j+1<S.length),S[2*j]= -1->S[2*j+1]≠-1
 dup:∀i (h:i<S.length) k (hk:k<i),S[k]=S[i]->S[i]= -1
theorem bGf{S:List Int}(hev:S.length % 2=0):(List.range S.length).all (aNy S)=true↔aIf S:=by
 rw[pQ]
 constructor
 ·intro h;have hd:∀i (hi:i<S.length),(if S[i]= -1 then !decide (S.getD (if i % 2=0 then i+1 else i-1) 0= -1) else !decide (S[i]∈S.take i)&&wi S[i] 0 999)=true:=by
   intro i hi;have:=h i hi
   simpa only[aNy,bN hi] using this
  refine⟨λi hi=>?_,λj hj hb=>?_,λi hi k hk he=>?_⟩
  ·have:=hd i hi;split at this
   ·rename_i hb;omega
   ·rw[Bool.and_eq_true,mR] at this;omega
  ·have:=hd (2*j) (by omega);rw[if_pos hb,if_pos (by omega),bN hj] at this
   simpa using this
  ·have:=hd i hi
   by_cases hb:S[i]= -1
   ·exact hb
   ·rw[if_neg hb,Bool.and_eq_true] at this;have hm:S[i]∈S.take i:=by
     rw[<-he,List.mem_take_iff_getElem];exact⟨k,by omega,rfl⟩
    simp[hm] at this
 ·intro h i hi;simp only[aNy,bN hi]
  by_cases hb:S[i]= -1
  ·rw[if_pos hb]
   by_cases he:i % 2=0
   ·rw[if_pos he];obtain⟨j,rfl⟩:∃j,i=2*j:=⟨i/2,by omega⟩;rw[bN (by omega)];have:=h.bye j (by omega) hb
    simpa using this
   ·rw[if_neg he];obtain⟨j,rfl⟩:∃j,i=2*j+1:=⟨i/2,by omega⟩;have e:2*j+1-1=2*j:=by omega
    rw[e,bN (by omega)];have:=h.bye j hi;simp only[Bool.not_eq_true',decide_eq_false_iff_not];intro hc;exact this hc hb
  ·rw[if_neg hb,Bool.and_eq_true,mR];refine⟨?_,?_⟩
   ·simp only[Bool.not_eq_true',decide_eq_false_iff_not];intro hm;rw[List.mem_take_iff_getElem] at hm;obtain⟨k,hk,he⟩:=hm;exact hb (h.dup i hi k (by omega) he)
   ·have:=h.rng i hi;omega
theorem bVi{S:List Int}(hev:S.length % 2=0):(List.range S.length).all (aNz S)=true↔aIf S:=by
 rw[pQ]
 constructor
 ·intro h;have hd:∀i (hi:i<S.length),(wi S[i] (-1) 999=true/\¬(i % 2=1/\S[i]= -1/\S.getD (i-1) 0= -1))/\∀k,k<i->¬(S.getD k 0=S[i]/\S[i]≠-1):=by
   intro i hi;have:=h i hi;simp only[aNz,bN hi,Bool.and_eq_true,pQ,Bool.not_eq_true',Bool.and_eq_false_iff,decide_eq_false_iff_not,Bool.not_eq_false',decide_eq_true_eq] at this;refine⟨⟨this.1.1,λ⟨a,b,c⟩=>?_⟩,λk hk ⟨a,b⟩=>?_⟩
   ·rcases this.1.2 with(h1|h1)|h1
    ·exact h1 a
    ·exact h1 b
    ·exact h1 c
   ·rcases this.2 k hk with h1|h1
    ·exact h1 a
    ·exact b h1
  refine⟨λi hi=>mR.1 (hd i hi).1.1,λj hj hb hc=>?_,λi hi k hk he=>?_⟩
  ·refine(hd (2*j+1) hj).1.2 ⟨by omega,hc,?_⟩;have e:2*j+1-1=2*j:=by omega
   rw[e,bN (by omega)];exact hb
  ·have:=(hd i hi).2 k hk;rw[bN (by omega)] at this
   by_cases hb:S[i]= -1
   ·exact hb
   ·exact absurd ⟨he,hb⟩ this
 ·intro h i hi;simp only[aNz,bN hi,Bool.and_eq_true,pQ,Bool.not_eq_true',Bool.and_eq_false_iff,decide_eq_false_iff_not,Bool.not_eq_false',decide_eq_true_eq];refine⟨⟨mR.2 (h.rng i hi),?_⟩,λk hk=>?_⟩
  ·by_cases ho:i % 2=1
   ·obtain⟨j,rfl⟩:∃j,i=2*j+1:=⟨i/2,by omega⟩;have e:2*j+1-1=2*j:=by omega
    rw[e,bN (by omega)]
    by_cases hc:S[2*j]= -1
    ·exact .inl (.inr (h.bye j hi hc))
    ·exact .inr hc
   ·exact .inl (.inl ho)
  ·rw[bN (by omega)]
   by_cases he:S[k]=S[i]
   ·exact .inr (h.dup i hi k hk he)
   ·exact .inl he
def aFv(t:aD):Bool:=rV t&&(List.range t.Slots.length).all (aNy t.Slots)
theorem bDq(t:aD):rG t=some (aFv t):=bWl t
theorem bCx(t:aD):nS t=some (aFv t):=by
 rw[bWm,aFv];cases hs:rV t with
 |false=>rfl
 | true=>
  obtain⟨_,hev⟩:=aOw hs
  congr 1
  rw[Bool.true_and,Bool.true_and,Bool.eq_iff_iff,bGf hev,bVi hev]
theorem yF{t:aD}(h:aFv t=true):TreeOK t:=by
 rw[aFv,Bool.and_eq_true] at h;obtain⟨hs,ha⟩:=h;obtain⟨_,hev⟩:=aOw hs;obtain⟨h1,h2,h3⟩:=(bGf hev).1 ha;simp only[rV,Bool.and_eq_true,mR,decide_eq_true_eq] at hs;exact⟨hs.1.1,hs.1.2,hs.2,h1,h2,h3⟩
def bX(t:aD)(r:Int):Nat:=2^(t.Rounds.toNat-1-r.toNat)
def kH(t:aD)(r p:Int):Bool:=wi r 0 (t.Rounds-1)&&wi p 0 (bX t r-1)
def gL(t:aD)(s:aA):Bool:=
 wi s.Player 0 999&&(if s.Kind=5 then decide (s.Round=0)&&wi s.Place 0 (t.Slots.length-1)&&wi s.Old 0 999
  else wi s.Kind 1 4&&kH t s.Round s.Place&&decide (s.Old=0)&&(decide (0<s.Round)||!decide (t.Slots.getD (2*s.Place).toNat 0= -1)&&!decide (t.Slots.getD (2*s.Place+1).toNat 0= -1)))
theorem cCa:∀R:Fin 6,∀r:Fin 6,r.val<R.val->((2^R.val:Nat):Int).fdiv (2^(min (r.val+1) 64))=((2^(R.val-1-r.val):Nat):Int):=by decide+kernel
theorem bPw:∀n:Fin 6,w64 (1*2^(min n.val 64))=((2^n.val:Nat):Int):=by decide+kernel
section
variable{t:aD}(ht:TreeOK t)
include ht
theorem cBd:(t.Slots.length:Int)=((2^t.Rounds.toNat:Nat):Int):=by rw[ht.len]
theorem bNn{r:Int}(h0:0<=r)(h1:r<t.Rounds):(t.Slots.length:Int).fdiv (2^(min (w64 (r+1)).toNat 64))=((bX t r:Nat):Int):=by
 have h5:=ht.r5;have hw:w64 (r+1)=r+1:=cG (by omega) (by omega);have:=cCa ⟨t.Rounds.toNat,by omega⟩ ⟨r.toNat,by omega⟩ (by simp;omega);rw[hw,cBd ht];have e:(r+1).toNat=r.toNat+1:=by omega
 rw[e];exact this
theorem tI{r:Int}:bX t r<=16:=by
 have h5:=ht.r5;have:t.Rounds.toNat-1-r.toNat<=4:=by omega
 exact Nat.pow_le_pow_right (by omega) this
omit ht in
theorem aZm{t:aD}{r:Int}:1<=bX t r:=Nat.one_le_two_pow
theorem bZi(r p:Int):oQ ⟨r,p⟩ t=some (kH t r p):=by
 have h1:=ht.r1;have h5:=ht.r5;have hw:w64 (t.Rounds-1)=t.Rounds-1:=cG (by omega) (by omega);unfold oQ;simp only[aCt,hw,Option.bind_some,kH];cases hr:wi r 0 (t.Rounds-1) with
 |false=>simp
 | true=>
  have hr':=mR.1 hr;have hch:chk (decide (0<=w64 (r+1)))=some ():=by
   rw[cG (by omega) (by omega)];unfold chk;rw[decide_eq_true (by omega)];rfl
  have hpl:=tI ht (r:=r);have hpp:=aZm (t:=t) (r:=r);have hw2:w64 ((bX t r:Int)-1)=(bX t r:Int)-1:=cG (by omega) (by omega);simp only[hch,Option.bind_some,cond_true,bNn ht hr'.1 (by omega),hw2,Bool.true_and]
theorem aQp{r:Int}(h0:0<=r)(h1:r<t.Rounds):kV t r=some ((bX t r:Nat):Int):=by
 have h5:=ht.r5;have hw:w64 (t.Rounds-1)=t.Rounds-1:=cG (by omega) (by omega);have hw2:w64 (t.Rounds-1-r)=t.Rounds-1-r:=cG (by omega) (by omega);have hu:IntKind.u64.wrap (t.Rounds-1-r)=t.Rounds-1-r:=aKp (by omega) (by omega);have hch:chk (decide (0<=t.Rounds-1-r))=some ():=by unfold chk;rw[decide_eq_true (by omega)];rfl
 unfold kV;simp only[hw,hw2,hu,hch,Option.bind_some];have:=bPw ⟨(t.Rounds-1-r).toNat,by omega⟩;simp only at this;rw[this];unfold bX;have e:(t.Rounds-1-r).toNat=t.Rounds.toNat-1-r.toNat:=by omega
 rw[e]
theorem aXc(r p:Int):mG t r p=some (kH t r p):=by
 have h1:=ht.r1;have h5:=ht.r5;have hw:w64 (t.Rounds-1)=t.Rounds-1:=cG (by omega) (by omega);unfold mG;simp only[aDn,hw,Option.bind_some,kH];cases hr:wi r 0 (t.Rounds-1) with
 |false=>simp
 | true=>
  have hr':=mR.1 hr;have hpl:=tI ht (r:=r);have hpp:=aZm (t:=t) (r:=r);have hw2:w64 ((bX t r:Int)-1)=(bX t r:Int)-1:=cG (by omega) (by omega);simp only[cond_true,aQp ht hr'.1 (by omega),Option.bind_some,hw2,Bool.true_and]
theorem aUw{p:Int}(h:kH t 0 p=true):0<=p/\(2*p+1).toNat<t.Slots.length/\p<=15:=by
 simp only[kH,Bool.and_eq_true,mR] at h;have hl:=ht.len;have h1:=ht.r1;have hpl:=tI ht (r:=0);have e:2^t.Rounds.toNat=2*bX t 0:=by
  unfold bX;have:t.Rounds.toNat=(t.Rounds.toNat-1-(0:Int).toNat)+1:=by simp;omega
  rw[this,Nat.pow_succ]
  simp
  omega
 omega
theorem aRu(s:aA):uP t s=some (gL t s):=by
 have h32:=ht.len32;have hw:w64 ((t.Slots.length:Int)-1)=(t.Slots.length:Int)-1:=cG (by omega) (by omega);unfold uP gL;simp only[aCt,Option.bind_some,hw];cases hp:wi s.Player 0 999 with
 |false=>simp
 | true =>
  by_cases hk:s.Kind=5
  ·simp only[hk,decide_true,cond_true,if_true,Bool.not_true,cond_false,Bool.true_and,cB,Option.bind_some]
  ·simp only[hk,decide_false,cond_false,if_false,Bool.not_true,Bool.true_and,jO,Option.bind_some,bZi ht];cases wi s.Kind 1 4 with
   |false=>simp
   | true =>
    by_cases ho:s.Old=0
    ·simp only[ho,decide_true,Bool.not_true,Bool.or_false,cond_false,Option.bind_some,Bool.true_and,Bool.and_true];cases hm:kH t s.Round s.Place with
     |false=>simp
     | true=>
      simp only[Bool.not_true,cond_false,Bool.true_and]
      by_cases hr:0<s.Round
      ·simp[hr]
      ·have hm0:s.Round=0:=by
        simp only[kH,Bool.and_eq_true,mR] at hm
        omega
       rw [hm0] at hm;obtain⟨p0,p1,p2⟩:=aUw ht hm;have e1:w64 (2*s.Place)=2*s.Place:=cG (by omega) (by omega);have e2:w64 (2*s.Place+2)=2*s.Place+2:=cG (by omega) (by omega);have hsub:sub t.Slots (2*s.Place) (2*s.Place+2)=some [t.Slots.getD (2*s.Place).toNat 0,t.Slots.getD (2*s.Place+1).toNat 0]:=by
        obtain⟨q,hq⟩:∃q:Nat,s.Place=q:=⟨s.Place.toNat,by omega⟩;rw[hq] at p1|-;have a1:2*q+1<t.Slots.length:=by omega
        have b1:(2*(q:Int)).toNat=2*q:=by omega
        have b2:(2*(q:Int)+1).toNat=2*q+1:=by omega
        have b3:(2*(q:Int)+2).toNat=2*q+2:=by omega
        rw[b1,b2,bN (by omega),bN a1];unfold sub;rw[if_pos ⟨by omega,by omega,by omega⟩,b1,b3]
        congr 1
        apply List.ext_getElem
        ·simp;omega
        ·intro i h1 h2
         simp at h2
         have:i=0\/i=1:=by omega
         rcases this with rfl|rfl<;>simp
       simp only[hr,decide_false,cond_false,Bool.false_or,e1,e2,hsub,Option.bind_some];have hc:∀a b:Int,cM [a,b] (-1)=some (decide (a= -1)||decide (b= -1)):=by
        intro a b;rw[aCq [a,b] (show(2:Nat)<=9223372036854775807 by omega)]
        congr 1
        rw[Bool.eq_iff_iff];simp only[decide_eq_true_eq,List.mem_cons,List.not_mem_nil,or_false,Bool.or_eq_true];exact⟨λh=>h.imp Eq.symm Eq.symm,λh=>h.imp Eq.symm Eq.symm⟩
       rw[hc];cases decide (t.Slots.getD (2*s.Place).toNat 0= -1)<;>cases decide (t.Slots.getD (2*s.Place+1).toNat 0= -1)<;>rfl
    ·simp[ho]
theorem bPf(s:aA):qQ t s=some (gL t s):=by
 have h32:=ht.len32;have hw:w64 ((t.Slots.length:Int)-1)=(t.Slots.length:Int)-1:=cG (by omega) (by omega);unfold qQ gL;simp only[aDn,Option.bind_some,hw];cases hp:wi s.Player 0 999 with
 |false=>simp
 | true =>
  by_cases hk:s.Kind=5
  ·simp only[hk,decide_true,cond_true,if_true,Bool.not_true,cond_false,Bool.true_and,cB,Option.bind_some]
  ·simp only[hk,decide_false,cond_false,if_false,Bool.not_true,Bool.true_and,jO,Option.bind_some,aXc ht];cases wi s.Kind 1 4 with
   |false=>simp
   | true=>
    cases hm:kH t s.Round s.Place with
    |false=>simp
    | true=>
     by_cases ho:s.Old=0
     ·simp only[ho,decide_true,Bool.not_true,Bool.or_false,cond_false,Option.bind_some,Bool.true_and,Bool.and_true]
      by_cases hr:0<s.Round
      ·simp[hr]
      ·have hm0:s.Round=0:=by
        simp only[kH,Bool.and_eq_true,mR] at hm
        omega
       rw[hm0] at hm;obtain⟨p0,p1,p2⟩:=aUw ht hm;have e1:w64 (2*s.Place)=2*s.Place:=cG (by omega) (by omega);have e2:w64 (2*s.Place+1)=2*s.Place+1:=cG (by omega) (by omega);have i1:idx t.Slots (2*s.Place)=some (t.Slots.getD (2*s.Place).toNat 0):=by
        rw[bMs (by omega) (by omega),bN (by omega)]
       have i2:idx t.Slots (2*s.Place+1)=some (t.Slots.getD (2*s.Place+1).toNat 0):=by
        rw[bMs (by omega) p1,bN p1]
       simp only[hr,decide_false,cond_false,Bool.false_or,e1,e2,i1,i2,Option.bind_some,cB]
     ·simp[ho]
end
end Go.Am
end
section
namespace Go.Am
def rR(out:List aA)(x:aA):List aA:=if x∈out then out else out++[x]
def bH(l:List aA):List aA:=l.foldl rR []
theorem aSn(l:List aA):∀out,out.Nodup->(l.foldl rR out).Nodup/\(∀x,x∈l.foldl rR out↔x∈out\/x∈l)/\(l.foldl rR out).length<=out.length+l.length:=by
 induction l with
 |nil=>intro out h;exact⟨h,by simp,by simp⟩
 | cons a l ih=>
  intro out h;have hs:(rR out a).Nodup/\(∀x,x∈rR out a↔x∈out\/x=a)/\(rR out a).length<=out.length+1:=by
   unfold rR
   split
   ·rename_i hm
    exact⟨h,λx=>⟨.inl,λh=>h.elim id λe=>e▸hm⟩,by omega⟩
   ·rename_i hm
    refine⟨List.nodup_append.2 ⟨h,by simp,λx hx y hy=>?_⟩,by simp,by simp⟩
    simp at hy;subst hy;exactλe=>hm (e▸hx)
  obtain⟨h1,h2,h3⟩:=ih _ hs.1;refine⟨h1,λx=>?_,?_⟩
  ·rw[List.foldl_cons,h2,hs.2.1,List.mem_cons,or_assoc]
  ·rw[List.foldl_cons];simp only[List.length_cons];omega
theorem aLg(l:List aA):(bH l).Nodup:=(aSn l [] List.nodup_nil).1
theorem rC(l:List aA)(x:aA):x∈bH l↔x∈l:=by
 have:=(aSn l [] List.nodup_nil).2.1 x
 simpa[bH] using this
theorem aGh(l:List aA):(bH l).length<=l.length:=by
 have:=(aSn l [] List.nodup_nil).2.2
 simpa[bH] using this
theorem bNc(l:List aA)(hl:l.length<=1000):pW l=some (bH l):=by
 unfold pW;have main:=fX (S:=List aA) (λk i out=>eB l k i out) l.length (λi out=>some ((l.drop i).foldl rR out)) (λi out=>out.length<=i) ?_ ?_ BIG [] (cC (by omega)) (by simp)
 ·simpa[bH] using main
 ·intro k i out hi hI ih;have hin:iQ (eB l k) l i out BIG false 0=pK (eB l k) l i (decide (l[i]∈out)) out:=by
   have h:=fX (S:=Bool) (λq j tw=>iQ (eB l k) l i out q tw j) out.length (λj tw=>pK (eB l k) l i (tw||decide (l[i]∈out.drop j)) out) (λ_ _=>True) ?_ ?_ BIG false (cC (by omega)) trivial
   ·simpa using h
   ·intro q j tw hj _ ih2;have e:out.drop j=out[j]::out.drop (j+1):=List.drop_eq_getElem_cons hj;simp only[iQ,Int.ofNat_lt,hj,decide_true,cond_true,bE hj,bE hi,Option.bind_some,jO,bG (show j<9223372036854775807 by omega),ih2 _ trivial]
    congr 1
    rw[e]
    by_cases h1:out[j]=l[i]
    ·simp[h1]
    ·rw[<-e];have:l[i]∈out.drop j↔l[i]∈out.drop (j+1):=by
      rw[e,List.mem_cons];exact⟨λh=>h.resolve_left λe=>h1 e.symm,.inr⟩
     simp[h1,this]
   ·intro q tw _
    simp[iQ]
  have e:l.drop i=l[i]::l.drop (i+1):=List.drop_eq_getElem_cons hi;simp only[eB,Int.ofNat_lt,hi,decide_true,cond_true,hin];unfold pK;rw[e,List.foldl_cons]
  by_cases hm:l[i]∈out
  ·simp only[hm,decide_true,Bool.not_true,cond_false,mL,bG (show i<9223372036854775807 by omega)];rw[ih out (by omega),rR,if_pos hm]
  ·simp only[hm,decide_false,Bool.not_false,cond_true,mL,bG (show i<9223372036854775807 by omega),bE hi,Option.bind_some];rw[eL (by simp;omega),Option.bind_some,ih _ (by simp;omega),rR,if_neg hm]
 ·intro k out _
  simp[eB,yL]
def isL(s:aA):Bool:=decide (s.Kind=5)
def cV(l:List aA):List aA:=(bH l).filter isL
structure LA(pre:List aA)(lucky:List (aA×Int))(about:List (aB×aA)):Prop where
 lm:∀s,s∈lucky.map (·.1)↔s∈pre/\s.Kind=5
 ln:(lucky.map (·.1)).Nodup
 am:∀m s,(m,s)∈about↔(s∈pre/\s.Kind≠5/\m=⟨s.Round,s.Place⟩)
 an:(about.map (·.1)).Nodup
theorem aSf{α β:Type}[DecidableEq α](a:α)(v:β):∀l:List (α×β),(eM a v l).map (·.1)=if a∈l.map (·.1) then l.map (·.1) else l.map (·.1)++[a]
 |[]=>by simp[eM]
 | (k,u)::l=>by
  by_cases h:a=k
  ·subst h;simp[eM]
  ·have:=aSf a v l;simp only[eM,h,decide_false,cond_false,List.map_cons,this,List.mem_cons,false_or]
   split<;>simp
theorem aIz{α β:Type}[DecidableEq α](a:α):∀l:List (α×β),cI a l=decide (a∈l.map (·.1))
 |[]=>by simp[cI]
 | (k,u)::l=>by
  simp only[cI,aIz a l,List.map_cons,List.mem_cons]
  by_cases h:a=k<;>simp[h]
theorem aWh{α β:Type}[DecidableEq α]{a:α}{v z:β}:∀{l:List (α×β)},(l.map (·.1)).Nodup->(a,v)∈l->cE a z l=v
 | (k,u)::l,hn,hm=>by
  rw[List.map_cons,List.nodup_cons] at hn
  rcases List.mem_cons.1 hm with h|h
  ·cases h;simp[cE]
  ·have hne:a≠k:=λe=>hn.1 (e▸List.mem_map.2 ⟨_,h,rfl⟩);simp only[cE,hne,decide_false,cond_false];exact aWh hn.2 h
theorem bDw{α β:Type}[DecidableEq α]{a:α}{v:β}{l:List (α×β)}(h:a∉l.map (·.1)):eM a v l=l++[(a,v)]:=
 aOh a v l (by rw[aIz];simpa using h)
theorem aSg{α β:Type}[DecidableEq α]{a:α}{v:β}:∀{l:List (α×β)},(l.map (·.1)).Nodup->(a,v)∈l->eM a v l=l
 | (k,u)::l,hn,hm=>by
  rw[List.map_cons,List.nodup_cons] at hn
  rcases List.mem_cons.1 hm with h|h
  ·cases h;simp[eM]
  ·have hne:a≠k:=λe=>hn.1 (e▸List.mem_map.2 ⟨_,h,rfl⟩);simp only[eM,hne,decide_false,cond_false];rw[aSg hn.2 h]
def aTo(l:List aA):Prop:=∀x∈l,∀y∈l,x.Kind≠5->y.Kind≠5->x.Round=y.Round->x.Place=y.Place->x=y
theorem bOn{l:List aA}(hl:l.length<=1000){Q:(Option aU×Bool)->Prop}{pl:List Int}{won:List (aB×Int)}{t:aD}
  (hbad:¬aTo l->Q (none,false))(hgood:aTo l->∀lucky about,LA l lucky about->vT Q pl won t lucky about):iY Q l l.length pl won t BIG 0 [] []:=by
 refine aGg (S:=List (aA×Int)×List (aB×aA)) (λk i s=>iY Q l l.length pl won t k i s.1 s.2) l.length (λp=>p) (λi s=>LA (l.take i) s.1 s.2/\aTo (l.take i)) ?_ ?_ BIG 0 ([],[]) (cC (by omega)) ?_
 ·rintro k i ⟨lucky,about⟩ hi ⟨⟨h1,h2,h3,h4⟩,hno⟩ ih;have ht:∀x,x∈l.take (i+1)↔x∈l.take i\/x=l[i]:=λx=>by
   rw[List.take_succ_eq_append_getElem hi,List.mem_append,List.mem_singleton]
  have hmi:l[i]∈l.take (i+1):=(ht _).2 (.inr rfl);simp only[iY,Int.ofNat_lt,hi,decide_true,cond_true,bE hi,bG (show i<9223372036854775807 by omega)];refine⟨_,rfl,?_⟩
  by_cases hk:l[i].Kind=5
  ·simp only[hk,decide_true,cond_true];refine ih (_,_) ⟨⟨λs=>?_,?_,λm s=>?_,h4⟩,λx hx y hy kx ky=>?_⟩
   ·rw [aSf]
    split
    ·rename_i hm
     rw[h1,ht]
     constructor
     ·rintro⟨a,b⟩;exact⟨.inl a,b⟩
     ·rintro⟨a|a,b⟩
      ·exact⟨a,b⟩
      ·exact(h1 s).1 (a▸hm)
    ·rw[List.mem_append,List.mem_singleton,h1,ht]
     constructor
     ·rintro(⟨a,b⟩|rfl)
      ·exact⟨.inl a,b⟩
      ·exact⟨.inr rfl,hk⟩
     ·rintro⟨a|a,b⟩
      ·exact .inl ⟨a,b⟩
      ·exact .inr a
   ·rw[aSf]
    split
    ·exact h2
    ·rename_i hm
     exact List.nodup_append.2 ⟨h2,by simp,λx hx y hy=>by simp at hy;subst hy;exactλe=>hm (e▸hx)⟩
   ·rw[h3,ht]
    constructor
    ·rintro⟨a,b⟩;exact⟨.inl a,b⟩
    ·rintro⟨a|a,b,c⟩
     ·exact⟨a,b,c⟩
     ·exact absurd (a▸hk) b
   ·have hx':x∈l.take i:=((ht x).1 hx).resolve_right λe=>kx (e▸hk);have hy':y∈l.take i:=((ht y).1 hy).resolve_right λe=>ky (e▸hk);exact hno x hx' y hy' kx ky
  ·simp only[hk,decide_false,cond_false]
   by_cases hm:(⟨l[i].Round,l[i].Place⟩:aB)∈about.map (·.1)
   ·have hhas:cI (⟨l[i].Round,l[i].Place⟩:aB) about=true:=by rw[aIz];simpa using hm
    obtain⟨⟨m0,y⟩,hy,hmy⟩:=List.mem_map.1 hm;simp only at hmy;subst hmy;have hget:=aWh (z:=(⟨0,0,0,0,0⟩:aA)) h4 hy;obtain⟨y1,y2,y3⟩:=(h3 _ _).1 hy;simp only[hhas,cond_true,hget];refine⟨_,rfl,?_⟩
    by_cases he:y=l[i]
    ·simp only[he,decide_true,Bool.not_true,cond_false];rw[aSg h4 (by rw[he] at hy;exact hy)];have hin:∀x,x∈l.take (i+1)↔x∈l.take i:=λx=>by
      rw[ht];exact⟨λh=>h.elim id λe=>by rw[e,<-he];exact y1,.inl⟩
     exact ih (_,_) ⟨⟨λs=>by rw[h1,hin],h2,λm s=>by rw[h3,hin],h4⟩,λx hx y hy=>hno x ((hin x).1 hx) y ((hin y).1 hy)⟩
    ·simp only[he,decide_false,Bool.not_false,cond_true];refine hbad λhN=>he ?_;simp only[aB.mk.injEq] at y3;exact hN y (List.mem_of_mem_take y1) l[i] (List.getElem_mem hi) y2 hk y3.1.symm y3.2.symm
   ·have hhas:cI (⟨l[i].Round,l[i].Place⟩:aB) about=false:=by rw[aIz];simpa using hm
    simp only[hhas,cond_false];refine⟨_,rfl,?_⟩;simp only[cond_false];rw[bDw hm];refine ih (_,_) ⟨⟨λs=>?_,h2,λm s=>?_,?_⟩,λx hx y hy kx ky er ep=>?_⟩
    ·rw[h1,ht]
     constructor
     ·rintro⟨a,b⟩;exact⟨.inl a,b⟩
     ·rintro⟨a|a,b⟩
      ·exact⟨a,b⟩
      ·exact absurd (a▸b) hk
    ·rw[List.mem_append,List.mem_singleton,h3,ht]
     constructor
     ·rintro(⟨a,b,c⟩|h)
      ·exact⟨.inl a,b,c⟩
      ·cases h;exact⟨.inr rfl,hk,rfl⟩
     ·rintro⟨a|a,b,c⟩
      ·exact .inl ⟨a,b,c⟩
      ·subst a;exact .inr (by rw[c])
    ·rw[List.map_append];exact List.nodup_append.2 ⟨h4,by simp,λx hx y hy=>by simp at hy;subst hy;exactλe=>hm (e▸hx)⟩
    ·have fresh:∀z,z∈l.take i->z.Kind≠5->¬(z.Round=l[i].Round/\z.Place=l[i].Place):=by
      rintro z hz kz ⟨e1,e2⟩;refine hm (List.mem_map.2 ⟨(⟨z.Round,z.Place⟩,z),(h3 _ _).2 ⟨hz,kz,rfl⟩,?_⟩);rw[<-e1,<-e2]
     rcases(ht x).1 hx with hx'|rfl
     ·rcases(ht y).1 hy with hy'|rfl
      ·exact hno x hx' y hy' kx ky er ep
      ·exact absurd ⟨er,ep⟩ (fresh x hx' kx)
     ·rcases(ht y).1 hy with hy'|hy'
      ·exact absurd ⟨er.symm,ep.symm⟩ (fresh y hy' ky)
      ·exact hy'.symm
 ·rintro k i ⟨lucky,about⟩ hi ⟨hL,hno⟩;have hlt:decide ((i:Int)<(l.length:Int))=false:=decide_eq_false (by omega);have hta:l.take i=l:=List.take_of_length_le (by omega);rw[hta] at hL hno;simp only[iY,hlt,cond_false];exact hgood hno lucky about hL
 ·exact⟨⟨by simp,by simp,by simp,by simp⟩,λx hx=>by simp at hx⟩
end Go.Am
end
section
namespace Go.Am
def iM(L:List aA)(i now:Int):List aA:=L.filter λs=>decide (s.Place=i)&&decide (s.Old=now)
def jZ(L:List aA)(i:Int):Nat->Int->List Int->List aA->Option (Int×List Int×List aA)
 |0,_,_,_=>none
 | n+1,now,ever,U=>match iM L i now with
  |[]=>some (now,ever,U)
  |[s]=>if s.Player∈ever then none else jZ L i n s.Player (ever++[s.Player]) (U++[s])
  |_::_::_=>none
structure SI(L:List aA)(T:Nat)(i now:Int)(ever:List Int)(U:List aA):Prop where
 un:U.Nodup
 us:∀u∈U,u∈L
 ne:now∈ever
 pl:∀u∈U,u.Place<=i
 old:∀u∈U,u.Place=i->u.Old∈ever/\u.Old≠now
 el:ever.length=T+U.length
theorem rQ{α:Type}[DecidableEq α]:∀{l m:List α},l.Nodup->(∀x∈l,x∈m)->l.length<=m.length
 |[],_,_,_=>by simp
 | a::l,m,hn,hs=>by
  rw[List.nodup_cons] at hn;have hm:a∈m:=hs a (by simp);have:=rQ (l:=l) (m:=m.erase a) hn.2 λx hx=>(List.mem_erase_of_ne (show x≠a fromλe=>hn.1 (e▸hx))).2 (hs x (by simp[hx]));rw[List.length_erase_of_mem hm] at this;have:0<m.length:=List.length_pos_of_mem hm;simp only[List.length_cons];omega
theorem vM{L:List aA}{i now:Int}{s:aA}:s∈iM L i now↔s∈L/\s.Place=i/\s.Old=now:=by simp[iM]
theorem SI.next{L:List aA}{T:Nat}{i now:Int}{ever:List Int}{U:List aA}(h:SI L T i now ever U){s:aA}(hs:s∈iM L i now)(hp:s.Player∉ever):
  SI L T i s.Player (ever++[s.Player]) (U++[s]):=by
 obtain⟨h1,h2,h3,h4,h5,h6⟩:=h;obtain⟨m1,m2,m3⟩:=vM.1 hs;have hsu:s∉U:=λhu=>(h5 s hu m2).2 m3;refine⟨List.nodup_append.2 ⟨h1,by simp,λx hx y hy=>?_⟩,λu hu=>?_,by simp,λu hu=>?_,λu hu hpl=>?_,by simp;omega⟩
 ·simp at hy;subst hy;exactλe=>hsu (e▸hx)
 ·rcases List.mem_append.1 hu with hu|hu
  ·exact h2 u hu
  ·simp at hu;exact hu▸m1
 ·rcases List.mem_append.1 hu with hu|hu
  ·exact h4 u hu
  ·simp at hu;subst hu;omega
 ·rcases List.mem_append.1 hu with hu|hu
  ·obtain⟨a,b⟩:=h5 u hu hpl;exact⟨List.mem_append_left _ a,λe=>hp (e▸a)⟩
  ·simp at hu;subst hu
   exact⟨List.mem_append_left _ (m3▸h3),λe=>hp (e▸m3▸h3)⟩
theorem SI.le{L:List aA}{T:Nat}{i now:Int}{ever:List Int}{U:List aA}(h:SI L T i now ever U):U.length<=L.length:=rQ h.un h.us
def lB(L:List aA):Nat->Nat->List Int->List Int->List aA->Option (List Int×List aA)
 |0,_,d,_,U=>some (d,U)
 | n+1,i,d,ever,U=>match jZ L i (L.length+1) (d.getD i 0) ever U with
  |none=>none
  |some (now,ever',U')=>lB L n (i+1) (d.set i now) ever' U'
section
variable{t:aD}{l:List aA}(hl:l.length<=1000)(h32:t.Slots.length<=32)
theorem cDq(o:List Int)(ho:o.length<=2000)(v:Int):wQ o v=some (decide (v∈o)):=by
 unfold wQ;have:=fX (S:=Unit) (λk i _=>lV o v k i) o.length (λi _=>some (decide (v∈o.drop i))) (λ_ _=>True) ?_ ?_ BIG () (cC (by omega)) trivial
 ·simpa using this
 ·intro k i _ hi _ ih;have:=ih () trivial;simp only[lV,Int.ofNat_lt,hi,decide_true,cond_true,bE hi,Option.bind_some,bG (show i<9223372036854775807 by omega),this];have e:o.drop i=o[i]::o.drop (i+1):=List.drop_eq_getElem_cons hi
  by_cases h:o[i]=v
  ·simp[h,e]
  ·have:v∈o.drop i↔v∈o.drop (i+1):=by
    rw[e,List.mem_cons];exact⟨λq=>q.resolve_left λe=>h e.symm,.inr⟩
   simp[h,this]
 ·intro k _ _
  simp[lV,aBh]
include hl in
theorem bRx(a0:Int->Int->List Int->List Int->Option (List Int×Bool))(a2:Int->Int->Bool->List Int->Option (List Int×Bool))(used i now:Int)(ag:Bool)(out ever:List Int):
  eX a0 a2 (bH l) used i now ag t out ever BIG 0 []=mH a0 a2 (bH l) used i now ag t out ((iM (cV l) i now).map (·.Player)) ever:=by
 have hol:=aGh l;have:=fX (S:=List Int) (λk j nx=>eX a0 a2 (bH l) used i now ag t out ever k j nx) (bH l).length
  (λj nx=>mH a0 a2 (bH l) used i now ag t out (nx++(iM (((bH l).drop j).filter isL) i now).map (·.Player)) ever) (λj nx=>nx.length<=j) ?_ ?_ BIG [] (cC (by omega)) (by simp)
 ·simpa[cV] using this
 ·intro k j nx hj hI ih;have hj':j<1000:=by omega
  rw[List.drop_eq_getElem_cons hj,List.filter_cons];simp only[eX,Int.ofNat_lt,hj,decide_true,cond_true,bE hj,Option.bind_some,bG (show j<9223372036854775807 by omega),cB]
  by_cases hk:(bH l)[j].Kind=5
  ·have hL:isL (bH l)[j]=true:=by simp[isL,hk]
   simp only[hk,hL,decide_true,if_true,Bool.true_and];unfold iM;rw[List.filter_cons];cases hc:(decide ((bH l)[j].Place=i)&&decide ((bH l)[j].Old=now)) with
   | false=>
    simp only[cond_false,Bool.false_eq_true,if_false];exact ih nx (by omega)
   | true=>
    simp only[cond_true,if_true];rw[eL (by simp;omega),Option.bind_some,ih _ (by simp;omega)]
    simp[iM]
  ·have hL:isL (bH l)[j]=false:=by simp[isL,hk]
   simp only[hk,hL,decide_false,Bool.false_and,cond_false,Bool.false_eq_true,if_false];exact ih nx (by omega)
 ·intro k nx _
  simp[eX,iM]
include hl h32 in
theorem bXy(a0:Int->Int->List Int->List Int->Option (List Int×Bool))(i:Int)(out:List Int):
  ∀n k now ever U,SI (cV l) t.Slots.length i now ever U->(cV l).length<n+U.length->n<k->
  fR a0 (bH l) i t out k U.length now true ever=match jZ (cV l) i n now ever U with
   |none=>some ([],false)
   |some (now',ever',U')=>pV a0 (bH l) U'.length i now' t out ever':=by
 have hLl:(cV l).length<=1000:=by
  have h1:=aGh l;have h2:(cV l).length<=(bH l).length:=List.length_filter_le _ _
  omega
 intro n
 induction n with
 | zero=>
  intro k now ever U hS hn hk;have:=hS.le
  omega
 | succ n ih=>
  intro k now ever U hS hn hk;cases k with
  |zero=>omega
  | succ k=>
   have hU:=hS.le;have hel:=hS.el;simp only[fR,cond_true,bRx hl,jZ];unfold mH;cases hc:iM (cV l) i now with
   | nil=>
    simp only[List.map_nil,List.length_nil,kC];simp only[Int.natCast_zero,show decide ((1:Int)<0)=false by decide,show decide ((0:Int)=1)=false by decide,cond_false,Option.bind_some];cases k with
    |zero=>omega
    |succ k=>simp[fR]
   | cons s cs=>
    cases cs with
    | cons s2 cs=>
     simp only[List.map_cons,List.length_cons];have:decide ((1:Int)<((((cs.map (·.Player)).length+1+1:Nat)):Int))=true:=decide_eq_true (by omega);rw[this]
     rfl
    | nil=>
     have hs:s∈iM (cV l) i now:=by rw[hc];simp
     simp only[List.map_cons,List.map_nil,List.length_cons,List.length_nil,kC,bHs,Option.bind_some,cDq ever (by omega)];simp only[Nat.zero_add,Int.natCast_one,show decide ((1:Int)<1)=false by decide,decide_true,cond_true,cond_false,Option.bind_some]
     by_cases hp:s.Player∈ever
     ·simp[hp]
     ·simp only[hp,decide_false,cond_false,if_false];rw[eL (by simp;omega),Option.bind_some,cG (by omega) (by omega)];have:=ih k s.Player (ever++[s.Player]) (U++[s]) (hS.next hs hp) (by simp;omega) (by omega);have e:(((U++[s]).length:Nat):Int)=(U.length:Int)+1:=by simp
      rw[e] at this;exact this
end
end Go.Am
end
section
namespace Go.Am
def LOK(L:List aA):Prop:=∀s∈L,0<=s.Player/\0<=s.Old
theorem aPk{L:List aA}(hL:LOK L){T:Nat}{i:Int}:∀{n:Nat} {now:Int} {ever:List Int} {U:List aA} {now':Int} {ever':List Int} {U':List aA},
  SI L T i now ever U->jZ L i n now ever U=some (now',ever',U')->
  SI L T i now' ever' U'/\(∀x∈ever,x∈ever')/\(now'=now\/(now'∉ever/\0<=now'/\now≠-1))/\iM L i now'=[]
 |0,_,_,_,_,_,_,_,h=>by simp[jZ] at h
 | n +1,now,ever,U,now',ever',U',hS,h=>by
  unfold jZ at h;cases hc:iM L i now with
  | nil=>
   rw[hc] at h;simp only[Option.some.injEq,Prod.mk.injEq] at h;obtain⟨rfl,rfl,rfl⟩:=h;exact⟨hS,λx hx=>hx,.inl rfl,hc⟩
  | cons s cs=>
   cases cs with
   |cons s2 cs=>simp[hc] at h
   | nil=>
    have hs:s∈iM L i now:=by rw[hc];simp
    obtain⟨m1,m2,m3⟩:=vM.1 hs;obtain⟨p1,p2⟩:=hL s m1;rw[hc] at h
    by_cases hp:s.Player∈ever
    ·simp[hp] at h
    ·simp only[hp,if_false] at h;obtain⟨r1,r2,r3,r4⟩:=aPk hL (hS.next hs hp) h;refine⟨r1,λx hx=>r2 x (List.mem_append_left _ hx),?_,r4⟩
     rcases r3 with rfl|⟨a,b,c⟩
     ·exact .inr ⟨hp,p1,by omega⟩
     ·exact .inr ⟨λhx=>a (List.mem_append_left _ hx),b,by omega⟩
structure GI(L:List aA)(S:List Int)(i:Nat)(d ever:List Int)(U:List aA):Prop where
 un:U.Nodup
 us:∀u∈U,u∈L
 el:ever.length=S.length+U.length
 pl:∀u∈U,u.Place<i
 len:d.length=S.length
 dr:∀j,i<=j->d.getD j 0=S.getD j 0
 mem:∀x∈d,x∈ever
 dup:∀a b,a<b->b<d.length->d.getD a 0=d.getD b 0->d.getD b 0= -1
 bye:∀a,a<d.length->(d.getD a 0= -1↔S.getD a 0= -1)
 don:∀a:Nat,a<i->iM L a (d.getD a 0)=[]
theorem aNx{l:List Int}{i:Nat}(h:i<l.length):l.getD i 0∈l:=by rw[bN h];exact List.getElem_mem h
theorem GI.start{L:List aA}{S:List Int}{i:Nat}{d ever:List Int}{U:List aA}(h:GI L S i d ever U)(hi:i<S.length):SI L S.length i (d.getD i 0) ever U:=
 ⟨h.un,h.us,h.mem _ (aNx (by rw[h.len];exact hi)),λu hu=>by have:=h.pl u hu;omega,λu hu e=>by have:=h.pl u hu;omega,h.el⟩
theorem nW{l:List Int}{i j:Nat}{v:Int}(hi:i<l.length):(l.set i v).getD j 0=if j=i then v else l.getD j 0:=by
 by_cases h:j=i
 ·subst h;simp[List.getD,hi]
 ·simp[List.getD,h,List.getElem?_set,Ne.symm h]
theorem GI.next{L:List aA}(hL:LOK L){S:List Int}{i:Nat}{d ever:List Int}{U:List aA}(h:GI L S i d ever U)(hi:i<S.length){n:Nat}{now':Int}{ever':List Int}{U':List aA}
  (hs:jZ L i n (d.getD i 0) ever U=some (now',ever',U')):GI L S (i+1) (d.set i now') ever' U':=by
 obtain⟨hS,hev,hn,hc⟩:=aPk hL (h.start hi) hs;have hid:i<d.length:=by rw[h.len];exact hi
 refine⟨hS.un,hS.us,hS.el,λu hu=>by have:=hS.pl u hu;omega,by rw[List.length_set,h.len],λj hj=>?_,λx hx=>?_,λa b hab hb=>?_,λa ha=>?_,λa ha=>?_⟩
 ·rw[nW hid,if_neg (by omega)];exact h.dr j (by omega)
 ·rcases List.mem_or_eq_of_mem_set hx with hx|rfl
  ·exact hev x (h.mem x hx)
  ·exact hS.ne
 ·rw [List.length_set] at hb;rw[nW hid,nW hid]
  by_cases ha':a=i
  ·subst ha';rw[if_pos rfl,if_neg (by omega)];intro e
   rcases hn with hn|⟨n1,n2,n3⟩
   ·rw[hn] at e;exact h.dup a b hab hb e
   ·exact absurd (h.mem _ (aNx hb)) (e▸n1)
  ·rw[if_neg ha']
   by_cases hb':b=i
   ·subst hb';rw[if_pos rfl];intro e
    rcases hn with hn|⟨n1,n2,n3⟩
    ·rw[hn] at e|-;exact h.dup a b hab hb e
    ·exact absurd (h.mem _ (aNx (show a<d.length by omega))) (e▸n1)
   ·rw[if_neg hb'];exact h.dup a b hab hb
 ·rw [List.length_set] at ha;rw[nW hid]
  by_cases ha':a=i
  ·subst ha';rw[if_pos rfl,<-h.bye a ha]
   rcases hn with hn|⟨n1,n2,n3⟩
   ·rw[hn]
   ·constructor
    ·intro e;omega
    ·intro e;exact absurd e n3
  ·rw[if_neg ha'];exact h.bye a ha
 ·rw[nW hid]
  by_cases ha':a=i
  ·subst ha';rw[if_pos rfl];exact hc
  ·rw[if_neg ha'];exact h.don a (by omega)
theorem aOs{L:List aA}(hL:LOK L){S:List Int}:∀{n i:Nat} {d ever:List Int} {U:List aA} {d':List Int} {U':List aA},GI L S i d ever U->i+n=S.length->lB L n i d ever U=some (d',U')->∃ever',GI L S S.length d' ever' U'
 | 0,i,d,ever,U,d',U',h,hn,he=>by
  simp only[lB,Option.some.injEq,Prod.mk.injEq] at he;obtain⟨rfl,rfl⟩:=he;have:i=S.length:=by omega
  subst this;exact⟨ever,h⟩
 | n+1,i,d,ever,U,d',U',h,hn,he=>by
  unfold lB at he;cases hs:jZ L i (L.length+1) (d.getD i 0) ever U with
  |none=>rw[hs] at he;simp at he
  | some q=>
   obtain⟨now',ever',U1⟩:=q;rw[hs] at he;exact aOs hL (h.next hL (by omega) hs) (by omega) he
theorem aOd{l:List aA}:(cV l).length<=l.length:=by
 have h1:=aGh l;have h2:(cV l).length<=(bH l).length:=List.length_filter_le _ _
 omega
section
variable{t:aD}{l:List aA}(hl:l.length<=1000)(h32:t.Slots.length<=32)
include hl in
theorem bSa(out:List Int)(used:Nat)(hu:used<=(cV l).length):eY (bH l) out BIG used 0=some (out,decide (used=(cV l).length)):=by
 have hol:=aGh l;have hll:=aOd (l:=l);have:=fX (S:=Int) (λk j us=>eY (bH l) out k us j) (bH l).length (λj us=>some (out,decide (us=((((bH l).drop j).filter isL).length:Int)))) (λj us=> -(j:Int)<=us/\us<=1000) ?_ ?_ BIG used (cC (by omega)) ?_
 ·rw[List.drop_zero] at this;have e:decide ((used:Int)=(((bH l).filter isL).length:Int))=decide (used=(cV l).length):=by
   unfold cV;rw[Bool.eq_iff_iff];simp only[decide_eq_true_eq];omega
  rw[<-e];exact this
 ·intro k j us hj ⟨hI1,hI2⟩ ih;rw[List.drop_eq_getElem_cons hj,List.filter_cons];simp only[eY,Int.ofNat_lt,hj,decide_true,cond_true,bE hj,Option.bind_some,bG (show j<9223372036854775807 by omega)]
  by_cases hk:(bH l)[j].Kind=5
  ·have hL:isL (bH l)[j]=true:=by simp[isL,hk]
   simp only[hk,hL,decide_true,cond_true,if_true];rw[cG (by omega) (by omega),ih _ (by omega)];simp only[List.length_cons]
   congr 2
   rw[Bool.eq_iff_iff];simp only[decide_eq_true_eq];omega
  ·have hL:isL (bH l)[j]=false:=by simp[isL,hk]
   simp only[hk,hL,decide_false,cond_false,Bool.false_eq_true,if_false];exact ih us (by omega)
 ·intro k us _
  simp[eY,uT]
 ·omega
def aOv(t:aD)(l:List aA):Option (List Int×List aA):=lB (cV l) t.Slots.length 0 t.Slots t.Slots []
theorem aMw(L:List aA){S:List Int}(h:aIf S):GI L S 0 S S []:=by
 refine⟨by simp,by simp,by simp,by simp,rfl,λ_ _=>rfl,λx h=>h,λa b hab hb e=>?_,λ_ _=>.rfl,by simp⟩;rw[bN (by omega),bN hb] at e;rw[bN hb];exact h.dup b hb a hab e
include hl h32 in
theorem bOe(hT:aIf t.Slots)(hL:LOK (cV l)):pJ t l=some (match aOv t l with
  |none=>([],false)
  |some (d,U)=>(d,decide (U.length=(cV l).length))):=by
 have hll:=aOd (l:=l);unfold pJ;rw[bNc l hl,Option.bind_some,eL (by simp;omega),Option.bind_some,List.nil_append];have key:∀n i d ever U k,GI (cV l) t.Slots i d ever U->i+n=t.Slots.length->n<k->dP (bH l) t k U.length i (d.take i) ever=some (match lB (cV l) n i d ever U with
   |none=>([],false)
   |some (d,U)=>(d,decide (U.length=(cV l).length))):=by
  intro n
  induction n with
  | zero=>
   intro i d ever U k hG hi hk;cases k with
   |zero=>omega
   | succ k=>
    have hlt:decide ((i:Int)<(t.Slots.length:Int))=false:=decide_eq_false (by omega);have hta:d.take i=d:=List.take_of_length_le (by rw[hG.len];omega);simp only[dP,hlt,cond_false,uR,hta,lB];exact bSa hl d U.length (rQ hG.un hG.us)
  | succ n ih=>
   intro i d ever U k hG hi hk;cases k with
   |zero=>omega
   | succ k=>
    have hlt:i<t.Slots.length:=by omega
    have hid:i<d.length:=by rw[hG.len];exact hlt
    have hnow:t.Slots[i]=d.getD i 0:=by rw[hG.dr i (by omega),bN hlt]
    have hsl:=bXy hl h32 (dP (bH l) t k) i (d.take i) ((cV l).length+1) BIG (d.getD i 0) ever U (hG.start hlt) (by omega) (cC (by omega));simp only[dP,Int.ofNat_lt,hlt,decide_true,cond_true,bE hlt,Option.bind_some,hnow,hsl,lB];cases hs:jZ (cV l) i ((cV l).length+1) (d.getD i 0) ever U with
    |none=>rfl
    | some q=>
     obtain⟨now',ever',U'⟩:=q;simp only[pV,uS];rw[eL (by simp;omega),Option.bind_some,bG (by omega)];have ht:d.take i++[now']=(d.set i now').take (i+1):=by
      rw[List.take_succ_eq_append_getElem (by rw[List.length_set];exact hid),List.take_set_of_le (Nat.le_refl i)]
      simp
     rw[ht];exact ih (i+1) (d.set i now') ever' U' k (hG.next hL hlt hs) (by omega) (by omega)
 have:=key t.Slots.length 0 t.Slots t.Slots [] BIG (aMw _ hT) (by omega) (cC (by omega))
 simpa[aOv] using this
end
end Go.Am
end
section
namespace Go.Am
theorem aKd{α β:Type}[DecidableEq α](a:α):∀l:List (α×β),(tU a l).map (·.1)=(l.map (·.1)).erase a
 |[]=>by simp[tU,eW]
 | (k,u)::l=>by
  have ih:=aKd a l;unfold tU at ih|-;simp only[List.map_cons,eW]
  by_cases h:a=k
  ·subst h;simp
  ·rw[decide_eq_false h,cond_false,List.erase_cons_tail (by simpa using Ne.symm h),<-ih];cases eW a (l.map (·.1)) with
   |none=>simp
   |some j=>simp
theorem aWg{α β:Type}[DecidableEq α]{a x:α}{l:List (α×β)}(hn:(l.map (·.1)).Nodup):x∈(tU a l).map (·.1)↔x∈l.map (·.1)/\x≠a:=by
 rw[aKd,hn.mem_erase_iff];exact And.comm
theorem aZf{α β:Type}[DecidableEq α]{a:α}{l:List (α×β)}(hn:(l.map (·.1)).Nodup):((tU a l).map (·.1)).Nodup:=by
 rw[aKd];exact hn.erase a
theorem aOe{α β:Type}[DecidableEq α]{a:α}{l:List (α×β)}(h:a∈l.map (·.1)):(tU a l).length+1=l.length:=by
 have h1:=congrArg List.length (aKd a l);rw[List.length_map,List.length_erase_of_mem h,List.length_map] at h1;have:0<l.length:=by
  cases l with
  |nil=>simp at h
  |cons=>simp
 omega
theorem bDy{t:aD}{d:List Int}{lk:List (aA×Int)}{i:Nat}{Q:aA×Bool->Prop}(hi:i<d.length)(hlen:lk.length<=3000)
  (h1:∀s:aA,s∈lk.map (·.1)->s.Place=(i:Int)->s.Old=d.getD i 0->Q (s,true))
  (h0:(∀s:aA,s∈lk.map (·.1)->s.Place=(i:Int)->s.Old≠d.getD i 0)->Q (⟨0,0,0,0,0⟩,false)):jQ t d lk i Q:=by
 have key:∀n k left,left.length=n->n<k->(∀p∈left,p∈lk)->(∀s:aA,s∈lk.map (·.1)->s.Place=(i:Int)->s.Old=d.getD i 0->s∈left.map (·.1))->jB Q i d t lk k ⟨0,0,0,0,0⟩ left:=by
  intro n
  induction n with
  | zero=>
   intro k left hn hk hsub hall;cases k with
   |zero=>omega
   | succ k=>
    have:left=[]:=List.length_eq_zero_iff.1 hn;subst this;simp only[jB,qU];refine⟨λ_=>h0 λs hs hp ho=>?_,λj p hj=>by simp at hj⟩
    simpa using hall s hs hp ho
  | succ n ih=>
   intro k left hn hk hsub hall;cases k with
   |zero=>omega
   | succ k=>
    simp only[jB,qU];refine⟨λe=>by subst e;simp at hn,λj p hj=>?_⟩;have hjl:j<left.length:=by
     rcases Nat.lt_or_ge j left.length with h|h
     ·exact h
     ·rw[List.getElem?_eq_none h] at hj;cases hj
    have hpm:p∈left:=List.mem_of_getElem? hj;have hkey:p.1∈lk.map (·.1):=List.mem_map.2 ⟨p,hsub p hpm,rfl⟩;simp only[bE hi,Option.bind_some,cB];refine⟨_,rfl,?_⟩;rw[<-bN hi 0]
    by_cases hm:p.1.Place=i/\p.1.Old=d.getD i 0
    ·simp only[hm.1,hm.2,decide_true,Bool.and_self,cond_true];exact h1 _ hkey hm.1 hm.2
    ·have:(decide (p.1.Place=(i:Int))&&decide (p.1.Old=d.getD i 0))=false:=by
      rw[Bool.and_eq_false_iff,decide_eq_false_iff_not,decide_eq_false_iff_not]
      by_cases h:p.1.Place=i
      ·exact .inr λh'=>hm ⟨h,h'⟩
      ·exact .inl h
     simp only[this,cond_false];refine ih k _ (by rw[List.length_eraseIdx];simp[hjl];omega) (by omega) (λq hq=>hsub q (List.mem_of_mem_eraseIdx hq)) λs hs hp ho=>?_;obtain⟨q,hq,rfl⟩:=List.mem_map.1 (hall s hs hp ho);refine List.mem_map.2 ⟨q,?_,rfl⟩;obtain⟨j',hj',rfl⟩:=List.mem_iff_getElem.1 hq;rw[List.mem_eraseIdx_iff_getElem];refine⟨j',hj',?_,rfl⟩;rintro rfl;rw[List.getElem?_eq_getElem hj'] at hj;cases hj;exact hm ⟨hp,ho⟩
 unfold jQ aMd;exact key lk.length BIG lk rfl (cC (by omega)) (λp hp=>hp) λs hs _ _=>hs
structure LK(L:List aA)(lk:List (aA×Int))(U:List aA):Prop where
 nd:(lk.map (·.1)).Nodup
 mem:∀s:aA,s∈lk.map (·.1)↔s∈L/\s∉U
def bFt(i:Nat)(d ever:List Int)(lk:List (aA×Int)):Prop:=
 ∃x:aA,x∈lk.map (·.1)/\(x.Place<(i:Int)\/(x.Place=(i:Int)/\x.Old∈ever/\x.Old≠d.getD i 0))
structure PS(D:Nat)(d ever:List Int)(lk:List (aA×Int)):Prop where
 dl:d.length=D
 sz:D+lk.length+ever.length<=3000
 mem:∀x∈d,x∈ever
 nd:(lk.map (·.1)).Nodup
theorem PS.step{D:Nat}{d ever:List Int}{lk:List (aA×Int)}(h:PS D d ever lk){s:aA}(hs:s∈lk.map (·.1))(i:Nat):PS D (d.set i s.Player) (ever++[s.Player]) (tU s lk):=by
 have hml:=aOe hs;obtain⟨h1,h2,h3,h4⟩:=h;refine⟨by simpa using h1,by simp;omega,λx hx=>?_,aZf h4⟩
 rcases List.mem_or_eq_of_mem_set hx with hx|rfl
 ·exact List.mem_append_left _ (h3 x hx)
 ·simp
section
variable{t:aD}{L:List aA}(hLn:L.Nodup)
variable(Q:(Bool×List Int×List (aA×Int))->Prop)(hbad:∀d lk,Q (false,d,lk))
include hbad in
theorem bEn(a0:Int->List Int->List (aA×Int)->List Int->Prop)(T:Int){i D:Nat}(hiD:i<D)
  (hgo:∀d lk ever,PS D d ever lk->bFt (i+1) d ever lk->a0 ((i+1:Nat):Int) d lk ever):
  ∀n k d lk ever,lk.length<=n->n<k->PS D d ever lk->bFt i d ever lk->
  jQ t d lk i λr=>dO Q a0 i T i t k r.2 d lk r.1 ever:=by
 intro n
 induction n with
 | zero=>
  intro k d lk ever hn hk hP ⟨x,hx,_⟩;have:lk=[]:=List.length_eq_zero_iff.1 (by omega);subst this
  simp at hx
 | succ n ih=>
  intro k d lk ever hn hk hP hD;have hi:i<d.length:=by rw[hP.dl];exact hiD
  have hnd:=hP.nd;have hlen:=hP.sz;obtain⟨x,hx,hxp⟩:=hD;cases k with
  |zero=>omega
  | succ k=>
   refine bDy hi (by omega) (λs hs hp ho=>?_) λ_=>?_
   ·simp only[dO,cond_true];refine⟨_,aCq ever (by omega) _,?_⟩
    by_cases hpe:s.Player∈ever
    ·simp only[hpe,decide_true,cond_true];exact hbad _ _
    ·simp only[hpe,decide_false,cond_false];refine⟨_,bE hi,_,eL (by simp;omega),?_⟩;have hml:=aOe hs;have e:((i:Int)).toNat=i:=by simp
     rw[e];refine ih k (d.set i s.Player) (tU s lk) (ever++[s.Player]) (by omega) (by omega) (hP.step hs i) ⟨x,(aWg hnd).2 ⟨hx,?_⟩,?_⟩
     ·rintro rfl
      rcases hxp with h|⟨_,_,h⟩
      ·omega
      ·exact h ho
     ·rcases hxp with h|⟨h1,h2,h3⟩
      ·exact .inl h
      ·rw[nW hi,if_pos rfl];exact .inr ⟨h1,List.mem_append_left _ h2,λe=>hpe (e▸h2)⟩
   ·simp only[dO,cond_false,oI,oH,bG (show i<9223372036854775807 by omega)];refine hgo d lk ever hP ⟨x,hx,.inl ?_⟩
    rcases hxp with h|⟨h,_⟩<;>omega
include hLn in
theorem bUy(a0:Int->List Int->List (aA×Int)->List Int->Prop)(T:Int){i D:Nat}(hiD:i<D):
  ∀n k d lk now ever U,lk.length+n+1<=k->PS D d ever lk->now=d.getD i 0->SI L t.Slots.length i now ever U->LK L lk U->L.length<n+U.length->
  (∀now' ever' U' lk',jZ L i n now ever U=some (now',ever',U')->LK L lk' U'->PS D (d.set i now') ever' lk'->a0 ((i+1:Nat):Int) (d.set i now') lk' ever')->
  (jZ L i n now ever U=none->(∀d lk,Q (false,d,lk))/\∀d lk ever,PS D d ever lk->bFt (i+1) d ever lk->a0 ((i+1:Nat):Int) d lk ever)->
  jQ t d lk i λr=>dO Q a0 i T i t k r.2 d lk r.1 ever:=by
 intro n
 induction n with
 | zero=>
  intro k d lk now ever U hk hP hnow hS hK hn hok hbd;have:=hS.le
  omega
 | succ n ih=>
  intro k d lk now ever U hk hP hnow hS hK hn hok hbd;have hi:i<d.length:=by rw[hP.dl];exact hiD
  have hlen:=hP.sz;have hc:∀s:aA,s∈lk.map (·.1)->s.Place=(i:Int)->s.Old=d.getD i 0->s∈iM L i now:=λs hs hp ho=>vM.2 ⟨((hK.mem s).1 hs).1,hp,by rw[hnow];exact ho⟩;have hc':∀s:aA,s∈iM L i now->s∈lk.map (·.1):=by
   intro s hs;obtain⟨m1,m2,m3⟩:=vM.1 hs;exact(hK.mem s).2 ⟨m1,λhu=>(hS.old s hu m2).2 m3⟩
  cases k with
  |zero=>omega
  | succ k=>
   refine bDy hi (by omega) (λs hs hp ho=>?_) λhno=>?_
   ·have hsc:=hc s hs hp ho;simp only[dO,cond_true];refine⟨_,aCq ever (by omega) _,?_⟩;have e:((i:Int)).toNat=i:=by simp
    by_cases hone:∃s2,s2∈iM L i now/\s2≠s
    ·obtain⟨s2,h2,hne⟩:=hone;obtain⟨m1,m2,m3⟩:=vM.1 h2;have hnone:jZ L i (n+1) now ever U=none:=by
      rw[jZ];cases h:iM L i now with
      |nil=>rw[h] at h2;simp at h2
      | cons a cs=>
       cases cs with
       |cons b cs=>rfl
       | nil=>
        rw[h] at h2 hsc
        simp at h2 hsc
        exact absurd (h2.trans hsc.symm) hne
     obtain⟨hbad,hgo⟩:=hbd hnone
     by_cases hpe:s.Player∈ever
     ·simp only[hpe,decide_true,cond_true];exact hbad _ _
     ·simp only[hpe,decide_false,cond_false];refine⟨_,bE hi,_,eL (by simp;omega),?_⟩;have hml:=aOe hs;rw[e];refine bEn Q hbad a0 T hiD hgo (tU s lk).length k _ _ _ (Nat.le_refl _) (by omega) (hP.step hs i) ⟨s2,(aWg hK.nd).2 ⟨hc' s2 h2,hne⟩,.inr ⟨m2,?_,?_⟩⟩
      ·rw[m3];exact List.mem_append_left _ hS.ne
      ·rw[nW hi,if_pos rfl,m3];exactλe=>hpe (e▸hS.ne)
    ·have hall:∀x∈iM L i now,x=s:=λx hx=>Classical.byContradiction λh=>hone ⟨x,hx,h⟩;have hcs:iM L i now=[s]:=by
      have hnd:(iM L i now).Nodup:=hLn.filter _;cases h:iM L i now with
      |nil=>rw[h] at hsc;simp at hsc
      | cons a cs=>
       rw[h] at hall hnd;have ha:=hall a (by simp);subst ha;cases cs with
       |nil=>rfl
       | cons b cs=>
        have:=hall b (by simp);subst this
        simp at hnd
     by_cases hpe:s.Player∈ever
     ·simp only[hpe,decide_true,cond_true];exact(hbd (by rw[jZ,hcs];simp only[hpe,if_true])).1 _ _
     ·simp only[hpe,decide_false,cond_false];refine⟨_,bE hi,_,eL (by simp;omega),?_⟩;have hml:=aOe hs;rw[e];have hslot:jZ L i (n+1) now ever U=jZ L i n s.Player (ever++[s.Player]) (U++[s]):=by
       rw[jZ,hcs];simp only[hpe,if_false]
      rw[hslot] at hok hbd;refine ih k (d.set i s.Player) (tU s lk) s.Player (ever++[s.Player]) (U++[s]) (by omega) (hP.step hs i) (by rw[nW hi,if_pos rfl]) (hS.next hsc hpe) ⟨aZf hK.nd,λx=>?_⟩ (by simp;omega) (λnow' ever' U' lk' h1 h2 h3=>?_) hbd
      ·rw[aWg hK.nd,hK.mem,List.mem_append,List.mem_singleton,not_or,and_assoc]
      ·rw[List.set_set] at h3|-;exact hok now' ever' U' lk' h1 h2 h3
   ·have hcs:iM L i now=[]:=by
     cases h:iM L i now with
     |nil=>rfl
     | cons s cs=>
      have hs:s∈iM L i now:=by rw[h];simp
      obtain⟨m1,m2,m3⟩:=vM.1 hs;exact absurd (by rw[m3,hnow]) (hno s (hc' s hs) m2)
    have hslot:jZ L i (n+1) now ever U=some (now,ever,U):=by rw[jZ,hcs]
    simp only[dO,cond_false,oI,oH,bG (show i<9223372036854775807 by omega)];have e:d.set i now=d:=by rw[hnow,bN hi];exact List.set_getElem_self hi
    have:=hok now ever U lk hslot hK;rw[e] at this;exact this hP
theorem bVs{i:Nat}{d ever:List Int}{lk:List (aA×Int)}(h:bFt i d ever lk):decide ((lk.length:Int)=0)=false:=by
 obtain⟨x,hx,_⟩:=h;cases lk with
 |nil=>simp at hx
 |cons=>exact decide_eq_false (by simp;omega)
theorem bVr(hbad:∀d lk,Q (false,d,lk)){D:Nat}(hD:D<=3000):∀n i k d lk ever,i+n=D->n<k->PS D d ever lk->bFt i d ever lk->cJ Q D t k i d lk ever:=by
 intro n
 induction n with
 | zero=>
  intro i k d lk ever hi hk hP hd;cases k with
  |zero=>omega
  | succ k=>
   have hlt:decide ((i:Int)<(D:Int))=false:=decide_eq_false (by omega);simp only[cJ,hlt,cond_false,oG,bVs hd];exact hbad _ _
 | succ n ih=>
  intro i k d lk ever hi hk hP hd;cases k with
  |zero=>omega
  | succ k=>
   have hlt:i<D:=by omega
   have hsz:=hP.sz;simp only[cJ,Int.ofNat_lt,hlt,decide_true,cond_true];exact bEn Q hbad (cJ Q D t k) D hlt (λd lk ever h1 h2=>ih (i+1) k d lk ever (by omega) (by omega) h1 h2) lk.length BIG d lk ever (Nat.le_refl _) (cC (by omega)) hP hd
include hLn in
theorem bLm(hL:LOK L){S:List Int}(hD:S.length=t.Slots.length)(hS:S.length<=1000)(hLl:L.length<=500):∀n i k d lk ever U,i+n=S.length->n<k->GI L S i d ever U->PS S.length d ever lk->LK L lk U->
  (∀d' U',lB L n i d ever U=some (d',U')->U'.length=L.length->Q (true,d',[]))->
  ((∀d' U',lB L n i d ever U=some (d',U')->U'.length≠L.length)->∀d lk,Q (false,d,lk))->cJ Q S.length t k i d lk ever:=by
 intro n
 induction n with
 | zero =>
  intro i k d lk ever U hi hk hG hP hK hok hbad;cases k with
  |zero=>omega
  | succ k=>
   have hlt:decide ((i:Int)<(S.length:Int))=false:=decide_eq_false (by omega);simp only[cJ,hlt,cond_false,oG]
   by_cases hU:U.length=L.length
   ·have hnil:lk=[]:=by
     cases lk with
     |nil=>rfl
     | cons p lk=>
      have hp:=(hK.mem p.1).1 (by simp);have:=rQ (l:=p.1::U) (m:=L) (List.nodup_cons.2 ⟨hp.2,hG.un⟩) λx hx=>by
       rcases List.mem_cons.1 hx with rfl|hx
       ·exact hp.1
       ·exact hG.us x hx
      simp only[List.length_cons] at this
      omega
    subst hnil;exact hok d U rfl hU
   ·have hne:lk≠[]:=by
     rintro rfl;refine hU (Nat.le_antisymm (rQ hG.un hG.us) (rQ hLn λx hx=>?_));refine Classical.byContradiction λhxu=>?_;have:=(hK.mem x).2 ⟨hx,hxu⟩
     simp at this
    have:decide ((lk.length:Int)=0)=false:=by
     cases lk with
     |nil=>exact absurd rfl hne
     |cons=>exact decide_eq_false (by simp;omega)
    rw[this];refine hbad (λd' U' h=>?_) _ _;simp only[lB,Option.some.injEq,Prod.mk.injEq] at h;rw[<-h.2];exact hU
 | succ n ih=>
  intro i k d lk ever U hi hk hG hP hK hok hbad;cases k with
  |zero=>omega
  | succ k=>
   have hlt:i<S.length:=by omega
   have hsz:=hP.sz;simp only[cJ,Int.ofNat_lt,hlt,decide_true,cond_true];refine bUy hLn Q (cJ Q S.length t k) S.length hlt (L.length+1) BIG d lk (d.getD i 0) ever U ?_ hP rfl (hD▸hG.start hlt) hK (by omega) (λnow' ever' U' lk' h1 h2 h3=>?_) λh=>⟨?_,λd' lk' ever' h1 h2=>?_⟩
   ·exact Nat.le_of_lt (cC (by omega))
   ·refine ih (i+1) k (d.set i now') lk' ever' U' (by omega) (by omega) (hG.next hL hlt h1) h3 h2 (λd' U'' h hl=>hok d' U'' ?_ hl) λh=>hbad λd' U'' h'=>h d' U'' ?_
    ·rw[lB,h1];exact h
    ·rw[lB,h1] at h';exact h'
   ·exact hbad λd' U' h'=>by rw[lB,h] at h';simp at h'
   ·exact bVr Q (hbad λd' U' h'=>by rw[lB,h] at h';simp at h') (by omega) n (i+1) k d' lk' ever' (by omega) (by omega) h1 h2
include hLn in
theorem bJc(hT:aIf t.Slots)(hL:LOK L)(h32:t.Slots.length<=32)(hLl:L.length<=500){lk:List (aA×Int)}(hK:LK L lk [])
  (hok:∀d U,lB L t.Slots.length 0 t.Slots t.Slots []=some (d,U)->U.length=L.length->Q (true,d,[]))
  (hbad:(∀d U,lB L t.Slots.length 0 t.Slots t.Slots []=some (d,U)->U.length≠L.length)->∀d lk,Q (false,d,lk)):mZ t t.Slots lk Q:=by
 have hlk:lk.length<=500:=by
  have:=rQ hK.nd (λx hx=>((hK.mem x).1 hx).1);rw[List.length_map] at this
  omega
 unfold mZ;refine⟨t.Slots,by unfold gO;rw[eL (by simp;omega)];rfl,?_⟩;exact bLm hLn Q hL rfl (by omega) hLl t.Slots.length 0 BIG t.Slots lk t.Slots [] (by omega) (cC (by omega)) (aMw L hT) ⟨rfl,by omega,λx hx=>hx,hK.nd⟩ hK hok hbad
end
end Go.Am
end
section
namespace Go.Am
def cell(a r:Nat):aB:=⟨(r:Int),((a/2^(r+1):Nat):Int)⟩
abbrev qE:=aB->Int->Prop
def Func(P:qE):Prop:=∀m v w,P m v->P m w->v=w
def clm(d:List Int)(a r:Nat):qE:=λm v=>v=d.getD a 0/\∃q,q<=r/\m=cell a q
def yE(P Q:qE):Prop:=∀m v w,P m v->Q m w->v=w
theorem Func.sub{P Q:qE}(h:Func P)(hs:∀m v,Q m v->P m v):Func Q:=λm v w h1 h2=>h m v w (hs _ _ h1) (hs _ _ h2)
theorem bVo{a b q r:Nat}(h:cell a q=cell b r):q=r/\a/2^(q+1)=b/2^(r+1):=by
 simp only[cell,aB.mk.injEq] at h
 omega
structure WonIs(won:List (aB×Int))(P:qE):Prop where
 nd:(won.map (·.1)).Nodup
 mem:∀m v,(m,v)∈won↔P m v
theorem WonIs.ext{won:List (aB×Int)}{P Q:qE}(h:WonIs won P)(he:∀m v,P m v↔Q m v):WonIs won Q:=⟨h.nd,λm v=>(h.mem m v).trans (he m v)⟩
theorem WonIs.get{won:List (aB×Int)}{P:qE}(h:WonIs won P){m:aB}{v z:Int}(hp:P m v):cE m z won=v:=aWh h.nd ((h.mem m v).2 hp)
theorem WonIs.has{won:List (aB×Int)}{P:qE}(h:WonIs won P)(m:aB):cI m won=true↔∃v,P m v:=by
 rw[aIz,decide_eq_true_eq,List.mem_map]
 constructor
 ·rintro⟨⟨m',v⟩,hv,rfl⟩;exact⟨v,(h.mem _ _).1 hv⟩
 ·rintro⟨v,hv⟩;exact⟨(m,v),(h.mem _ _).2 hv,rfl⟩
theorem WonIs.func{won:List (aB×Int)}{P:qE}(h:WonIs won P):Func P:=λm v w h1 h2=>(h.get (z:=0) h1).symm.trans (h.get h2)
theorem WonIs.nil:WonIs [] (λ_ _=>False):=⟨by simp,by simp⟩
theorem WonIs.set{won:List (aB×Int)}{P:qE}(h:WonIs won P){m:aB}{n:Int}(hc:∀v,P m v->v=n):WonIs (eM m n won) (λx v=>P x v\/(x=m/\v=n)):=by
 by_cases hm:m∈won.map (·.1)
 ·obtain⟨⟨m',v⟩,hv,e⟩:=List.mem_map.1 hm;simp only at e;subst e;have:v=n:=hc v ((h.mem _ _).1 hv);subst this;rw[aSg h.nd hv];exact⟨h.nd,λx w=>⟨λhx=>.inl ((h.mem _ _).1 hx),λhx=>hx.elim (h.mem _ _).2 λ⟨a,b⟩=>a▸b▸hv⟩⟩
 ·rw[bDw hm];refine⟨?_,λx w=>?_⟩
  ·rw[List.map_append];exact List.nodup_append.2 ⟨h.nd,by simp,λx hx y hy=>by simp at hy;subst hy;exactλe=>hm (e▸hx)⟩
  ·rw[List.mem_append,List.mem_singleton,h.mem,Prod.mk.injEq]
structure DOK(t:aD)(d:List Int):Prop where
 len:d.length=t.Slots.length
 dup:∀a b,a<b->b<d.length->d.getD a 0=d.getD b 0->d.getD b 0= -1
 bye:∀a,a<d.length->(d.getD a 0= -1↔t.Slots.getD a 0= -1)
 rng:∀a,a<d.length→-1<=d.getD a 0
theorem DOK.uni{t:aD}{d:List Int}(h:DOK t d){a b:Nat}(ha:a<d.length)(hb:b<d.length)(e:d.getD a 0=d.getD b 0)(hn:d.getD a 0≠-1):a=b:=by
 rcases Nat.lt_trichotomy a b with hl|rfl|hl
 ·exact absurd (h.dup a b hl hb e) (e▸hn)
 ·rfl
 ·exact absurd (h.dup b a hl ha e.symm) hn
def sib(a:Nat):Nat:=if a % 2=0 then a+1 else a-1
theorem bXx(a:Nat):sib a/2=a/2:=by unfold sib;split<;>omega
theorem aVo(a:Nat):cell (sib a) 0=cell a 0:=by simp[cell,bXx]
theorem cAz{a b:Nat}(h:a/2=b/2):a=b\/a=sib b:=by unfold sib;split<;>omega
def bVm(d:List Int):qE:=λm v=>∃i,i<d.length/\d.getD i 0= -1/\m=cell (sib i) 0/\v=d.getD (sib i) 0
def aUe(d:List Int)(D:aA->Prop):qE:=λm v=>∃x,D x/\∃a,a<d.length/\d.getD a 0=x.Player/\clm d a x.Round.toNat m v
def iX(d:List Int)(D:aA->Prop):qE:=λm v=>bVm d m v\/aUe d D m v
def gs(d:List Int)(x:aA):Prop:=∃a,a<d.length/\d.getD a 0=x.Player/\cell a x.Round.toNat=⟨x.Round,x.Place⟩
def Res(l:List aA)(x:aA):Prop:=x∈l/\x.Kind≠5
structure OKF(d:List Int)(l:List aA):Prop where
 two:aTo l
 slot:∀x,Res l x->gs d x
 fn:Func (iX d (Res l))
theorem aTg{t:aD}(ht:TreeOK t){i:Nat}(h:i<t.Slots.length):sib i<t.Slots.length:=by
 have h1:=ht.r1;have h2:=ht.len;have:t.Slots.length % 2=0:=by
  rw[h2];obtain⟨k,hk⟩:∃k,t.Rounds.toNat=k+1:=⟨t.Rounds.toNat-1,by omega⟩;rw[hk,Nat.pow_succ];omega
 unfold sib;split<;>omega
theorem DOK.sib_ne{t:aD}(ht:TreeOK t){d:List Int}(h:DOK t d){i:Nat}(hi:i<d.length)(hb:d.getD i 0= -1):d.getD (sib i) 0≠-1:=by
 have hi':i<t.Slots.length:=h.len▸hi;have hs:=aTg ht hi';have hsd:sib i<d.length:=h.len▸hs;intro hc;have e1:=(h.bye _ hi).1 hb;have e2:=(h.bye _ hsd).1 hc;rw[bN hi'] at e1;rw[bN hs] at e2;unfold sib at e2 hs
 by_cases he:i % 2=0
 ·obtain⟨j,rfl⟩:∃j,i=2*j:=⟨i/2,by omega⟩;simp only[he,if_true] at e2 hs;exact ht.bye j hs e1 e2
 ·obtain⟨j,rfl⟩:∃j,i=2*j+1:=⟨i/2,by omega⟩;simp only[he,if_false,Nat.add_sub_cancel] at e2 hs;exact ht.bye j hi' e2 e1
theorem bRw{t:aD}(ht:TreeOK t){d:List Int}(h:DOK t d){i j:Nat}(hi:i<d.length)(hj:j<d.length)(bi:d.getD i 0= -1)(bj:d.getD j 0= -1)(hc:cell (sib i) 0=cell (sib j) 0):i=j:=by
 rw[aVo,aVo] at hc;have hc:=(bVo hc).2;simp only[Nat.zero_add,Nat.pow_one] at hc
 rcases cAz hc with e|e
 ·exact e
 ·have:=h.sib_ne ht hj bj;rw[<-e] at this;exact absurd bi this
theorem bWi{t:aD}{d:List Int}(h:DOK t d)(hl:d.length<=1000){a:Nat}(ha:a<d.length)(hn:d.getD a 0≠-1):kK d (d.getD a 0)=some (a:Int):=by
 rw[aIm d (by omega)];have:d.findIdx? (λx=>decide (d.getD a 0=x))=some a:=by
  rw[List.findIdx?_eq_some_iff_getElem];refine⟨ha,by rw[bN ha];simp,λj hj=>?_⟩;simp only[Bool.not_eq_true,decide_eq_false_iff_not];intro e;rw[<-bN (show j<d.length by omega) 0] at e;have:=h.uni ha (show j<d.length by omega) e hn
  omega
 rw[this]
theorem bPc{d:List Int}(hl:d.length<=1000){n:Int}(hn:∀a,a<d.length->d.getD a 0≠n):kK d n=some (-1):=by
 rw[aIm d (by omega)];have:d.findIdx? (λx=>decide (n=x))=none:=by
  rw[List.findIdx?_eq_none_iff];intro x hx;obtain⟨i,hi,rfl⟩:=List.mem_iff_getElem.1 hx;have:=hn i hi;rw[bN hi] at this
  simpa using Ne.symm this
 rw[this]
end Go.Am
end
section
namespace Go.Am
theorem aVw(a r:Nat):(a:Int).fdiv (2^(r+1))=((a/2^(r+1):Nat):Int):=by
 have e:(2:Int)^(r+1)=((2^(r+1):Nat):Int):=by simp
 rw[e];exact(Int.ofNat_fdiv a (2^(r+1))).symm
theorem bZo{a r:Nat}(hr:r<=5):vX (r:Int) (a:Int)=some (cell a r):=by
 have hw:w64 ((r:Int)+1)=((r+1:Nat):Int):=bG (by omega);have hch:chk (decide (0<=((r+1:Nat):Int)))=some ():=by unfold chk;rw[decide_eq_true (by omega)];rfl
 have hm:min ((r+1:Nat):Int).toNat 64=r+1:=by omega
 unfold vX;rw[hw,hch,Option.bind_some,hm,aVw]
 rfl
theorem bEs{t:aD}{d:List Int}{P:qE}{a r:Nat}(ha:a<d.length)(hr:r<=5){won:List (aB×Int)}(h:WonIs won P):
  ∃b w,nR t d won a r=some (b,w)/\(b=true->yE P (clm d a r)/\WonIs w (λm v=>P m v\/clm d a r m v))/\(b=false->¬yE P (clm d a r)):=by
 have key:∀n q k won',q+n=r+1->n<k->WonIs won' (λm v=>P m v\/(v=d.getD a 0/\∃p,p<q/\m=cell a p))->(∀p,p<q->∀v,P (cell a p) v->v=d.getD a 0)->
   ∃b w,jC a ((r+1:Nat):Int) d t k q won'=some (b,w)/\(b=true->yE P (clm d a r)/\WonIs w (λm v=>P m v\/clm d a r m v))/\(b=false->¬yE P (clm d a r)):=by
  intro n
  induction n with
  | zero=>
   intro q k won' hq hk hW hc;have:q=r+1:=by omega
   subst this;cases k with
   |zero=>omega
   | succ k=>
    have hlt:decide (((r+1:Nat):Int)<((r+1:Nat):Int))=false:=decide_eq_false (by omega);simp only[jC,hlt,cond_false,vW];refine⟨true,won',rfl,λ_=>⟨?_,hW.ext λm v=>?_⟩,λe=>by cases e⟩
    ·rintro m v w hp ⟨rfl,p,hp',rfl⟩;exact hc p (by omega) v hp
    ·constructor
     ·rintro(h|⟨e,p,hp,e2⟩)
      ·exact .inl h
      ·exact .inr ⟨e,p,by omega,e2⟩
     ·rintro(h|⟨e,p,hp,e2⟩)
      ·exact .inl h
      ·exact .inr ⟨e,p,by omega,e2⟩
  | succ n ih=>
   intro q k won' hq hk hW hc;cases k with
   |zero=>omega
   | succ k=>
    have hlt:decide ((q:Int)<((r+1:Nat):Int))=true:=decide_eq_true (by omega);simp only[jC,hlt,cond_true,bZo (show q<=5 by omega),Option.bind_some,bE ha,bG (show q<9223372036854775807 by omega)];rw[<-bN ha 0]
    by_cases hex:∃v,P (cell a q) v/\v≠d.getD a 0
    ·obtain⟨v,hv,hne⟩:=hex;have hh:cI (cell a q) won'=true:=(hW.has _).2 ⟨v,.inl hv⟩;have hg:cE (cell a q) 0 won'=v:=hW.get (.inl hv);simp only[hh,hg,cond_true,hne,decide_false,Bool.not_false,Option.bind_some];exact⟨false,won',rfl,λe=>(by cases e),λ_ hco=>hne (hco _ v _ hv ⟨rfl,q,by omega,rfl⟩)⟩
    ·have hall:∀v,P (cell a q) v->v=d.getD a 0:=λv hv=>Classical.byContradiction λe=>hex ⟨v,hv,e⟩;have hall':∀v,(P (cell a q) v\/(v=d.getD a 0/\∃p,p<q/\cell a q=cell a p))->v=d.getD a 0:=by
      rintro v (h|⟨h,_⟩)
      ·exact hall v h
      ·exact h
     have hb:((bif cI (cell a q) won' then some (!decide (cE (cell a q) 0 won'=d.getD a 0)) else some false):Option Bool)=some false:=by
      cases hh:cI (cell a q) won' with
      |false=>rfl
      | true=>
       obtain⟨v,hv⟩:=(hW.has _).1 hh;rw[hW.get hv,hall' v hv]
       simp
     simp only[hb,Option.bind_some,cond_false];refine ih (q+1) k _ (by omega) (by omega) ((hW.set hall').ext λm v=>?_) λp hp v hv=>?_
     ·constructor
      ·rintro((h|⟨e,p,hp,e2⟩)|⟨e1,e2⟩)
       ·exact .inl h
       ·exact .inr ⟨e,p,by omega,e2⟩
       ·exact .inr ⟨e2,q,by omega,e1⟩
      ·rintro(h|⟨e,p,hp,e2⟩)
       ·exact .inl (.inl h)
       ·by_cases hpq:p=q
        ·subst hpq;exact .inr ⟨e2,e⟩
        ·exact .inl (.inr ⟨e,p,by omega,e2⟩)
     ·by_cases hpq:p=q
      ·subst hpq;exact hall v hv
      ·exact hc p (by omega) v hv
 have:=key (r+1) 0 BIG won (by omega) (cC (by omega)) (h.ext λm v=>by simp) (λp hp=>by omega);unfold nR;rw[bG (show r<9223372036854775807 by omega)];exact this
theorem aZg{α:Type}{l:List α}(hnd:l.Nodup){j:Nat}(hj:j<l.length){x:α}:x∈l.eraseIdx j↔x∈l/\x≠l[j]:=by
 rw[List.mem_eraseIdx_iff_getElem]
 constructor
 ·rintro⟨i,hi,hne,rfl⟩;exact⟨List.getElem_mem hi,λe=>hne ((List.getElem_inj hnd).1 e)⟩
 ·rintro⟨hm,hne⟩;obtain⟨i,hi,rfl⟩:=List.mem_iff_getElem.1 hm;exact⟨i,hi,λe=>hne (by subst e;rfl),rfl⟩
structure ROK(t:aD)(s:aA):Prop where
 p0:0<=s.Player
 r0:0<=s.Round
 r1:s.Round<t.Rounds
theorem aXe{t:aD}{s:aA}(h:gL t s=true)(hk:s.Kind≠5):ROK t s:=by
 simp only[gL,hk,if_false,Bool.and_eq_true,mR,kH] at h;exact⟨h.1.1,h.2.1.1.2.1.1,by omega⟩
section
variable{t:aD}(ht:TreeOK t){d:List Int}(hD:DOK t d){l:List aA}(hR:∀s,Res l s->ROK t s)
include ht hD
omit ht in
theorem bTm{s:aA}(hr:ROK t s){a:Nat}(ha:a<d.length)(he:d.getD a 0=s.Player):gs d s↔cell a s.Round.toNat=⟨s.Round,s.Place⟩:=by
 have hp:=hr.p0
 constructor
 ·rintro⟨b,hb,e,h⟩;have:=hD.uni ha hb (he.trans e.symm) (by omega);subst this;exact h
 ·exactλh=>⟨a,ha,he,h⟩
omit ht in
theorem aTj{s:aA}(hr:ROK t s){a:Nat}(ha:a<d.length)(he:d.getD a 0=s.Player)(m:aB)(v:Int):aUe d (λx=>x=s) m v↔clm d a s.Round.toNat m v:=by
 have hp:=hr.p0
 constructor
 ·rintro⟨x,rfl,b,hb,e,h⟩;have:=hD.uni ha hb (he.trans e.symm) (by omega);subst this;exact h
 ·exactλh=>⟨s,rfl,a,ha,he,h⟩
include hR in
theorem bKn{Q:(Option aU×Bool)->Prop}{about:List (aB×aA)}(ham:∀m s,(m,s)∈about↔(s∈l/\s.Kind≠5/\m=⟨s.Round,s.Place⟩))(hN:aTo l)
  (hok:OKF d l->∀won,WonIs won (iX d (Res l))->Q (some ⟨t,d,won⟩,true))(hbad:¬OKF d l->Q (none,false)):
  ∀n k left won,left.length=n->n<k->left.Nodup->(∀p∈left,p∈about)->WonIs won (iX d (λs=>Res l s/\((⟨s.Round,s.Place⟩:aB),s)∉left))->(∀s,Res l s->((⟨s.Round,s.Place⟩:aB),s)∉left->gs d s)->
  lR Q d t about k won left:=by
 have h5:=ht.r5;have h32:=ht.len32;have hl:=hD.len;intro n
 induction n with
 | zero=>
  intro k left won hn hk hnd hsub hW hg;have:left=[]:=List.length_eq_zero_iff.1 hn;subst this;cases k with
  |zero=>omega
  | succ k=>
   simp only[lR,aBg];have hW':WonIs won (iX d (Res l)):=hW.ext λm v=>by simp[iX,aUe]
   exact⟨λ_=>hok ⟨hN,λx hx=>hg x hx (by simp),hW'.func⟩ won hW',λj p hj=>by simp at hj⟩
 | succ n ih=>
  intro k left won hn hk hnd hsub hW hg;cases k with
  |zero=>omega
  | succ k=>
   simp only[lR];refine⟨λe=>by subst e;simp at hn,λj p hj=>?_⟩;have hjl:j<left.length:=by
    rcases Nat.lt_or_ge j left.length with h|h
    ·exact h
    ·rw[List.getElem?_eq_none h] at hj;cases hj
   have hpm:p∈left:=List.mem_of_getElem? hj;obtain⟨m,s⟩:=p;obtain⟨s1,s2,rfl⟩:=(ham m s).1 (hsub _ hpm);have hres:Res l s:=⟨s1,s2⟩;have hr:=hR s hres;have hp0:=hr.p0;have hr0:=hr.r0;have hr1:=hr.r1;have er:s.Round=((s.Round.toNat:Nat):Int):=by omega
   by_cases hex:∃a,a<d.length/\d.getD a 0=s.Player
   ·obtain⟨a,ha,he⟩:=hex;refine⟨_,he▸bWi hD (by omega) ha (by omega),?_⟩;have hneg:decide ((a:Int)<0)=false:=decide_eq_false (by omega);have hof:vX s.Round a=some (cell a s.Round.toNat):=by rw[er];exact bZo (by omega)
    simp only[hneg,cond_false,hof,Option.bind_some];refine⟨_,rfl,?_⟩
    by_cases hc:cell a s.Round.toNat=⟨s.Round,s.Place⟩
    ·simp only[hc,decide_true,Bool.not_true,cond_false];obtain⟨b,w,hw,hT,hF⟩:=bEs (t:=t) ha (show s.Round.toNat<=5 by omega) hW;rw[<-er] at hw;refine⟨_,hw,?_⟩;cases b with
     | false=>
      simp only[Bool.not_false,cond_true];refine hbad λhO=>hF rfl λm v w' h1 h2=>hO.fn m v w' ?_ (.inr ⟨s,hres,a,ha,he,h2⟩)
      rcases h1 with h1|⟨x,hx,h1⟩
      ·exact .inl h1
      ·exact .inr ⟨x,hx.1,h1⟩
     | true=>
      simp only[Bool.not_true,cond_false];have hj':left[j]=(⟨s.Round,s.Place⟩,s):=by
       rw[List.getElem?_eq_getElem hjl] at hj;exact Option.some.inj hj
      have hmem:∀x:aA,((⟨x.Round,x.Place⟩:aB),x)∉left.eraseIdx j↔((⟨x.Round,x.Place⟩:aB),x)∉left\/x=s:=by
       intro x;rw[aZg hnd hjl,hj']
       constructor
       ·intro h
        by_cases hx:x=s
        ·exact .inr hx
        ·exact .inl λhm=>h ⟨hm,λe=>hx (congrArg Prod.snd e)⟩
       ·rintro(h|rfl)
        ·exactλh2=>h h2.1
        ·exactλh=>h.2 rfl
      refine ih k _ w (by rw[List.length_eraseIdx];simp[hjl];omega) (by omega) (hnd.eraseIdx j) (λq hq=>hsub q (List.mem_of_mem_eraseIdx hq)) ((hT rfl).2.ext λm v=>?_) λx hx hxl=>?_
      ·constructor
       ·rintro((h|⟨x,hx,h⟩)|h)
        ·exact .inl h
        ·exact .inr ⟨x,⟨hx.1,(hmem x).2 (.inl hx.2)⟩,h⟩
        ·exact .inr ⟨s,⟨hres,(hmem s).2 (.inr rfl)⟩,a,ha,he,h⟩
       ·rintro(h|⟨x,⟨hx1,hx2⟩,h⟩)
        ·exact .inl (.inl h)
        ·rcases(hmem x).1 hx2 with hx2|rfl
         ·exact .inl (.inr ⟨x,⟨hx1,hx2⟩,h⟩)
         ·exact .inr ((aTj hD hr ha he m v).1 ⟨x,rfl,h⟩)
      ·rcases(hmem x).1 hxl with hxl|rfl
       ·exact hg x hx hxl
       ·exact⟨a,ha,he,hc⟩
    ·simp only[hc,decide_false,Bool.not_false,cond_true];exact hbad λhO=>hc ((bTm hD hr ha he).1 (hO.slot s hres))
   ·refine⟨_,bPc (by omega) λa ha e=>hex ⟨a,ha,e⟩,?_⟩;simp only[show decide ((-1:Int)<0)=true by decide,cond_true];refine⟨_,rfl,?_⟩;simp only[cond_true];refine hbad λhO=>?_;obtain⟨a,ha,e,_⟩:=hO.slot s hres;exact hex ⟨a,ha,e⟩
theorem bOm{Q:(Option aU×Bool)->Prop}{about:List (aB×aA)}(hgo:∀won,WonIs won (bVm d)->vU Q d won t about):iZ Q d.length d t about BIG 0 []:=by
 have h32:=ht.len32;have hl:=hD.len;refine aGg (S:=List (aB×Int)) (λk i won=>iZ Q d.length d t about k i won) d.length (λp=>p)
  (λi won=>WonIs won (λm v=>∃j,j<i/\j<d.length/\d.getD j 0= -1/\m=cell (sib j) 0/\v=d.getD (sib j) 0)) ?_ ?_ BIG 0 [] (cC (by omega)) (WonIs.nil.ext λm v=>by simp)
 ·intro k i won hi hW ih;simp only[iZ,Int.ofNat_lt,hi,decide_true,cond_true,bE hi,bG (show i<9223372036854775807 by omega)];refine⟨_,rfl,?_⟩;rw[<-bN hi 0]
  by_cases hb:d.getD i 0= -1
  ·simp only[hb,decide_true,cond_true];have hx:bAu (i:Int) 1=((sib i:Nat):Int):=cFg ⟨i,by omega⟩;have hs:sib i<d.length:=by rw[hl];exact aTg ht (by omega)
   obtain⟨b,w,hw,hT,hF⟩:=bEs (t:=t) hs (show 0<=5 by omega) hW;rw[hx];refine⟨_,hw,ih w ?_⟩;have hco:yE (λm v=>∃j,j<i/\j<d.length/\d.getD j 0= -1/\m=cell (sib j) 0/\v=d.getD (sib j) 0) (clm d (sib i) 0):=by
    rintro m v w' ⟨j,h1,h2,h3,h4,h5⟩ ⟨e1,q,hq,e2⟩;have:q=0:=by omega
    subst this;have:=bRw ht hD hi h2 hb h3 (e2.symm.trans h4)
    omega
   have hbt:b=true:=by
    cases b with
    |true=>rfl
    |false=>exact absurd hco (hF rfl)
   refine(hT hbt).2.ext λm v=>?_
   constructor
   ·rintro(⟨j,h1,h2⟩|⟨e1,q,hq,e2⟩)
    ·exact⟨j,by omega,h2⟩
    ·have:q=0:=by omega
     subst this;exact⟨i,by omega,hi,hb,e2,e1⟩
   ·rintro⟨j,h1,h2,h3,h4,h5⟩
    by_cases hji:j=i
    ·subst hji;exact .inr ⟨h5,0,by omega,h4⟩
    ·exact .inl ⟨j,by omega,h2,h3,h4,h5⟩
  ·simp only[hb,decide_false,cond_false];refine ih won (hW.ext λm v=>?_)
   constructor
   ·rintro⟨j,h1,h2⟩;exact⟨j,by omega,h2⟩
   ·rintro⟨j,h1,h2,h3,h4⟩
    by_cases hji:j=i
    ·subst hji;exact absurd h3 hb
    ·exact⟨j,by omega,h2,h3,h4⟩
 ·intro k i won hi hW;have hlt:decide ((i:Int)<(d.length:Int))=false:=decide_eq_false (by omega);simp only[iZ,hlt,cond_false];exact hgo won (hW.ext λm v=>⟨λ⟨j,_,h⟩=>⟨j,h⟩,λ⟨j,h⟩=>⟨j,by have:=h.1;omega,h⟩⟩)
end
def pO(t:aD)(l:List aA):Option (List Int):=match aOv t l with
 |some (d,U)=>if U.length=(cV l).length then some d else none
 |none=>none
def AGR(t:aD)(l:List aA)(d:List Int):Prop:=pO t l=some d/\OKF d l
theorem bEe{L:List aA}(hL:LOK L){S:List Int}:∀{n i:Nat} {d ever:List Int} {U:List aA} {d':List Int} {U':List aA},GI L S i d ever U->i+n=S.length->(∀a,a<d.length→-1<=d.getD a 0)->lB L n i d ever U=some (d',U')->∀a,a<d'.length→-1<=d'.getD a 0
 | 0,i,d,ever,U,d',U',h,hn,hr,he=>by
  simp only[lB,Option.some.injEq,Prod.mk.injEq] at he;obtain⟨rfl,rfl⟩:=he;exact hr
 | n +1,i,d,ever,U,d',U',h,hn,hr,he=>by
  unfold lB at he;have hi:i<S.length:=by omega
  have hid:i<d.length:=by rw[h.len];exact hi
  cases hs:jZ L i (L.length+1) (d.getD i 0) ever U with
  |none=>rw[hs] at he;simp at he
  | some q=>
   obtain⟨now',ever',U1⟩:=q;rw[hs] at he;obtain⟨_,_,hnow,_⟩:=aPk hL (h.start hi) hs;refine bEe hL (h.next hL hi hs) (by omega) (λa ha=>?_) he;rw[List.length_set] at ha;rw[nW hid]
   split
   ·rcases hnow with e|⟨_,e,_⟩
    ·rw[e];exact hr i hid
    ·omega
   ·exact hr a ha
theorem aHq{t:aD}(ht:TreeOK t):aIf t.Slots:=⟨ht.rng,ht.bye,ht.dup⟩
theorem aXd{t:aD}{l:List aA}(hs:∀s∈l,gL t s=true):LOK (cV l):=by
 intro s hm;simp only[cV,List.mem_filter,rC,isL,decide_eq_true_eq] at hm;have:=hs s hm.1;simp only[gL,hm.2,if_true,Bool.and_eq_true,mR] at this
 omega
theorem bUc{t:aD}(ht:TreeOK t){l:List aA}(hs:∀s∈l,gL t s=true){d:List Int}{U:List aA}(h:aOv t l=some (d,U)):DOK t d:=by
 have hL:=aXd hs;have hG:=aMw (cV l) (aHq ht);obtain⟨ever,hI⟩:=aOs hL hG (by omega) h;refine⟨hI.len,hI.dup,λa ha=>hI.bye a ha,bEe hL hG (by omega) (λa ha=>?_) h⟩;rw[bN ha];exact(ht.rng a ha).1
theorem aOu{t:aD}(ht:TreeOK t){l:List aA}(hs:∀s∈l,gL t s=true){d:List Int}(h:pO t l=some d):DOK t d:=by
 unfold pO at h;split at h
 ·rename_i d' U hr
  split at h
  ·cases h;exact bUc ht hs hr
  ·cases h
 ·cases h
theorem aXl{t:aD}(ht:TreeOK t){l:List aA}(hs:∀s∈l,gL t s=true)(hl:l.length<=500){Q:(Option aU×Bool)->Prop}
  (hok:∀d,AGR t l d->∀won,WonIs won (iX d (Res l))->Q (some ⟨t,d,won⟩,true))(hbad:(∀d,¬AGR t l d)->Q (none,false)):wP t l Q:=by
 have h32:=ht.len32;have hll:=aOd (l:=l);unfold wP;refine⟨t.Slots,by unfold gO;rw[eL (by simp;omega)];rfl,?_⟩;refine bOn (by omega) (λh=>hbad λd hd=>h hd.2.two) λhN lucky about hLA=>?_;unfold vT;have hLn:(cV l).Nodup:=(aLg l).filter _;refine bJc hLn _ (aHq ht) (aXd hs) h32 (by omega) (lk:=lucky) ⟨hLA.ln,λs=>?_⟩ (λd U hp hU=>?_) λhno d lk=>?_
 ·rw[hLA.lm];simp[cV,rC,isL]
 ·have hpo:pO t l=some d:=by unfold pO aOv;rw[hp];simp[hU]
  have hD:=aOu ht hs hpo;simp only[Bool.not_true,cond_false];refine bOm ht hD λwon hW=>?_;have habn:about.Nodup:=(List.Pairwise.of_map (·.1) (λa b h e=>h (e▸rfl)) hLA.an);unfold vU aMd;refine bKn ht hD (λs hr=>aXe (hs s hr.1) hr.2) hLA.am hN (λhO won hW=>hok d ⟨hpo,hO⟩ won hW) (λhO=>hbad λd' hd'=>?_) about.length BIG about won rfl (cC ?_) habn (λp hp=>hp) (hW.ext λm v=>?_) λs hr hn=>absurd ((hLA.am _ _).2 ⟨hr.1,hr.2,rfl⟩) hn
  ·have:=hd'.1;rw[hpo] at this;cases this;exact hO hd'.2
  ·have:about.length<=l.length:=by
    have:=rQ (l:=about) (m:=l.map λs=>((⟨s.Round,s.Place⟩:aB),s)) habn λx hx=>?_
    ·simpa using this
    ·obtain⟨m,s⟩:=x;obtain⟨a1,a2,rfl⟩:=(hLA.am m s).1 hx;exact List.mem_map.2 ⟨s,a1,rfl⟩
   omega
  ·constructor
   ·exact .inl
   ·rintro(h|⟨x,⟨hx1,hx2⟩,_⟩)
    ·exact h
    ·exact absurd ((hLA.am _ _).2 ⟨hx1.1,hx1.2,rfl⟩) hx2
 ·simp only[Bool.not_false,cond_true];refine hbad λd' hd'=>?_;have:=hd'.1;unfold pO at this;split at this
  ·rename_i d2 U hr
   split at this
   ·rename_i hU;exact hno d2 U hr hU
   ·cases this
  ·cases this
end Go.Am
end
section
namespace Go.Am
def mat(must:List (List Int))(r p:Nat):Int:=(must.getD r []).getD p (-2)
structure MustIs(t:aD)(must:List (List Int))(P:qE):Prop where
 len:must.length=t.Rounds.toNat
 row:∀r:Nat,r<t.Rounds.toNat->(must.getD r []).length=bX t r
 mem:∀(r p:Nat) (v:Int),r<t.Rounds.toNat->p<bX t r->((mat must r p=v/\v≠-2)↔P ⟨r,p⟩ v)
theorem MustIs.ext{t:aD}{must:List (List Int)}{P Q:qE}(h:MustIs t must P)(he:∀m v,P m v↔Q m v):MustIs t must Q:=⟨h.len,h.row,λr p v h1 h2=>(h.mem r p v h1 h2).trans (he _ v)⟩
theorem MustIs.set{t:aD}{must:List (List Int)}{P:qE}(h:MustIs t must P){r p:Nat}{n:Int}(hr:r<t.Rounds.toNat)(hp:p<bX t r)(hn:n≠-2)(hc:∀v,P ⟨r,p⟩ v->v=n):
  MustIs t (must.set r ((must.getD r []).set p n)) (λm v=>P m v\/(m=⟨r,p⟩/\v=n)):=by
 have hl:=h.len;have hrow:=h.row r hr;have hrl:r<must.length:=by omega
 have hg:∀r',(must.set r ((must.getD r []).set p n)).getD r' []=if r'=r then(must.getD r []).set p n else must.getD r' []:=by
  intro r'
  by_cases e:r'=r
  ·subst e;simp[List.getD,hrl]
  ·simp[List.getD,e,List.getElem?_set,Ne.symm e]
 refine⟨by rw[List.length_set];exact hl,λr' hr'=>?_,λr' p' v hr' hp'=>?_⟩
 ·rw[hg]
  split
  ·rename_i e;subst e;rw[List.length_set];exact h.row r' hr'
  ·exact h.row r' hr'
 ·have hm:=h.mem r' p' v hr' hp';unfold mat at hm|-;rw[hg]
  by_cases e:r'=r
  ·subst e;rw[if_pos rfl]
   by_cases e2:p'=p
   ·subst e2;have:((must.getD r' []).set p' n).getD p' (-2)=n:=by simp[List.getD];rw[List.getElem?_set];simp;have:=hrow;simp[List.getD] at this;simp[this,hp]
    rw[this]
    constructor
    ·rintro⟨rfl,_⟩;exact .inr ⟨rfl,rfl⟩
    ·rintro(hP|⟨_,rfl⟩)
     ·exact⟨(hc v hP).symm,(hm.2 hP).2⟩
     ·exact⟨rfl,hn⟩
   ·have:((must.getD r' []).set p n).getD p' (-2)=(must.getD r' []).getD p' (-2):=by simp only[List.getD];rw[List.getElem?_set,if_neg (Ne.symm e2)]
    rw[this,hm]
    constructor
    ·exact .inl
    ·rintro(hP|⟨e3,_⟩)
     ·exact hP
     ·simp only[aB.mk.injEq] at e3;omega
  ·rw[if_neg e,hm]
   constructor
   ·exact .inl
   ·rintro(hP|⟨e3,_⟩)
    ·exact hP
    ·simp only[aB.mk.injEq] at e3;omega
theorem MustIs.func{t:aD}{must:List (List Int)}{P:qE}(h:MustIs t must P){r p:Nat}(hr:r<t.Rounds.toNat)(hp:p<bX t r){v w:Int}(h1:P ⟨r,p⟩ v)(h2:P ⟨r,p⟩ w):v=w:=
 ((h.mem r p v hr hp).2 h1).1.symm.trans ((h.mem r p w hr hp).2 h2).1
section
variable{t:aD}(ht:TreeOK t){d:List Int}(hD:DOK t d)
include ht
theorem bBa{a r:Nat}(ha:a<t.Slots.length)(hr:r<t.Rounds.toNat):a/2^(r+1)<bX t r:=by
 rw[ht.len] at ha;unfold bX;rw[Nat.div_lt_iff_lt_mul (Nat.two_pow_pos _),<-Nat.pow_add];have e:t.Rounds.toNat-1-(r:Int).toNat+(r+1)=t.Rounds.toNat:=by simp;omega
 rw[e];exact ha
theorem aTz:2*bX t 0=t.Slots.length:=by
 have h1:=ht.r1;rw[ht.len];unfold bX;have e:t.Rounds.toNat=(t.Rounds.toNat-1-(0:Int).toNat)+1:=by simp;omega
 conv=>rhs;rw[e,Nat.pow_succ]
 omega
omit ht in
def aCu(d:List Int)(p:Nat):Int:=if d.getD (2*p+1) 0= -1 then d.getD (2*p) 0 else if d.getD (2*p) 0= -1 then d.getD (2*p+1) 0 else-2
def aBs(t:aD)(d:List Int)(r:Nat):List Int:=(List.range (bX t r)).map λp=>if r=0 then aCu d p else-2
include hD in
theorem cBt(a0:Int->List (List Int)->List Int->Option (aF×Bool))(l:List aA)(o4:aF)(M:List (List Int))(d2:List Int){r:Nat}(hr:r<t.Rounds.toNat):
  eA a0 l d r t o4 M d2 BIG 0 []=mJ a0 l d r t o4 M d2 (aBs t d r):=by
 have hpl:=tI ht (r:=(r:Int));have h5:=ht.r5;have hP:=aQp ht (r:=(r:Int)) (by omega) (by omega);have hp0:=aTz ht;have hlen:=hD.len;have:=fX (S:=List Int) (λk p row=>eA a0 l d r t o4 M d2 k p row) (bX t r) (λ_ _=>mJ a0 l d r t o4 M d2 (aBs t d r)) (λp row=>row=(List.range p).map λp=>if r=0 then aCu d p else-2) ?_ ?_ BIG [] (cC (by omega)) (by simp)
 ·exact this
 ·rintro k p row hp rfl ih;have happ:∀v:Int,app 8 ((List.range p).map λp=>if r=0 then aCu d p else-2) [v]=some (((List.range p).map λp=>if r=0 then aCu d p else-2)++[v]):=λv=>eL (by simp;omega);simp only[eA,hP,Option.bind_some,Int.ofNat_lt,hp,decide_true,cond_true,happ,bG (show p<9223372036854775807 by omega)];have fin:∀v:Int,v=(if r=0 then aCu d p else-2)->eA a0 l d r t o4 M d2 k ((p+1:Nat):Int) (((List.range p).map λp=>if r=0 then aCu d p else-2)++[v])=mJ a0 l d r t o4 M d2 (aBs t d r):=by
   intro v hv;refine ih _ ?_;rw[List.range_succ,List.map_append,hv];rfl
  by_cases h0:r=0
  ·subst h0;have hpl2:p<bX t 0:=hp;have w1:w64 (2*(p:Int))=((2*p:Nat):Int):=by rw[cG (by omega) (by omega)];omega
   have w2:w64 (((2*p:Nat):Int)+1)=((2*p+1:Nat):Int):=bG (by omega);have i1:2*p<d.length:=by omega
   have i2:2*p+1<d.length:=by omega
   simp only[w1,w2,bE i1,bE i2,Option.bind_some,Int.natCast_zero,decide_true,cond_true];rw[<-bN i1 0,<-bN i2 0]
   by_cases b1:d.getD (2*p) 0= -1
   ·by_cases b2:d.getD (2*p+1) 0= -1
    ·simp only[b1,b2,decide_true,cond_true];exact fin _ (by simp only[aCu,b1,b2,if_true])
    ·simp only[b1,b2,decide_true,decide_false,cond_true,cond_false];exact fin _ (by simp only[aCu,b1,b2,if_true,if_false])
   ·by_cases b2:d.getD (2*p+1) 0= -1
    ·simp only[b1,b2,decide_true,decide_false,cond_true,cond_false];exact fin _ (by simp only[aCu,b2,if_true])
    ·simp only[b1,b2,decide_false,cond_false];exact fin _ (by simp only[aCu,b1,b2,if_true,if_false])
  ·have hr0:decide ((r:Int)=0)=false:=decide_eq_false (by omega);simp only[hr0,cond_false,Option.bind_some];exact fin _ (by rw[if_neg h0])
 ·intro k row hrow;have hlt:decide ((bX t r:Int)<(bX t r:Int))=false:=decide_eq_false (by omega);simp only[eA,hP,Option.bind_some,hlt,cond_false,hrow,aBs]
include hD in
theorem bXn(l:List aA)(o4:aF)(d2:List Int):gC l d t o4 BIG 0 [] d2=mI l d o4 ((List.range t.Rounds.toNat).map (aBs t d)) d2:=by
 have h1:=ht.r1;have h5:=ht.r5;have e:t.Rounds=((t.Rounds.toNat:Nat):Int):=by omega
 have:=fX (S:=List (List Int)) (λk r M=>gC l d t o4 k r M d2) t.Rounds.toNat (λ_ _=>mI l d o4 ((List.range t.Rounds.toNat).map (aBs t d)) d2) (λr M=>M=(List.range r).map (aBs t d)) ?_ ?_ BIG [] (cC (by omega)) (by simp)
 ·exact this
 ·rintro k r M hr rfl ih;have hlt:decide ((r:Int)<t.Rounds)=true:=decide_eq_true (by omega);simp only[gC,hlt,cond_true,cBt ht hD _ l o4 _ d2 hr,mJ,yJ,bG (show r<9223372036854775807 by omega)];rw[eL (by simp;omega),Option.bind_some];refine ih _ ?_;rw[List.range_succ,List.map_append];rfl
 ·rintro k M rfl;have hlt:decide (((t.Rounds.toNat:Nat):Int)<t.Rounds)=false:=decide_eq_false (by omega);simp only[gC,hlt,cond_false]
include hD in
theorem cFn:MustIs t ((List.range t.Rounds.toNat).map (aBs t d)) (bVm d):=by
 have hg:∀r,r<t.Rounds.toNat->((List.range t.Rounds.toNat).map (aBs t d)).getD r []=aBs t d r:=by
  intro r hr;rw[bN (by simpa using hr)];simp
 have hp0:=aTz ht;have hlen:=hD.len;refine⟨by simp,λr hr=>by rw[hg r hr];simp[aBs],λr p v hr hp=>?_⟩;have hm:mat ((List.range t.Rounds.toNat).map (aBs t d)) r p=if r=0 then aCu d p else-2:=by
  unfold mat;rw[hg r hr,bN (by simpa[aBs] using hp)]
  simp[aBs]
 rw[hm]
 by_cases h0:r=0
 ·subst h0;have hpl2:p<bX t 0:=hp;have i1:2*p<d.length:=by omega
  have i2:2*p+1<d.length:=by omega
  have s1:sib (2*p)=2*p+1:=by unfold sib;split<;>omega
  have s2:sib (2*p+1)=2*p:=by unfold sib;split<;>omega
  rw[if_pos rfl]
  constructor
  ·rintro⟨hv,hn⟩;unfold aCu at hv;split at hv
   ·rename_i b;exact⟨2*p+1,i2,b,by rw[s2];simp[cell],by rw[s2];exact hv.symm⟩
   ·split at hv
    ·rename_i b;exact⟨2*p,i1,b,by rw[s1];simp[cell];omega,by rw[s1];exact hv.symm⟩
    ·exact absurd hv.symm hn
  ·rintro⟨i,hi,hb,hc,rfl⟩;have hsib:=hD.sib_ne ht hi hb;have hsl:sib i<d.length:=by rw[hlen];exact aTg ht (by omega)
   have hrng:=hD.rng _ hsl;refine⟨?_,by omega⟩;have:p=i/2:=by
    rw[aVo] at hc;simp only[cell,aB.mk.injEq] at hc
    omega
   rcases(show i=2*p\/i=2*p+1 by omega) with rfl|rfl
   ·rw[s1] at hsib|-;unfold aCu;rw[if_neg hsib,if_pos hb]
   ·rw[s2];unfold aCu;rw[if_pos hb]
 ·rw[if_neg h0]
  constructor
  ·rintro⟨rfl,hn⟩;exact absurd rfl hn
  ·rintro⟨i,hi,hb,hc,_⟩;simp only[cell,aB.mk.injEq] at hc
   omega
end
end Go.Am
end
section
namespace Go.Am
abbrev aSj:Option (aF×Bool):=some (aF.mk [] [],false)
def Out(t:aD)(d:List Int)(l:List aA)(o:Option (aF×Bool)):Prop:=
 (OKF d l->∃must,o=some (⟨d,must⟩,true)/\MustIs t must (iX d (Res l)))/\(¬OKF d l->o=aSj)
theorem Out.bad{t:aD}{d:List Int}{l:List aA}(h:¬OKF d l):Out t d l aSj:=⟨λh'=>absurd h' h,λ_=>rfl⟩
section
variable{t:aD}(ht:TreeOK t){d:List Int}(hD:DOK t d){l:List aA}(hR:∀s,Res l s->ROK t s)
include ht hD
theorem bRy{P:qE}{x:aA}(hx:ROK t x){a:Nat}(ha:a<d.length)(he:d.getD a 0=x.Player)(a4:Int->aF->List (List Int)->Option (aF×Bool))(all:List aA)(i:Int)(o4:aF)
  {must:List (List Int)}(h:MustIs t must P)(hok:yE P (clm d a x.Round.toNat)->∀must',MustIs t must' (λm v=>P m v\/clm d a x.Round.toNat m v)->Out t d l (a4 (w64 (i+1)) o4 must'))
  (hbad:¬yE P (clm d a x.Round.toNat)->¬OKF d l):Out t d l (gZ a4 d all i a d x BIG 0 o4 must):=by
 have h5:=ht.r5;have hr0:=hx.r0;have hr1:=hx.r1;have hp0:=hx.p0;have hal:a<t.Slots.length:=by rw[<-hD.len];exact ha
 have key:∀n q k must',q+n=x.Round.toNat+1->n<k->MustIs t must' (λm v=>P m v\/(v=d.getD a 0/\∃p,p<q/\m=cell a p))->(∀p,p<q->∀v,P (cell a p) v->v=d.getD a 0)->
   Out t d l (gZ a4 d all i a d x k q o4 must'):=by
  intro n
  induction n with
  | zero=>
   intro q k must' hq hk hW hc;cases k with
   |zero=>omega
   | succ k=>
    have hlt:decide ((q:Int)<=x.Round)=false:=decide_eq_false (by omega);simp only[gZ,hlt,cond_false,xO,mK];refine hok ?_ must' (hW.ext λm v=>?_)
    ·rintro m v w hp ⟨rfl,p,hp',rfl⟩;exact hc p (by omega) v hp
    ·constructor
     ·rintro(h|⟨e,p,hp,e2⟩)
      ·exact .inl h
      ·exact .inr ⟨e,p,by omega,e2⟩
     ·rintro(h|⟨e,p,hp,e2⟩)
      ·exact .inl h
      ·exact .inr ⟨e,p,by omega,e2⟩
  | succ n ih=>
   intro q k must' hq hk hW hc;cases k with
   |zero=>omega
   | succ k=>
    have hlt:decide ((q:Int)<=x.Round)=true:=decide_eq_true (by omega);have hqR:q<t.Rounds.toNat:=by omega
    have hw:w64 ((q:Int)+1)=((q+1:Nat):Int):=bG (by omega);have hu:IntKind.u64.wrap ((q+1:Nat):Int)=((q+1:Nat):Int):=aKp (by omega) (by omega);have hch:chk (decide (0<=((q+1:Nat):Int)))=some ():=by unfold chk;rw[decide_eq_true (by omega)];rfl
    have hmin:min ((q+1:Nat):Int).toNat 64=q+1:=by omega
    have hml:=hW.len;have hrl:=hW.row q hqR;have hpin:=bBa ht hal hqR;have hql:q<must'.length:=by omega
    have hi1:idx must' (q:Int)=some (must'.getD q []):=by rw[bE hql,bN hql]
    have hi2:idx (must'.getD q []) ((a/2^(q+1):Nat):Int)=some (mat must' q (a/2^(q+1))):=by
     have hlt':a/2^(q+1)<(must'.getD q []).length:=by omega
     rw[bE hlt'];exact congrArg some (bN hlt' (-2)).symm
    simp only[gZ,hlt,cond_true,hw,hu,hch,hmin,aVw,Option.bind_some,hi1,hi2];have hmem:=λv=>hW.mem q (a/2^(q+1)) v hqR hpin;have hcell:(⟨(q:Int),((a/2^(q+1):Nat):Int)⟩:aB)=cell a q:=rfl;rw[hcell] at hmem
    by_cases hex:mat must' q (a/2^(q+1))≠-2/\mat must' q (a/2^(q+1))≠x.Player
    ·simp only[hex.1,hex.2,decide_false,Bool.not_false,cond_true,Option.bind_some];refine Out.bad (hbad λhco=>hex.2 ?_)
     rcases(hmem _).1 ⟨rfl,hex.1⟩ with h|⟨h,_⟩
     ·rw[<-he];exact hco _ _ _ h ⟨rfl,q,by omega,rfl⟩
     ·rw[h,he]
    ·have hb:((bif !decide (mat must' q (a/2^(q+1))= -2) then some (!decide (mat must' q (a/2^(q+1))=x.Player)) else some false):Option Bool)=some false:=by
      rw[cB,Option.some.injEq,Bool.and_eq_false_iff]
      by_cases h1:mat must' q (a/2^(q+1))= -2
      ·exact .inl (by simp[h1])
      ·exact .inr (by simpa usingλh2=>hex ⟨h1,h2⟩)
     have hall:∀v,(P (cell a q) v\/(v=d.getD a 0/\∃p,p<q/\cell a q=cell a p))->v=d.getD a 0:=by
      intro v hv;have⟨h1,h2⟩:=(hmem v).2 hv;rw[he];refine Classical.byContradiction λhne=>hex ⟨by rw[h1];exact h2,by rw[h1];exact hne⟩
     simp only[hb,Option.bind_some,cond_false];simp only[<-he];have e8:((q:Int)).toNat=q:=by omega
     have e9:(((a/2^(q+1):Nat)):Int).toNat=a/2^(q+1):=Int.toNat_natCast _;rw[e8,e9];rw[<-he] at hp0;refine ih (q+1) k _ (by omega) (by omega) ((hW.set hqR hpin (n:=d.getD a 0) (by omega) hall).ext λm v=>?_) λp hp v hv=>?_
     ·rw [hcell]
      constructor
      ·rintro((h|⟨e,p,hp,e2⟩)|⟨e1,e2⟩)
       ·exact .inl h
       ·exact .inr ⟨e,p,by omega,e2⟩
       ·exact .inr ⟨e2,q,by omega,e1⟩
      ·rintro(h|⟨e,p,hp,e2⟩)
       ·exact .inl (.inl h)
       ·by_cases hpq:p=q
        ·subst hpq;exact .inr ⟨e2,e⟩
        ·exact .inl (.inr ⟨e,p,by omega,e2⟩)
     ·by_cases hpq:p=q
      ·subst hpq;exact hall v (.inl hv)
      ·exact hc p (by omega) v hv
 exact key (x.Round.toNat+1) 0 BIG must (by omega) (cC (by omega)) (h.ext λm v=>by simp) (λp hp=>by omega)
omit ht in
theorem bWp(hl:d.length<=1000){x:aA}(hp:0<=x.Player)(a4:Int->aF->List (List Int)->Option (aF×Bool))(all:List aA)(i:Int)(o4:aF)(must:List (List Int))(d2:List Int):
  (∀a,a<d.length->d.getD a 0=x.Player->dQ a4 d all i o4 must d2 x BIG (-1) 0=iO a4 d all i a o4 must d2 x)/\
  ((∀a,a<d.length->d.getD a 0≠x.Player)->dQ a4 d all i o4 must d2 x BIG (-1) 0=iO a4 d all i (-1) o4 must d2 x):=by
 refine⟨λa ha he=>?_,λhno=>?_⟩
 ·have:=fX (S:=Int) (λk s at'=>dQ a4 d all i o4 must d2 x k at' s) d.length (λs at'=>iO a4 d all i (if s<=a then(a:Int) else at') o4 must d2 x) (λ_ _=>True) ?_ ?_ BIG (-1) (cC (by omega)) trivial
  ·simpa using this
  ·intro k s at' hs _ ih;simp only[dQ,Int.ofNat_lt,hs,decide_true,cond_true,bE hs,Option.bind_some,bG (show s<9223372036854775807 by omega),ih _ trivial];rw[<-bN hs 0]
   by_cases hsa:s=a
   ·subst hsa;simp only[he,decide_true,cond_true];rw[if_neg (by omega),if_pos (Nat.le_refl s)]
   ·have:d.getD s 0≠x.Player:=λe=>hsa (hD.uni hs ha (e.trans he.symm) (by omega));simp only[this,decide_false,cond_false]
    by_cases hle:s<=a
    ·rw[if_pos hle,if_pos (by omega)]
    ·rw[if_neg hle,if_neg (by omega)]
  ·intro k at' _;have hlt:decide ((d.length:Int)<(d.length:Int))=false:=decide_eq_false (by omega);simp only[dQ,hlt,cond_false];rw[if_neg (by omega)]
 ·have:=fX (S:=Int) (λk s at'=>dQ a4 d all i o4 must d2 x k at' s) d.length (λs at'=>iO a4 d all i at' o4 must d2 x) (λ_ _=>True) ?_ ?_ BIG (-1) (cC (by omega)) trivial
  ·exact this
  ·intro k s at' hs _ ih;simp only[dQ,Int.ofNat_lt,hs,decide_true,cond_true,bE hs,Option.bind_some,bG (show s<9223372036854775807 by omega),ih _ trivial];rw[<-bN hs 0];simp only[hno s hs,decide_false,cond_false]
  ·intro k at' _;have hlt:decide ((d.length:Int)<(d.length:Int))=false:=decide_eq_false (by omega);simp only[dQ,hlt,cond_false]
include hR in
theorem bUx(hl:l.length<=1000):Out t d l (mI l d (aF.mk [] []) ((List.range t.Rounds.toNat).map (aBs t d)) d):=by
 have h5:=ht.r5;have h32:=ht.len32;have hlen:=hD.len;have hol:=aGh l;unfold mI;rw[bNc l hl,Option.bind_some];refine aGg (S:=List (List Int)) (λk i must=>cR d (bH l) d k i (aF.mk [] []) must) (bH l).length (Out t d l)
  (λi must=>MustIs t must (iX d (Res ((bH l).take i)))/\(∀x,Res ((bH l).take i) x->gs d x)/\aTo ((bH l).take i)) ?_ ?_ BIG 0 _ (cC (by omega)) ?_
 ·intro k i must hi ⟨hM,hg,hN⟩ ih;have hmt:∀x,x∈(bH l).take (i+1)↔x∈(bH l).take i\/x=(bH l)[i]:=λx=>by
   rw[List.take_succ_eq_append_getElem hi,List.mem_append,List.mem_singleton]
  have hsub:∀x,x∈(bH l).take i->x∈l:=λx hx=>(rC l x).1 (List.mem_of_mem_take hx);simp only[cR,Int.ofNat_lt,hi,decide_true,cond_true,bE hi,Option.bind_some]
  by_cases hk:(bH l)[i].Kind=5
  ·simp only[hk,decide_true,cond_true,mK,bG (show i<9223372036854775807 by omega)];have hres:∀x,Res ((bH l).take (i+1)) x↔Res ((bH l).take i) x:=by
    intro x;unfold Res;rw[hmt]
    constructor
    ·rintro⟨h|h,h2⟩
     ·exact⟨h,h2⟩
     ·exact absurd (h▸hk) h2
    ·rintro⟨h,h2⟩;exact⟨.inl h,h2⟩
   refine ih must ⟨hM.ext λm v=>?_,λx hx=>hg x ((hres x).1 hx),λx hx y hy kx ky=>hN x ((hres x).1 ⟨hx,kx⟩).1 y ((hres y).1 ⟨hy,ky⟩).1 kx ky⟩;simp only[iX,aUe,hres]
  ·have hmi:(bH l)[i]∈l:=(rC l _).1 (List.getElem_mem hi);have hresx:Res l (bH l)[i]:=⟨hmi,hk⟩;have hx:=hR _ hresx;have hxp:=hx.p0;have hxr0:=hx.r0;have hxr1:=hx.r1;simp only[hk,decide_false,cond_false];have htwo:iP (cR d (bH l) d k) d (bH l) i must d (bH l)[i] BIG 0 (aF.mk [] [])=
     bif (List.range i).all λj=>!(!decide ((bH l)[j]?.any (λy=>decide (y.Kind=5))=true)&&decide ((bH l)[j]?.any (λy=>decide (y.Round=(bH l)[i].Round))=true)&&decide ((bH l)[j]?.any (λy=>decide (y.Place=(bH l)[i].Place))=true)) then
      tB (cR d (bH l) d k) d (bH l) i (aF.mk [] []) must d (bH l)[i] else aSj:=by
    refine kW (λq j=>iP (cR d (bH l) d k) d (bH l) i must d (bH l)[i] q j (aF.mk [] [])) i _ aSj _ ?_ ?_ BIG (cC (by omega))
    ·intro q j hj;have hj':j<(bH l).length:=by omega
     simp only[iP,Int.ofNat_lt,hj,decide_true,cond_true,bE hj',Option.bind_some,cB,bG (show j<9223372036854775807 by omega),List.getElem?_eq_getElem hj',Option.any_some,decide_eq_true_eq];cases(!decide ((bH l)[j].Kind=5)&&decide ((bH l)[j].Round=(bH l)[i].Round)&&decide ((bH l)[j].Place=(bH l)[i].Place))<;>rfl
    ·intro q;have hlt:decide ((i:Int)<(i:Int))=false:=decide_eq_false (by omega);simp only[iP,hlt,cond_false]
   rw[htwo];cases hall:(List.range i).all λj=>!(!decide ((bH l)[j]?.any (λy=>decide (y.Kind=5))=true)&&decide ((bH l)[j]?.any (λy=>decide (y.Round=(bH l)[i].Round))=true)&&decide ((bH l)[j]?.any (λy=>decide (y.Place=(bH l)[i].Place))=true)) with
   | false=>
    rw[cond_false];refine Out.bad λhO=>?_;rw[List.all_eq_false] at hall;obtain⟨j,hj,hb⟩:=hall;simp only[List.mem_range] at hj;have hj':j<(bH l).length:=by omega
    rw[Bool.not_eq_true,Bool.not_eq_false'] at hb;simp only[List.getElem?_eq_getElem hj',Option.any_some,Bool.and_eq_true,Bool.not_eq_true',decide_eq_true_eq,decide_eq_false_iff_not] at hb;have:=hO.two _ ((rC l _).1 (List.getElem_mem hj')) _ hmi hb.1.1 hk hb.1.2 hb.2;have:=(List.getElem_inj (aLg l)).1 this
    omega
   | true =>
    rw[cond_true];rw[pQ] at hall;have hfresh:∀y,y∈(bH l).take i->y.Kind≠5->¬(y.Round=(bH l)[i].Round/\y.Place=(bH l)[i].Place):=by
     rintro y hy ky ⟨e1,e2⟩;obtain⟨j,hj,rfl⟩:=List.mem_take_iff_getElem.1 hy;have hj':j<(bH l).length:=by omega
     have:=hall j (by omega);simp only[List.getElem?_eq_getElem hj',Option.any_some,Bool.not_eq_true',Bool.and_eq_false_iff,Bool.not_eq_false',decide_eq_true_eq,decide_eq_false_iff_not] at this
     rcases this with(h|h)|h
     ·exact ky h
     ·exact h e1
     ·exact h e2
    unfold tB;have hlast:=bWp hD (by omega) hxp (cR d (bH l) d k) (bH l) i (aF.mk [] []) must d
    by_cases hex:∃a,a<d.length/\d.getD a 0=(bH l)[i].Player
    ·obtain⟨a,ha,he⟩:=hex;rw[hlast.1 a ha he];have er:(bH l)[i].Round=(((bH l)[i].Round.toNat:Nat):Int):=by omega
     have hw:w64 ((bH l)[i].Round+1)=(((bH l)[i].Round.toNat+1:Nat):Int):=by rw[cG (by omega) (by omega)];omega
     have hu:IntKind.u64.wrap (((bH l)[i].Round.toNat+1:Nat):Int)=(((bH l)[i].Round.toNat+1:Nat):Int):=aKp (by omega) (by omega);have hch:chk (decide (0<=(((bH l)[i].Round.toNat+1:Nat):Int)))=some ():=by unfold chk;rw[decide_eq_true (by omega)];rfl
     have hmin:min (((bH l)[i].Round.toNat+1:Nat):Int).toNat 64=(bH l)[i].Round.toNat+1:=by omega
     have hneg:decide ((a:Int)<0)=false:=decide_eq_false (by omega);have hcell:cell a (bH l)[i].Round.toNat=⟨(bH l)[i].Round,(bH l)[i].Place⟩↔((a/2^((bH l)[i].Round.toNat+1):Nat):Int)=(bH l)[i].Place:=by
      simp only[cell,aB.mk.injEq,<-er,true_and]
     unfold iO;simp only[hneg,cond_false,hw,hu,hch,hmin,aVw,Option.bind_some]
     by_cases hc:((a/2^((bH l)[i].Round.toNat+1):Nat):Int)=(bH l)[i].Place
     ·simp only[hc,decide_true,Bool.not_true,cond_false];refine bRy ht hD hx ha he _ _ _ _ hM (λhco must' hM'=>?_) λhco hO=>hco λm v w h1 h2=>hO.fn m v w ?_ (.inr ⟨_,hresx,a,ha,he,h2⟩)
      ·rw [bG (show i<9223372036854775807 by omega)];have hres:∀x,Res ((bH l).take (i+1)) x↔Res ((bH l).take i) x\/x=(bH l)[i]:=by
        intro x;unfold Res;rw[hmt]
        constructor
        ·rintro⟨h|h,h2⟩
         ·exact .inl ⟨h,h2⟩
         ·exact .inr h
        ·rintro(⟨h,h2⟩|rfl)
         ·exact⟨.inl h,h2⟩
         ·exact⟨.inr rfl,hk⟩
       refine ih must' ⟨hM'.ext λm v=>?_,λx hxx=>?_,λx hxx y hyy kx ky e1 e2=>?_⟩
       ·constructor
        ·rintro((h|⟨y,hy,h⟩)|h)
         ·exact .inl h
         ·exact .inr ⟨y,(hres y).2 (.inl hy),h⟩
         ·exact .inr ⟨_,(hres _).2 (.inr rfl),a,ha,he,h⟩
        ·rintro(h|⟨y,hy,h⟩)
         ·exact .inl (.inl h)
         ·rcases(hres y).1 hy with hy|rfl
          ·exact .inl (.inr ⟨y,hy,h⟩)
          ·exact .inr ((aTj hD hx ha he m v).1 ⟨_,rfl,h⟩)
       ·rcases(hres x).1 hxx with h|rfl
        ·exact hg x h
        ·exact⟨a,ha,he,hcell.2 hc⟩
       ·rcases(hres x).1 ⟨hxx,kx⟩ with h|rfl
        ·rcases(hres y).1 ⟨hyy,ky⟩ with h'|rfl
         ·exact hN x h.1 y h'.1 kx ky e1 e2
         ·exact absurd ⟨e1,e2⟩ (hfresh x h.1 kx)
        ·rcases(hres y).1 ⟨hyy,ky⟩ with h'|h'
         ·exact absurd ⟨e1.symm,e2.symm⟩ (hfresh y h'.1 ky)
         ·exact h'.symm
      ·rcases h1 with h1|⟨y,hy,h1⟩
       ·exact .inl h1
       ·exact .inr ⟨y,⟨hsub y hy.1,hy.2⟩,h1⟩
     ·simp only[hc,decide_false,Bool.not_false,cond_true];exact Out.bad λhO=>hc (hcell.1 ((bTm hD hx ha he).1 (hO.slot _ hresx)))
    ·rw[hlast.2 λa ha e=>hex ⟨a,ha,e⟩];unfold iO;simp only[show decide ((-1:Int)<0)=true by decide,cond_true,Option.bind_some];refine Out.bad λhO=>?_;obtain⟨a,ha,e,_⟩:=hO.slot _ hresx;exact hex ⟨a,ha,e⟩
 ·intro k i must hi ⟨hM,hg,hN⟩;have hlt:decide ((i:Int)<((bH l).length:Int))=false:=decide_eq_false (by omega);have hta:(bH l).take i=bH l:=List.take_of_length_le (by omega);rw[hta] at hM hg hN;have hres:∀x,Res (bH l) x↔Res l x:=λx=>by unfold Res;rw[rC]
  have hM':MustIs t must (iX d (Res l)):=hM.ext λm v=>by simp only[iX,aUe,hres]
  simp only[cR,hlt,cond_false,yK];refine⟨λ_=>⟨must,rfl,hM'⟩,λhO=>absurd ⟨λx hx y hy=>hN x ((rC l x).2 hx) y ((rC l y).2 hy),λx hx=>hg x ((hres x).2 hx),?_⟩ hO⟩;intro m v w h1 h2;have hin:∀{v},iX d (Res l) m v->∃r p:Nat,m=⟨r,p⟩/\r<t.Rounds.toNat/\p<bX t r:=by
   have h1:=ht.r1;rintro v (⟨j,hj,hb,rfl,_⟩|⟨x,hx,a,ha,he,_,q,hq,rfl⟩)
   ·refine⟨0,sib j/2^(0+1),rfl,by omega,bBa ht (aTg ht (by omega)) (by omega)⟩
   ·have:=(hR x hx).r1;have:=(hR x hx).r0;exact⟨q,a/2^(q+1),rfl,by omega,bBa ht (by omega) (by omega)⟩
  obtain⟨r,p,rfl,hr,hp⟩:=hin h1;exact hM'.func hr hp h1 h2
 ·refine⟨(cFn ht hD).ext λm v=>?_,λx hx=>absurd hx.1 (by simp),λx hx=>absurd hx (by simp)⟩
  simp[iX,aUe,Res]
end
theorem bDi{t:aD}(ht:TreeOK t){l:List aA}(hs:∀s∈l,gL t s=true)(hl:l.length<=1000):
  (∀d,AGR t l d->∃must,cN t l=some (⟨d,must⟩,true)/\MustIs t must (iX d (Res l)))/\((∀d,¬AGR t l d)->cN t l=aSj):=by
 have h32:=ht.len32;have hP:=bOe hl h32 (aHq ht) (aXd hs);unfold cN;rw[hP,Option.bind_some];cases hp:aOv t l with
 | none=>
  have hno:∀d,¬AGR t l d:=λd h=>by have:=h.1;unfold pO at this;rw[hp] at this;cases this
  exact⟨λd h=>absurd h (hno d),λ_=>rfl⟩
 | some q=>
  obtain⟨d,U⟩:=q;simp only
  by_cases hU:U.length=(cV l).length
  ·have hpo:pO t l=some d:=by unfold pO;rw[hp];simp[hU]
   have hD:=aOu ht hs hpo;have hO:=bUx ht hD (λs hr=>aXe (hs s hr.1) hr.2) hl;simp only[hU,decide_true,Bool.not_true,cond_false,bXn ht hD];refine⟨λd' hd'=>?_,λhno=>hO.2 λh=>hno d ⟨hpo,h⟩⟩;have:=hd'.1;rw[hpo] at this;cases this;exact hO.1 hd'.2
  ·have hno:∀d,¬AGR t l d:=λd h=>by have:=h.1;unfold pO at this;rw[hp] at this;simp[hU] at this
   simp only[hU,decide_false,Bool.not_false,cond_true];exact⟨λd h=>absurd h (hno d),λ_=>trivial⟩
end Go.Am
end
section
namespace Go.Am
structure Good(t:aD)(l:List aA)(d:List Int):Prop where
 tree:aFv t=true
 len:l.length<=60
 slips:∀s∈l,gL t s=true
 agr:AGR t l d
inductive Stat(t:aD)(l:List aA):Int->Prop
 |s70:aFv t=false->Stat t l 70
 |s71:aFv t=true->(60<l.length\/∃s∈l,gL t s=false)->Stat t l 71
 |s72:aFv t=true->l.length<=60->(∀s∈l,gL t s=true)->(∀d,¬AGR t l d)->Stat t l 72
theorem Stat.ne{t:aD}{l:List aA}{e:Int}(h:Stat t l e):decide (e=0)=false:=by cases h<;>rfl
theorem wJ(t:aD)(l:List aA):(∃d,Good t l d)\/∃e,Stat t l e:=by
 cases ht:aFv t with
 |false=>exact .inr ⟨70,.s70 ht⟩
 | true=>
  by_cases hl:60<l.length
  ·exact .inr ⟨71,.s71 ht (.inl hl)⟩
  ·by_cases hs:∃s∈l,gL t s=false
   ·exact .inr ⟨71,.s71 ht (.inr hs)⟩
   ·have hs':∀s∈l,gL t s=true:=λs hm=>by
     cases h:gL t s with
     |true=>rfl
     |false=>exact absurd ⟨s,hm,h⟩ hs
    by_cases hd:∃d,AGR t l d
    ·obtain⟨d,hd⟩:=hd;exact .inl ⟨d,ht,by omega,hs',hd⟩
    ·exact .inr ⟨72,.s72 ht (by omega) hs' λd h=>hd ⟨d,h⟩⟩
theorem Good.ht{t:aD}{l:List aA}{d:List Int}(h:Good t l d):TreeOK t:=yF h.tree
theorem Good.dok{t:aD}{l:List aA}{d:List Int}(h:Good t l d):DOK t d:=aOu h.ht h.slips h.agr.1
theorem Good.uniq{t:aD}{l:List aA}{d d':List Int}(h:Good t l d)(h':Good t l d'):d=d':=by
 have:=h.agr.1;rw[h'.agr.1] at this;exact(Option.some.inj this).symm
theorem aOo{t:aD}{l:List aA}{e:Int}(h:Stat t l e){Q:(Option aU×Int)->Prop}(hq:Q (none,e)):lH t l Q:=by
 unfold lH;refine⟨_,bDq t,?_⟩;cases h with
 |s70 ht=>simp only[ht,Bool.not_false,cond_true];exact hq
 | s71 ht hs=>
  simp only[ht,Bool.not_true,cond_false]
  by_cases hl:60<l.length
  ·have:decide (60<(l.length:Int))=true:=decide_eq_true (by omega);simp only[this,cond_true];exact⟨_,rfl,hq⟩
  ·have:decide (60<(l.length:Int))=false:=decide_eq_false (by omega);simp only[this,cond_false];rw[vR l (by omega) _ (λs=>!gL t s) λx _=>by simp[rH,aRu (yF ht)]];refine⟨_,rfl,?_⟩;have:(l.any λs=>!gL t s)=true:=by
    rcases hs with h|⟨s,h1,h2⟩
    ·exact absurd h hl
    ·rw[List.any_eq_true];exact⟨s,h1,by rw[h2];rfl⟩
   simp only[this,cond_true];exact hq
 | s72 ht hl hs hno=>
  have:decide (60<(l.length:Int))=false:=decide_eq_false (by omega);simp only[ht,Bool.not_true,cond_false,this];rw[vR l (by omega) _ (λs=>!gL t s) λx _=>by simp[rH,aRu (yF ht)]];refine⟨_,rfl,?_⟩;have:(l.any λs=>!gL t s)=false:=by
   rw[List.any_eq_false];intro s hm;rw[hs s hm];simp
  simp only[this,cond_false];exact aXl (yF ht) hs (by omega) (λd hd=>absurd hd (hno d)) λ_=>hq
theorem aKh{t:aD}{l:List aA}{d:List Int}(h:Good t l d){Q:(Option aU×Int)->Prop}(hq:∀won,WonIs won (iX d (Res l))->Q (some ⟨t,d,won⟩,0)):lH t l Q:=by
 unfold lH;have hl:=h.len;have:decide (60<(l.length:Int))=false:=decide_eq_false (by omega);refine⟨_,bDq t,?_⟩;simp only[h.tree,Bool.not_true,cond_false,this];rw[vR l (by omega) _ (λs=>!gL t s) λx _=>by simp[rH,aRu h.ht]];refine⟨_,rfl,?_⟩;have:(l.any λs=>!gL t s)=false:=by
  rw[List.any_eq_false];intro s hm;rw[h.slips s hm];simp
 simp only[this,cond_false];refine aXl h.ht h.slips (by omega) (λd' hd won hW=>?_) λhno=>absurd h.agr (hno d);have:=h.uniq ⟨h.tree,h.len,h.slips,hd⟩;subst this;exact hq won hW
theorem aKu{t:aD}(ht:TreeOK t){l:List aA}(hl:l.length<=60):gW l t BIG 0=bif l.all (gL t) then lD l t else some 71:=by
 have:=kW (λk i=>gW l t k i) l.length (λi=>l[i]?.any (gL t)) (some 71) (lD l t) ?_ ?_ BIG (cC (by omega))
 ·rw [this];have e:(List.range l.length).all (λi=>l[i]?.any (gL t))=l.all (gL t):=by
   rw[Bool.eq_iff_iff,pQ,List.all_eq_true]
   constructor
   ·intro h x hx;obtain⟨i,hi,rfl⟩:=List.mem_iff_getElem.1 hx;have:=h i hi
    rwa[List.getElem?_eq_getElem hi] at this
   ·intro h i hi;rw[List.getElem?_eq_getElem hi];exact h _ (List.getElem_mem hi)
  rw[e]
 ·intro k i hi;simp only[gW,Int.ofNat_lt,hi,decide_true,cond_true,bE hi,Option.bind_some,bPf ht,bG (show i<9223372036854775807 by omega),List.getElem?_eq_getElem hi,Option.any_some];cases gL t l[i]<;>rfl
 ·intro k;have hlt:decide ((l.length:Int)<(l.length:Int))=false:=decide_eq_false (by omega);simp only[gW,hlt,cond_false]
theorem aBw{t:aD}{l:List aA}{e:Int}(h:Stat t l e):dU t l=some e:=by
 unfold dU;rw[bCx,Option.bind_some];cases h with
 |s70 ht=>simp only[ht,Bool.not_false,cond_true]
 | s71 ht hs=>
  simp only[ht,Bool.not_true,cond_false]
  by_cases hl:60<l.length
  ·have:decide (60<(l.length:Int))=true:=decide_eq_true (by omega);simp only[this,cond_true]
  ·have:decide (60<(l.length:Int))=false:=decide_eq_false (by omega);have h2:l.all (gL t)=false:=by
    rcases hs with h|⟨s,h1,h2⟩
    ·exact absurd h hl
    ·rw[List.all_eq_false];exact⟨s,h1,by simp[h2]⟩
   simp only[this,cond_false,aKu (yF ht) (show l.length<=60 by omega),h2]
 | s72 ht hl hs hno=>
  have:decide (60<(l.length:Int))=false:=decide_eq_false (by omega);have h2:l.all (gL t)=true:=by rw[List.all_eq_true];exact hs
  simp only[ht,Bool.not_true,cond_false,this,aKu (yF ht) hl,h2,cond_true,lD,(bDi (yF ht) hs (by omega)).2 hno,Option.bind_some,Bool.not_false]
theorem aCa{t:aD}{l:List aA}{d:List Int}(h:Good t l d):∃must,cN t l=some (⟨d,must⟩,true)/\MustIs t must (iX d (Res l)):=
 (bDi h.ht h.slips (by have:=h.len;omega)).1 d h.agr
theorem zP{t:aD}{l:List aA}{d:List Int}(h:Good t l d):dU t l=some 0:=by
 have hl:=h.len;have:decide (60<(l.length:Int))=false:=decide_eq_false (by omega);have h2:l.all (gL t)=true:=by rw[List.all_eq_true];exact h.slips
 obtain⟨must,hd,_⟩:=aCa h;unfold dU;rw[bCx,Option.bind_some];simp only[h.tree,Bool.not_true,cond_false,this,aKu h.ht hl,h2,cond_true,lD,hd,Option.bind_some]
theorem aWe{t:aD}{won:List (aB×Int)}{must:List (List Int)}{P:qE}(hW:WonIs won P)(hM:MustIs t must P){r p:Nat}(hr:r<t.Rounds.toNat)(hp:p<bX t r):
  cI (⟨r,p⟩:aB) won=!decide (mat must r p= -2):=by
 rw[Bool.eq_iff_iff,hW.has,Bool.not_eq_true',decide_eq_false_iff_not]
 constructor
 ·rintro⟨v,hv⟩;have:=(hM.mem r p v hr hp).2 hv;rw[this.1];exact this.2
 ·exactλh=>⟨_,(hM.mem r p _ hr hp).1 ⟨rfl,h⟩⟩
theorem bIa{t:aD}{won:List (aB×Int)}{must:List (List Int)}{P:qE}(hW:WonIs won P)(hM:MustIs t must P){r p:Nat}(hr:r<t.Rounds.toNat)(hp:p<bX t r)(h:mat must r p≠-2)(z:Int):
  cE (⟨r,p⟩:aB) z won=mat must r p:=hW.get ((hM.mem r p _ hr hp).1 ⟨rfl,h⟩)
theorem bBn{t:aD}{must:List (List Int)}{P:qE}(hM:MustIs t must P){r p:Nat}(hr:r<t.Rounds.toNat)(hp:p<bX t r):((idx must (r:Int)).bind λx=>idx x (p:Int))=some (mat must r p):=by
 have hl:=hM.len;have hrow:=hM.row r hr;have hrl:r<must.length:=by omega
 rw[bE hrl,Option.bind_some];unfold mat;rw[bN hrl] at hrow|-;have hp':p<must[r].length:=by omega
 rw[bE hp',bN hp']
theorem aVc{t:aD}{r:Nat}(hr:r+1<t.Rounds.toNat):bX t r=2*bX t ((r+1:Nat):Int):=by
 unfold bX;have e:t.Rounds.toNat-1-((r:Nat):Int).toNat=(t.Rounds.toNat-1-((r+1:Nat):Int).toNat)+1:=by omega
 rw[e,Nat.pow_succ];omega
def jN(d:List Int)(must:List (List Int))(r at':Nat):Int:=if r=0 then d.getD at' 0 else mat must (r-1) at'
section
variable{t:aD}(ht:TreeOK t){d:List Int}(hD:DOK t d){must:List (List Int)}{P:qE}(hM:MustIs t must P){won:List (aB×Int)}(hW:WonIs won P)
include ht hD hM
theorem bTo{r p s:Nat}(hr:r<t.Rounds.toNat)(hp:p<bX t r)(hs:s<2):sN ⟨d,must⟩ r p s=some (jN d must r (2*p+s)):=by
 have hpl:=tI ht (r:=(r:Int));have h5:=ht.r5;have w1:w64 (2*(p:Int))=((2*p:Nat):Int):=by rw[cG (by omega) (by omega)];omega
 have w2:w64 (((2*p:Nat):Int)+(s:Int))=((2*p+s:Nat):Int):=by rw[cG (by omega) (by omega)];omega
 unfold sN jN;simp only[w1,w2]
 by_cases h0:r=0
 ·subst h0;have hp0:=aTz ht;have hlen:=hD.len;have hpl2:p<bX t 0:=hp;have hi:2*p+s<d.length:=by omega
  simp only[Int.natCast_zero,decide_true,cond_true,bE hi,Option.bind_some,if_true,bN hi]
 ·have hr0:decide ((r:Int)=0)=false:=decide_eq_false (by omega);have hw:w64 ((r:Int)-1)=((r-1:Nat):Int):=aFh (by omega) (by omega);have hph:=aVc (t:=t) (r:=r-1) (by omega);have e:r-1+1=r:=by omega
  rw[e] at hph;have:=bBn hM (r:=r-1) (p:=2*p+s) (by omega) (by omega);simp only[hr0,cond_false,hw,if_neg h0];rw[<-this]
  congr 1
  funext x
  cases idx x ((2*p+s:Nat):Int)<;>rfl
include hW
theorem bNo{r p s:Nat}(hr:r<t.Rounds.toNat)(hp:p<bX t r)(hs:s<2):nQ ⟨t,d,won⟩ ⟨r,p⟩ s=some (jN d must r (2*p+s)):=by
 have hpl:=tI ht (r:=(r:Int));have h5:=ht.r5;have w1:w64 (2*(p:Int))=((2*p:Nat):Int):=by rw[cG (by omega) (by omega)];omega
 have w2:w64 (((2*p:Nat):Int)+(s:Int))=((2*p+s:Nat):Int):=by rw[cG (by omega) (by omega)];omega
 unfold nQ jN;simp only[w1,w2]
 by_cases h0:r=0
 ·subst h0;have hp0:=aTz ht;have hlen:=hD.len;have hpl2:p<bX t 0:=hp;have hi:2*p+s<d.length:=by omega
  simp only[Int.natCast_zero,decide_true,cond_true,bE hi,Option.bind_some,if_true,bN hi]
 ·have hr0:decide ((r:Int)=0)=false:=decide_eq_false (by omega);have hw:w64 ((r:Int)-1)=((r-1:Nat):Int):=aFh (by omega) (by omega);have hph:=aVc (t:=t) (r:=r-1) (by omega);have e:r-1+1=r:=by omega
  rw[e] at hph;simp only[hr0,cond_false,hw,if_neg h0];have h1:r-1<t.Rounds.toNat:=by omega
  have h2:2*p+s<bX t ((r-1:Nat):Int):=by omega
  rw[aWe hW hM h1 h2]
  by_cases hm:mat must (r-1) (2*p+s)= -2
  ·simp only[hm,decide_true,Bool.not_true,cond_false]
  ·simp only[hm,decide_false,Bool.not_false,cond_true,bIa hW hM h1 h2 hm]
omit ht hD hM hW
def tX(t:aD)(d:List Int)(must:List (List Int))(r:Nat):List aE:=(List.range (bX t r)).map λp:Nat=>⟨r,p,jN d must r (2*p),jN d must r (2*p+1)⟩
def bK(t:aD)(d:List Int)(must:List (List Int)):List aE:=(List.range t.Rounds.toNat).flatMap (tX t d must)
theorem aHr{α:Type}(f:Nat->List α)(n:Nat):(List.range (n+1)).flatMap f=(List.range n).flatMap f++f n:=by
 rw[List.range_succ,List.flatMap_append];simp
include ht
theorem bVk(r:Nat):(tX t d must r).length<=16:=by
 have:=tI ht (r:=(r:Int))
 simpa[tX] using this
theorem aJr:∀r,((List.range r).flatMap (tX t d must)).length<=16*r
 |0=>by simp
 | r+1=>by
  have h1:=aJr r;have h2:=bVk ht (d:=d) (must:=must) r;rw[aHr,List.length_append];omega
include hD hM
theorem bDc:lU t ⟨d,must⟩=some (bK t d must):=by
 have h1:=ht.r1;have h5:=ht.r5;unfold lU;have:=fX (S:=List aE) (λk r out=>dR t ⟨d,must⟩ k r out) t.Rounds.toNat (λ_ _=>some (bK t d must)) (λr out=>out=(List.range r).flatMap (tX t d must)) ?_ ?_ BIG [] (cC (by omega)) (by simp)
 ·exact this
 ·rintro k r out hr rfl ih;have hfl:=aJr ht (d:=d) (must:=must) r;have hpl:=tI ht (r:=(r:Int));have hlt:decide ((r:Int)<t.Rounds)=true:=decide_eq_true (by omega);have hin:gY (dR t ⟨d,must⟩ k) r t ⟨d,must⟩ BIG 0 ((List.range r).flatMap (tX t d must))=oL (dR t ⟨d,must⟩ k) r t ⟨d,must⟩ ((List.range r).flatMap (tX t d must)++tX t d must r):=by
   have hP:=aQp ht (r:=(r:Int)) (by omega) (by omega);refine fX (S:=List aE) (λq p out=>gY (dR t ⟨d,must⟩ k) r t ⟨d,must⟩ q p out) (bX t r) (λ_ _=>oL (dR t ⟨d,must⟩ k) r t ⟨d,must⟩ ((List.range r).flatMap (tX t d must)++tX t d must r))
    (λp out=>out=(List.range r).flatMap (tX t d must)++(List.range p).map λp:Nat=>(⟨r,p,jN d must r (2*p),jN d must r (2*p+1)⟩:aE)) ?_ ?_ BIG _ (cC (by omega)) (by simp)
   ·rintro q p out hp rfl ih2;simp only[gY,hP,Option.bind_some,Int.ofNat_lt,hp,decide_true,cond_true,bG (show p<9223372036854775807 by omega)];have e0:=bTo ht hD hM hr hp (s:=0) (by omega);have e1:=bTo ht hD hM hr hp (s:=1) (by omega);simp only[Int.natCast_zero,Int.natCast_one,Nat.add_zero] at e0 e1;rw[e0,Option.bind_some,e1,Option.bind_some,eL (by simp only[List.length_append,List.length_map,List.length_range,List.length_cons,List.length_nil];omega),Option.bind_some];refine ih2 _ ?_;rw[List.range_succ,List.map_append,List.append_assoc];rfl
   ·rintro q out rfl;have hlt:decide ((bX t r:Int)<(bX t r:Int))=false:=decide_eq_false (by omega);simp only[gY,hP,Option.bind_some,hlt,cond_false,tX]
  simp only[dR,hlt,cond_true,hin,oL,xN,bG (show r<9223372036854775807 by omega)];exact ih _ (aHr _ _).symm
 ·rintro k out rfl;have hlt:decide (((t.Rounds.toNat:Nat):Int)<t.Rounds)=false:=decide_eq_false (by omega);simp only[dR,hlt,cond_false,xM]
  rfl
include hW
theorem aZe{S:Type}(y:S->aB->aE->Option S)(f:List aE->S)(good:List aE->Prop)
  (hy:∀(out:List aE) (r p:Nat),r<t.Rounds.toNat->p<bX t r->out.length<=200->y (f out) ⟨r,p⟩ ⟨r,p,jN d must r (2*p),jN d must r (2*p+1)⟩=some (f (out++[⟨r,p,jN d must r (2*p),jN d must r (2*p+1)⟩]))):
  jA ⟨t,d,won⟩ y (f [])=some (f (bK t d must)):=by
 have h1:=ht.r1;have h5:=ht.r5;unfold jA;have:=fX (S:=S) (λk r out=>cO y ⟨t,d,won⟩ t.Rounds k r out) t.Rounds.toNat (λ_ _=>some (f (bK t d must))) (λr out=>out=f ((List.range r).flatMap (tX t d must))) ?_ ?_ BIG (f []) (cC (by omega)) (by simp)
 ·exact this
 ·rintro k r out hr rfl ih;have hfl:=aJr ht (d:=d) (must:=must) r;have hpl:=tI ht (r:=(r:Int));have hlt:decide ((r:Int)<t.Rounds)=true:=decide_eq_true (by omega);have hch:chk (decide (0<=w64 ((r:Int)+1)))=some ():=by
   rw[bG (by omega)];unfold chk;rw[decide_eq_true (by omega)];rfl
  have hin:fE y (cO y ⟨t,d,won⟩ t.Rounds k) ⟨t,d,won⟩ r t.Rounds r (bX t r) BIG 0 (f ((List.range r).flatMap (tX t d must)))=
    kS y (cO y ⟨t,d,won⟩ t.Rounds k) ⟨t,d,won⟩ t.Rounds r (f ((List.range r).flatMap (tX t d must)++tX t d must r)):=by
   refine fX (S:=S) (λq p out=>fE y (cO y ⟨t,d,won⟩ t.Rounds k) ⟨t,d,won⟩ r t.Rounds r (bX t r) q p out) (bX t r) (λ_ _=>kS y (cO y ⟨t,d,won⟩ t.Rounds k) ⟨t,d,won⟩ t.Rounds r (f ((List.range r).flatMap (tX t d must)++tX t d must r)))
    (λp out=>out=f ((List.range r).flatMap (tX t d must)++(List.range p).map λp:Nat=>(⟨r,p,jN d must r (2*p),jN d must r (2*p+1)⟩:aE))) ?_ ?_ BIG _ (cC (by omega)) (by simp)
   ·rintro q p out hp rfl ih2;have e0:=bNo ht hD hM hW hr hp (s:=0) (by omega);have e1:=bNo ht hD hM hW hr hp (s:=1) (by omega);simp only[Int.natCast_zero,Int.natCast_one,Nat.add_zero] at e0 e1;simp only[fE,Int.ofNat_lt,hp,decide_true,cond_true,bG (show p<9223372036854775807 by omega),e0,e1,Option.bind_some];rw[hy _ r p hr hp (by simp only[List.length_append,List.length_map,List.length_range,List.length_cons,List.length_nil];omega),Option.bind_some];refine ih2 _ ?_;rw[List.range_succ,List.map_append,List.append_assoc];rfl
   ·rintro q out rfl;have hlt:decide ((bX t r:Int)<(bX t r:Int))=false:=decide_eq_false (by omega);simp only[fE,hlt,cond_false,tX]
  simp only[cO,hlt,cond_true,hch,Option.bind_some,bNn ht (r:=(r:Int)) (by omega) (by omega),hin,kS,sI];rw[bG (show r<9223372036854775807 by omega)];exact ih _ (congrArg f (aHr _ _)).symm
 ·rintro k out rfl;have hlt:decide (((t.Rounds.toNat:Nat):Int)<t.Rounds)=false:=decide_eq_false (by omega);simp only[cO,hlt,cond_false,sH]
  rfl
end
theorem bRj(t:aD)(l:List aA){r:Int}(h:dU t l=some r)(Q:Int->Prop)(hq:Q r):wN t l Q:=by
 unfold wN
 rcases wJ t l with⟨d,hg⟩|⟨e,he⟩
 ·rw[zP hg] at h;cases h;exact aKh hg λwon _=>hq
 ·rw[aBw he] at h;cases h;exact aOo he hq
theorem aMu{t:aD}{l:List aA}{d:List Int}(h:Good t l d){must:List (List Int)}(hd:cN t l=some (⟨d,must⟩,true))(hM:MustIs t must (iX d (Res l))):jE t l=some (bK t d must,0):=by
 unfold jE;rw[zP h,Option.bind_some];simp only[decide_true,Bool.not_true,cond_false,hd,Option.bind_some,bDc h.ht h.dok hM]
theorem bCw{t:aD}{l:List aA}{e:Int}(h:Stat t l e):jE t l=some ([],e):=by
 unfold jE;rw[aBw h,Option.bind_some];simp only[h.ne,Bool.not_false,cond_true]
theorem bRi(t:aD)(l:List aA){r:List aE×Int}(h:jE t l=some r)(Q:List aE×Int->Prop)(hq:Q r):wM t l Q:=by
 unfold wM
 rcases wJ t l with⟨d,hg⟩|⟨e,he⟩
 ·obtain⟨must,hd,hM⟩:=aCa hg;rw[aMu hg hd hM] at h;cases h;refine aKh hg λwon hW=>?_;simp only[decide_true,Bool.not_true,cond_false];refine⟨_,rfl,_,?_,hq⟩;refine aZe hg.ht hg.dok hM hW _ (λx=>x) (λ_=>True) λout r p hr hp hl=>?_;rw[eL (by simp;omega)];rfl
 ·rw[bCw he] at h;cases h;refine aOo he ?_;simp only[he.ne,Bool.not_false,cond_true];exact hq
theorem cCw{t:aD}{l:List aA}{e:Int}(h:Stat t l e){r p:Int}{Q:(Option aU×aB×Int)->Prop}(hq:Q (none,⟨r,p⟩,e)):vV t l r p Q:=by
 unfold vV;refine aOo h ?_;simp only[h.ne,cond_false];exact⟨_,rfl,hq⟩
theorem cAk{t:aD}{l:List aA}{d:List Int}(h:Good t l d){r p:Int}{Q:(Option aU×aB×Int)->Prop}(hq:∀won,WonIs won (iX d (Res l))->Q (some ⟨t,d,won⟩,⟨r,p⟩,bif kH t r p then 0 else 1)):vV t l r p Q:=by
 unfold vV;refine aKh h λwon hW=>?_;have:=hq won hW;simp only[decide_true,cond_true,bZi h.ht,Option.bind_some];refine⟨_,rfl,?_⟩;cases hm:kH t r p with
 |true=>rw[hm] at this;exact this
 |false=>rw[hm] at this;exact this
theorem bBb{t:aD}{l:List aA}{e:Int}(h:Stat t l e)(r p:Int):iF t l r p=some e:=by
 unfold iF;rw[aBw h,Option.bind_some];simp only[h.ne,Bool.not_false,cond_true]
theorem aJv{t:aD}{l:List aA}{d:List Int}(h:Good t l d)(r p:Int):iF t l r p=some (bif kH t r p then 0 else 1):=by
 unfold iF;rw[zP h,Option.bind_some];simp only[decide_true,Bool.not_true,cond_false,aXc h.ht,Option.bind_some];cases kH t r p<;>rfl
theorem aZd{t:aD}{r p:Int}(h:kH t r p=true):∃r' p':Nat,r=r'/\p=p'/\r'<t.Rounds.toNat/\p'<bX t r':=by
 simp only[kH,Bool.and_eq_true,mR] at h;refine⟨r.toNat,p.toNat,by omega,by omega,by omega,?_⟩;have e:((r.toNat:Nat):Int)=r:=by omega
 rw[e];omega
theorem bOi{t:aD}{l:List aA}{e:Int}(h:Stat t l e)(r p:Int):eQ t l r p=some (0,e):=by
 unfold eQ;rw[bBb h,Option.bind_some];simp only[h.ne,Bool.not_false,cond_true]
theorem bOh{t:aD}{l:List aA}{d:List Int}(h:Good t l d){r p:Int}(hm:kH t r p=false):eQ t l r p=some (0,1):=by
 unfold eQ;rw[aJv h,hm,Option.bind_some]
 rfl
theorem aUo{t:aD}{l:List aA}{d:List Int}(h:Good t l d){must:List (List Int)}(hd:cN t l=some (⟨d,must⟩,true))(hM:MustIs t must (iX d (Res l))){r p:Nat}(hm:kH t r p=true):
  eQ t l r p=some (if mat must r p= -2 then(0,3) else(mat must r p,0)):=by
 obtain⟨r',p',e1,e2,hr,hp⟩:=aZd hm;have e1:r=r':=by omega
 have e2:p=p':=by omega
 subst e1;subst e2;have hi:=bBn hM hr hp;unfold eQ;rw[aJv h,hm,Option.bind_some];simp only[cond_true,decide_true,Bool.not_true,cond_false,hd,Option.bind_some];rw[<-Option.bind_assoc,hi,Option.bind_some]
 by_cases h2:mat must r p= -2
 ·simp only[h2,decide_true,cond_true,if_true]
 ·simp only[h2,decide_false,cond_false,if_false];rw[<-Option.bind_assoc,hi,Option.bind_some]
theorem bOj(t:aD)(l:List aA)(r p:Int){o:Int×Int}(h:eQ t l r p=some o)(Q:Int×Int->Prop)(hq:Q o):uO t l r p Q:=by
 unfold uO
 rcases wJ t l with⟨d,hg⟩|⟨e,he⟩
 ·refine cAk hg λwon hW=>?_;cases hm:kH t r p with
  | false=>
   rw[bOh hg hm] at h;cases h;exact hq
  | true=>
   obtain⟨r',p',rfl,rfl,hr,hp⟩:=aZd hm;obtain⟨must,hd,hM⟩:=aCa hg;rw[aUo hg hd hM hm] at h;cases h;simp only[cond_true,decide_true,Bool.not_true,cond_false];refine⟨_,rfl,?_⟩;simp only[aWe hW hM hr hp]
   by_cases h2:mat must r' p'= -2
   ·rw[if_pos h2] at hq;simp only[h2,decide_true,Bool.not_true,Bool.not_false,cond_true];exact hq
   ·rw[if_neg h2] at hq;simp only[h2,decide_false,Bool.not_true,Bool.not_false,cond_false,bIa hW hM hr hp h2];exact hq
 ·rw[bOi he] at h;cases h;refine cCw he ?_;simp only[he.ne,Bool.not_false,cond_true];exact hq
end Go.Am
end
section
namespace Go.Am
structure HB(S ever:List Int)(U:List aA):Prop where
 se:∀x∈S,x∈ever
 ue:∀u∈U,u.Player∈ever
 us:∀u∈U,u.Player∉S
 uu:∀u∈U,∀v∈U,u.Player=v.Player->u=v
def bFv(S:List Int)(U:List aA)(i:Nat)(x:Int):Prop:=x=S.getD i 0\/∃u∈U,u.Place=(i:Int)/\u.Player=x
theorem HB.next{S ever:List Int}{U:List aA}(h:HB S ever U){s:aA}(hp:s.Player∉ever):HB S (ever++[s.Player]) (U++[s]):=by
 refine⟨λx hx=>List.mem_append_left _ (h.se x hx),λu hu=>?_,λu hu=>?_,λu hu v hv e=>?_⟩
 ·rcases List.mem_append.1 hu with hu|hu
  ·exact List.mem_append_left _ (h.ue u hu)
  ·simp at hu;subst hu;simp
 ·rcases List.mem_append.1 hu with hu|hu
  ·exact h.us u hu
  ·simp at hu;subst hu;exactλhs=>hp (h.se _ hs)
 ·rcases List.mem_append.1 hu with hu|hu
  ·rcases List.mem_append.1 hv with hv|hv
   ·exact h.uu u hu v hv e
   ·simp at hv;subst hv;exact absurd (e▸h.ue _ ‹u∈U›) hp
  ·simp at hu;subst hu
   rcases List.mem_append.1 hv with hv|hv
   ·exact absurd (e▸h.ue v hv) hp
   ·simp at hv;exact hv.symm
theorem bAf{L:List aA}{S:List Int}{i:Nat}:∀{n:Nat} {now:Int} {ever:List Int} {U:List aA} {now':Int} {ever':List Int} {U':List aA},
  HB S ever U->bFv S U i now->jZ L i n now ever U=some (now',ever',U')->HB S ever' U'/\bFv S U' i now'/\(∀u∈U,u∈U')
 |0,_,_,_,_,_,_,_,_,h=>by simp[jZ] at h
 | n +1,now,ever,U,now',ever',U',hB,hH,h=>by
  unfold jZ at h;cases hc:iM L i now with
  | nil=>
   rw[hc] at h;simp only[Option.some.injEq,Prod.mk.injEq] at h;obtain⟨rfl,rfl,rfl⟩:=h;exact⟨hB,hH,λu hu=>hu⟩
  | cons s cs=>
   cases cs with
   |cons s2 cs=>simp[hc] at h
   | nil=>
    have hs:s∈iM L i now:=by rw[hc];simp
    obtain⟨m1,m2,m3⟩:=vM.1 hs;rw[hc] at h
    by_cases hp:s.Player∈ever
    ·simp[hp] at h
    ·simp only[hp,if_false] at h;obtain⟨r1,r2,r3⟩:=bAf (hB.next hp) (.inr ⟨s,by simp,m2,rfl⟩) h;exact⟨r1,r2,λu hu=>r3 u (List.mem_append_left _ hu)⟩
theorem aZn{L:List aA}{S:List Int}:∀{n i:Nat} {d ever:List Int} {U:List aA} {d':List Int} {U':List aA},i+n<=d.length->HB S ever U->(∀j,j<d.length->bFv S U j (d.getD j 0))->
  lB L n i d ever U=some (d',U')->∃ever',HB S ever' U'/\(∀j,j<d'.length->bFv S U' j (d'.getD j 0))
 | 0,i,d,ever,U,d',U',hn,hB,hH,he=>by
  simp only[lB,Option.some.injEq,Prod.mk.injEq] at he;obtain⟨rfl,rfl⟩:=he;exact⟨ever,hB,hH⟩
 | n +1,i,d,ever,U,d',U',hn,hB,hH,he=>by
  unfold lB at he;have hid:i<d.length:=by omega
  cases hs:jZ L i (L.length+1) (d.getD i 0) ever U with
  |none=>rw[hs] at he;simp at he
  | some q=>
   obtain⟨now',ever',U1⟩:=q;rw[hs] at he;obtain⟨r1,r2,r3⟩:=bAf hB (hH i hid) hs;refine aZn (by rw[List.length_set];omega) r1 (λj hj=>?_) he;rw[List.length_set] at hj;rw[nW hid]
   split
   ·rename_i e;subst e;exact r2
   ·rcases hH j hj with h|⟨u,hu,h⟩
    ·exact .inl h
    ·exact .inr ⟨u,r3 u hu,h⟩
structure HD(t:aD)(l:List aA)(d:List Int):Prop where
 us:∀u∈cV l,u.Player∉t.Slots
 uu:∀u∈cV l,∀v∈cV l,u.Player=v.Player->u=v
 home:∀j,j<d.length->bFv t.Slots (cV l) j (d.getD j 0)
theorem bLk{t:aD}(ht:TreeOK t){l:List aA}(hs:∀s∈l,gL t s=true){d:List Int}(h:pO t l=some d):HD t l d:=by
 unfold pO at h;split at h
 ·rename_i d' U hr
  split at h
  ·rename_i hU
   cases h;have hL:=aXd hs;obtain⟨ever,hI⟩:=aOs hL (aMw (cV l) (aHq ht)) (by omega) hr;have hall:∀u,u∈U↔u∈cV l:=λu=>by
    refine⟨hI.us u,λhu=>Classical.byContradiction λhn=>?_⟩;have:=rQ (l:=u::U) (m:=cV l) (List.nodup_cons.2 ⟨hn,hI.un⟩) λx hx=>by
     rcases List.mem_cons.1 hx with rfl|hx
     ·exact hu
     ·exact hI.us x hx
    simp only[List.length_cons] at this
    omega
   obtain⟨ever',hB,hH⟩:=aZn (S:=t.Slots) (by omega) ⟨λx hx=>hx,by simp,by simp,by simp⟩ (λj _=>.inl rfl) hr;refine⟨λu hu=>hB.us u ((hall u).2 hu),λu hu v hv=>hB.uu u ((hall u).2 hu) v ((hall v).2 hv),λj hj=>?_⟩
   rcases hH j hj with h|⟨u,hu,h⟩
   ·exact .inl h
   ·exact .inr ⟨u,(hall u).1 hu,h⟩
  ·cases h
 ·cases h
theorem HD.same{t:aD}(ht:TreeOK t){l l':List aA}{d d':List Int}(h:HD t l d)(h':HD t l' d')(hl:d.length=t.Slots.length)(hl':d'.length=t.Slots.length)(hsub:∀s∈l',s∈l){a b:Nat}(ha:a<d'.length)(hb:b<d.length)
  (e:d'.getD a 0=d.getD b 0)(hn:d.getD b 0≠-1):a=b:=by
 have hL:∀u∈cV l',u∈cV l:=λu hu=>by
  simp only[cV,List.mem_filter,rC] at hu|-;exact⟨hsub u hu.1,hu.2⟩
 have hSm:∀j,j<t.Slots.length->t.Slots.getD j 0∈t.Slots:=λj hj=>aNx hj
 rcases h'.home a ha with e1|⟨u,hu,e1,e2⟩
 ·rcases h.home b hb with e3|⟨v,hv,e3,e4⟩
  ·have hab:t.Slots.getD a 0=t.Slots.getD b 0:=by rw[<-e1,<-e3,e]
   have ha':a<t.Slots.length:=hl'▸ha;have hb':b<t.Slots.length:=hl▸hb;rw[bN ha',bN hb'] at hab;rw[e3,bN hb'] at hn
   rcases Nat.lt_trichotomy a b with hlt|rfl|hlt
   ·exact absurd (ht.dup b hb' a hlt hab) hn
   ·rfl
   ·exact absurd (hab▸ht.dup a ha' b hlt hab.symm) hn
  ·exact absurd (by rw[e4,<-e,e1];exact hSm a (hl'▸ha)) (h.us v hv)
 ·rcases h.home b hb with e3|⟨v,hv,e3,e4⟩
  ·exact absurd (by rw[e2,e,e3];exact hSm b (hl▸hb)) (h.us u (hL u hu))
  ·have:=h.uu u (hL u hu) v hv (by rw[e2,e4,e]);subst this
   omega
theorem Good.home{t:aD}{l:List aA}{d:List Int}(h:Good t l d):HD t l d:=bLk h.ht h.slips h.agr.1
def oC(t:aD):List (Nat×Nat):=(List.range t.Rounds.toNat).flatMap λr:Nat=>(List.range (bX t r)).map λp:Nat=>(r,p)
def uC(d:List Int)(must:List (List Int))(x:Nat×Nat):aE:=⟨x.1,x.2,jN d must x.1 (2*x.2),jN d must x.1 (2*x.2+1)⟩
theorem aNe(t:aD)(d:List Int)(must:List (List Int)):bK t d must=(oC t).map (uC d must):=by
 unfold bK oC;rw[List.map_flatMap]
 congr 1
 funext r
 rw[List.map_map]
 rfl
theorem bWv{t:aD}{x:Nat×Nat}:x∈oC t↔x.1<t.Rounds.toNat/\x.2<bX t x.1:=by
 simp only[oC,List.mem_flatMap,List.mem_range,List.mem_map]
 constructor
 ·rintro⟨r,hr,p,hp,rfl⟩;exact⟨hr,hp⟩
 ·rintro⟨hr,hp⟩;exact⟨x.1,hr,x.2,hp,rfl⟩
end Go.Am
end
section
namespace Go.Am
theorem cDy{α:Type}{l l':List α}(hn:l.Nodup)(hn':l'.Nodup)(h:∀x,x∈l↔x∈l'):(l=[]↔l'=[])/\(∀x,l=[x]↔l'=[x]):=by
 have key:∀{l l':List α},l.Nodup->l'.Nodup->(∀x,x∈l↔x∈l')->(l=[]->l'=[])/\∀x,l=[x]->l'=[x]:=by
  intro l l' hn hn' h;refine⟨λe=>?_,λx e=>?_⟩
  ·subst e;cases l' with
   |nil=>rfl
   |cons a l'=>exact absurd ((h a).2 (by simp)) (by simp)
  ·subst e;cases l' with
   |nil=>exact absurd ((h x).1 (by simp)) (by simp)
   | cons a l'=>
    have ha:a=x:=by simpa using(h a).2 (by simp)
    subst ha;cases l' with
    |nil=>rfl
    | cons b l'=>
     have hb:b=a:=by simpa using(h b).2 (by simp)
     subst hb
     simp at hn'
 exact⟨⟨(key hn hn' h).1,(key hn' hn λx=>(h x).symm).1⟩,λx=>⟨(key hn hn' h).2 x,(key hn' hn λx=>(h x).symm).2 x⟩⟩
theorem bTa{α:Type}[DecidableEq α]{l l':List α}(hn:l.Nodup)(hn':l'.Nodup)(h:∀x,x∈l↔x∈l'):l.length=l'.length:=
 Nat.le_antisymm (rQ hn λx hx=>(h x).1 hx) (rQ hn' λx hx=>(h x).2 hx)
theorem bEm{L L':List aA}(hn:L.Nodup)(hn':L'.Nodup)(h:∀x,x∈L↔x∈L')(i:Int):∀(n:Nat) (now:Int) (ever:List Int) (U:List aA),jZ L i n now ever U=jZ L' i n now ever U
 |0,_,_,_=>rfl
 | n +1,now,ever,U=>by
  have hc:=cDy (l:=iM L i now) (l':=iM L' i now) (hn.filter _) (hn'.filter _) λx=>by simp only[vM,h]
  unfold jZ;cases e:iM L i now with
  |nil=>rw[hc.1.1 e]
  | cons s cs=>
   cases cs with
   | nil=>
    rw[(hc.2 s).1 e];simp only;rw[bEm hn hn' h i n]
   | cons s2 cs=>
    cases e':iM L' i now with
    |nil=>rw[hc.1.2 e'] at e;cases e
    | cons s' cs'=>
     cases cs' with
     |nil=>rw[(hc.2 s').2 e'] at e;cases e
     |cons s2' cs'=>rfl
theorem bEf{L L':List aA}(hn:L.Nodup)(hn':L'.Nodup)(h:∀x,x∈L↔x∈L'):∀(n i:Nat) (d ever:List Int) (U:List aA),lB L n i d ever U=lB L' n i d ever U
 |0,_,_,_,_=>rfl
 | n+1,i,d,ever,U=>by
  unfold lB;rw[bEm hn hn' h,bTa hn hn' h];cases jZ L' i (L'.length+1) (d.getD i 0) ever U with
  |none=>rfl
  |some q=>exact bEf hn hn' h n _ _ _ _
theorem aDc(l:List aA):(cV l).Nodup:=(aLg l).filter _
theorem aOg{l:List aA}{x:aA}:x∈cV l↔x∈l/\x.Kind=5:=by simp[cV,rC,isL]
theorem bPy{t:aD}{l l':List aA}(h:∀x:aA,x.Kind=5->(x∈l↔x∈l')):pO t l=pO t l':=by
 have hm:∀x,x∈cV l↔x∈cV l':=λx=>by
  rw[aOg,aOg];exact⟨λ⟨a,b⟩=>⟨(h x b).1 a,b⟩,λ⟨a,b⟩=>⟨(h x b).2 a,b⟩⟩
 unfold pO aOv;rw[bEf (aDc l) (aDc l') hm,bTa (aDc l) (aDc l') hm]
section
variable{t:aD}{l:List aA}{d:List Int}(hg:Good t l d)
include hg
theorem Good.fn:Func (iX d (Res l)):=hg.agr.2.fn
theorem Good.rok{x:aA}(hx:Res l x):ROK t x:=aXe (hg.slips x hx.1) hx.2
theorem Good.down{q p:Nat}{v:Int}(h:iX d (Res l) ⟨q,p⟩ v):∃a,a<d.length/\v=d.getD a 0/\d.getD a 0≠-1/\cell a q=⟨q,p⟩/\q<t.Rounds.toNat/\∀q',q'<=q->iX d (Res l) (cell a q') v:=by
 have hD:=hg.dok;have h1:=hg.ht.r1
 rcases h with⟨i,hi,hb,hm,hv⟩|⟨x,hx,a,ha,he,hv,q',hq,hm⟩
 ·have hsl:sib i<d.length:=by rw[hD.len];exact aTg hg.ht (by rw[<-hD.len];exact hi)
  have hq0:q=0:=by simp only[cell,aB.mk.injEq] at hm;omega
  refine⟨sib i,hsl,hv,hD.sib_ne hg.ht hi hb,by rw[hq0] at hm|-;exact hm.symm,by omega,λq' hq'=>?_⟩;have:q'=0:=by omega
  subst this;exact .inl ⟨i,hi,hb,rfl,hv⟩
 ·have hr:=hg.rok hx;have hp:=hr.p0;have hr0:=hr.r0;have hr1:=hr.r1;have hqq:q=q':=by simp only[cell,aB.mk.injEq] at hm;omega
  subst hqq;exact⟨a,ha,hv,by omega,hm.symm,by omega,λq' hq'=>.inr ⟨x,hx,a,ha,he,hv,q',by omega,rfl⟩⟩
end
theorem aBx{l:List aA}{x:aA}(hx:x.Kind≠5)(y:aA):Res (l++[x]) y↔Res l y\/y=x:=by
 unfold Res;rw[List.mem_append,List.mem_singleton]
 constructor
 ·rintro⟨h|h,h2⟩
  ·exact .inl ⟨h,h2⟩
  ·exact .inr h
 ·rintro(⟨h,h2⟩|rfl)
  ·exact⟨.inl h,h2⟩
  ·exact⟨.inr rfl,hx⟩
section
variable{t:aD}{l:List aA}{d:List Int}(hg:Good t l d){x:aA}(hx:x.Kind≠5)(hs:gL t x=true)
include hg hx hs
theorem aMz{a:Nat}(ha:a<d.length)(he:d.getD a 0=x.Player)(m:aB)(v:Int):iX d (Res (l++[x])) m v↔iX d (Res l) m v\/clm d a x.Round.toNat m v:=by
 have h1:=aTj hg.dok (aXe hs hx) ha he m v
 constructor
 ·rintro(h|⟨y,hy,h⟩)
  ·exact .inl (.inl h)
  ·rcases(aBx hx y).1 hy with hy|rfl
   ·exact .inl (.inr ⟨y,hy,h⟩)
   ·exact .inr (h1.1 ⟨_,rfl,h⟩)
 ·rintro((h|⟨y,hy,h⟩)|h)
  ·exact .inl h
  ·exact .inr ⟨y,(aBx hx y).2 (.inl hy),h⟩
  ·exact .inr ⟨x,(aBx hx x).2 (.inr rfl),a,ha,he,h⟩
omit hg hs in
theorem aZp:pO t (l++[x])=pO t l:=bPy λy hy=>by
 rw[List.mem_append,List.mem_singleton];exact⟨λh=>h.resolve_right λe=>hx (e▸hy),.inl⟩
theorem cAc{a:Nat}(ha:a<d.length)(he:d.getD a 0=x.Player)(hc:cell a x.Round.toNat=⟨x.Round,x.Place⟩)(hco:yE (iX d (Res l)) (clm d a x.Round.toNat))(hno:∀y∈l,y.Kind≠5->y.Round=x.Round->y.Place=x.Place->y=x):AGR t (l++[x]) d:=by
 have hO:=hg.agr.2;refine⟨by rw[aZp hx];exact hg.agr.1,λy hy z hz ky kz e1 e2=>?_,λy hy=>?_,λm v w h1 h2=>?_⟩
 ·rcases(aBx hx y).1 ⟨hy,ky⟩ with hy'|rfl
  ·rcases(aBx hx z).1 ⟨hz,kz⟩ with hz'|rfl
   ·exact hO.two y hy'.1 z hz'.1 ky kz e1 e2
   ·exact hno y hy'.1 ky e1 e2
  ·rcases(aBx hx z).1 ⟨hz,kz⟩ with hz'|hz'
   ·exact(hno z hz'.1 kz e1.symm e2.symm).symm
   ·exact hz'.symm
 ·rcases(aBx hx y).1 hy with hy'|rfl
  ·exact hO.slot y hy'
  ·exact⟨a,ha,he,hc⟩
 ·rcases(aMz hg hx hs ha he m v).1 h1 with p1|p1<;>rcases(aMz hg hx hs ha he m w).1 h2 with p2|p2
  ·exact hO.fn m v w p1 p2
  ·exact hco m v w p1 p2
  ·exact(hco m w v p2 p1).symm
  ·rw[p1.1,p2.1]
theorem bKl{d':List Int}(hA:AGR t (l++[x]) d'):d'=d/\∃a,a<d.length/\d.getD a 0=x.Player/\cell a x.Round.toNat=⟨x.Round,x.Place⟩/\yE (iX d (Res l)) (clm d a x.Round.toNat):=by
 have h1:=hA.1;rw[aZp hx,hg.agr.1] at h1;cases h1;obtain⟨a,ha,he,hc⟩:=hA.2.slot x ((aBx hx x).2 (.inr rfl));refine⟨rfl,a,ha,he,hc,λm v w p1 p2=>hA.2.fn m v w ((aMz hg hx hs ha he m v).2 (.inl p1)) ((aMz hg hx hs ha he m w).2 (.inr p2))⟩
theorem Good.add{a:Nat}(hl:l.length<60)(ha:a<d.length)(he:d.getD a 0=x.Player)(hc:cell a x.Round.toNat=⟨x.Round,x.Place⟩)(hco:yE (iX d (Res l)) (clm d a x.Round.toNat))(hno:∀y∈l,y.Kind≠5->y.Round=x.Round->y.Place=x.Place->y=x):Good t (l++[x]) d:=
 ⟨hg.tree,by simp;omega,λs hm=>by
  rcases List.mem_append.1 hm with h|h
  ·exact hg.slips s h
  ·rw[List.mem_singleton.1 h];exact hs,cAc hg hx hs ha he hc hco hno⟩
theorem Stat.add(hl:l.length<60)(hno:¬∃a,a<d.length/\d.getD a 0=x.Player/\cell a x.Round.toNat=⟨x.Round,x.Place⟩/\yE (iX d (Res l)) (clm d a x.Round.toNat)):Stat t (l++[x]) 72:=
 .s72 hg.tree (by simp;omega) (λs hm=>by
  rcases List.mem_append.1 hm with h|h
  ·exact hg.slips s h
  ·rw[List.mem_singleton.1 h];exact hs) λd' hd=>hno (bKl hg hx hs hd).2
end
end Go.Am
end
section
namespace Go.Am
section
variable{t:aD}(d:List Int)(must:List (List Int))(a:Nat)
end
section
variable{t:aD}(ht:TreeOK t){d:List Int}(hD:DOK t d){must:List (List Int)}{P:qE}(hM:MustIs t must P)
include ht hD hM
end
def Srt(l:List Int):Prop:=l.Pairwise (·<=·)
structure SinkI(l out:List Int)(k:Nat):Prop where
 lt:k<out.length
 perm:out.Perm l
 srt:∀i j,i<j->j<out.length->j≠k->i≠k->out.getD i 0<=out.getD j 0
 up:∀j,k<j->j<out.length->out.getD k 0<=out.getD j 0
theorem SinkI.done{l out:List Int}{k:Nat}(h:SinkI l out k)(hd:k=0\/out.getD (k-1) 0<=out.getD k 0):Srt out/\out.Perm l:=by
 refine⟨?_,h.perm⟩;unfold Srt;rw[List.pairwise_iff_getElem];intro i j hi hj hij;rw[<-bN hi 0,<-bN hj 0]
 by_cases hjk:j=k
 ·subst hjk
  rcases hd with h0|h0
  ·omega
  ·by_cases hik:i=j-1
   ·subst hik;exact h0
   ·have:=h.srt i (j-1) (by omega) (by omega) (by omega) (by omega)
    omega
 ·by_cases hik:i=k
  ·subst hik;exact h.up j hij hj
  ·exact h.srt i j hij hj hjk hik
theorem bUz{l:List Int}{i j:Nat}(hi:i<l.length)(hj:j<l.length):((l.set i (l.getD j 0)).set j (l.getD i 0)).Perm l:=by
 rw[bN hi,bN hj]
 by_cases hij:i=j
 ·subst hij;rw[List.set_set];rw[List.set_getElem_self]
 ·exact List.set_set_perm hi hj
theorem SinkI.next{l out:List Int}{k:Nat}(h:SinkI l out k)(hk:0<k)(hlt:out.getD k 0<out.getD (k-1) 0):SinkI l ((out.set k (out.getD (k-1) 0)).set (k-1) (out.getD k 0)) (k-1):=by
 have hkl:=h.lt;have hg:∀j,((out.set k (out.getD (k-1) 0)).set (k-1) (out.getD k 0)).getD j 0=if j=k-1 then out.getD k 0 else if j=k then out.getD (k-1) 0 else out.getD j 0:=by
  intro j;rw[nW (by rw[List.length_set];omega),nW hkl]
 refine⟨by simp;omega,(bUz hkl (by omega)).trans h.perm,λi j hij hj hjk hik=>?_,λj hj1 hj=>?_⟩
 ·simp only[List.length_set] at hj;rw[hg,hg,if_neg hik,if_neg hjk]
  by_cases hi:i=k
  ·subst hi;rw[if_pos rfl,if_neg (by omega)];exact h.srt (i-1) j (by omega) hj (by omega) (by omega)
  ·rw[if_neg hi]
   by_cases hj':j=k
   ·subst hj';rw[if_pos rfl];exact h.srt i (j-1) (by omega) (by omega) (by omega) (by omega)
   ·rw[if_neg hj'];exact h.srt i j hij hj hj' hi
 ·simp only[List.length_set] at hj;rw[hg,hg,if_pos rfl,if_neg (by omega)]
  by_cases hj':j=k
  ·subst hj';rw[if_pos rfl];omega
  ·rw[if_neg hj'];exact h.up j (by omega) hj
theorem SinkI.start{out:List Int}(hs:Srt out)(x:Int):SinkI (out++[x]) (out++[x]) out.length:=by
 unfold Srt at hs;rw[List.pairwise_iff_getElem] at hs;refine⟨by simp,.refl _,λi j hij hj hjk hik=>?_,λj h1 h2=>by simp at h2;omega⟩;simp only[List.length_append,List.length_singleton] at hj;have hj':j<out.length:=by omega
 have hi':i<out.length:=by omega
 rw[bN (by simp;omega),bN (by simp;omega),List.getElem_append_left hi',List.getElem_append_left hj'];exact hs i j hi' hj' hij
end Go.Am
end
section
namespace Go.Am
section
variable{t:aD}{l:List aA}{d:List Int}(hg:Good t l d)
include hg
end
end Go.Am
end
section
namespace Go.Am
section
variable{t:aD}(ht:TreeOK t){d:List Int}(hD:DOK t d){must:List (List Int)}{P:qE}(hM:MustIs t must P){won:List (aB×Int)}(hW:WonIs won P)
include ht hD hM
include hW
end
section
variable{t:aD}{l:List aA}{d:List Int}(hg:Good t l d){must:List (List Int)}(hd:cN t l=some (⟨d,must⟩,true))(hM:MustIs t must (iX d (Res l)))
include hg hM
end
theorem cBs{α:Type}(A:Option Int)(B:Option (aF×Bool))(F:aF->Option α)(z:Int->α){d:aF}(hA:A=some 0)(hB:B=some (d,true)):
  (A.bind λr2=>bif !decide (r2=0) then some (z r2) else(B.bind λr3=>F r3.1))=F d:=by subst hA;subst hB;rfl
end Go.Am
end
section
namespace Go.Am
def bHq(t:aD)(n:Nat):List (Nat×Nat):=(List.range n).flatMap λr:Nat=>(List.range (bX t r)).map λp:Nat=>(r,p)
theorem bSr(t:aD)(n:Nat):bHq t (n+1)=bHq t n++(List.range (bX t n)).map λp:Nat=>(n,p):=aHr _ _
theorem bHr(t:aD):∀n,n<=t.Rounds.toNat->(bHq t n).length+2^(t.Rounds.toNat-n)=2^t.Rounds.toNat
 |0,_=>by simp[bHq]
 | n+1,h=>by
  have ih:=bHr t n (by omega);rw[bSr,List.length_append,List.length_map,List.length_range];unfold bX;have e:t.Rounds.toNat-1-((n:Nat):Int).toNat=t.Rounds.toNat-(n+1):=by simp;omega
  have e2:2^(t.Rounds.toNat-n)=2*2^(t.Rounds.toNat-(n+1)):=by
   have:t.Rounds.toNat-n=(t.Rounds.toNat-(n+1))+1:=by omega
   rw[this,Nat.pow_succ];omega
  rw[e]
  omega
theorem bHt{t:aD}(ht:TreeOK t):(oC t).length+1=t.Slots.length:=by
 have:=bHr t t.Rounds.toNat (Nat.le_refl _);rw[ht.len]
 simpa[bHq,oC] using this
section
variable{t:aD}{l:List aA}{d:List Int}(hg:Good t l d){must:List (List Int)}(hM:MustIs t must (iX d (Res l)))
include hg hM
end
section
variable{t:aD}{l:List aA}{d:List Int}(hg:Good t l d){must:List (List Int)}(hM:MustIs t must (iX d (Res l)))
include hg hM
end
end Go.Am
end
section
namespace Go.Am
theorem aUj(a0:aD)(a1:List aA){r}(h:sX a0 a1=some r)(Q:List aE×Int->Prop)(hq:Q r):wM a0 a1 Q:=bRi a0 a1 h Q hq
theorem aQz(a0:aD)(a1:List aA)(a2 a3:Int){r}(h:vY a0 a1 a2 a3=some r)(Q:Int×Int->Prop)(hq:Q r):uO a0 a1 a2 a3 Q:=bOj a0 a1 a2 a3 h Q hq
theorem aUk(a0:aD)(a1:List aA){r}(h:pU a0 a1=some r)(Q:Int->Prop)(hq:Q r):wN a0 a1 Q:=bRj a0 a1 h Q hq
end Go.Am
end
section
namespace Go.Am
end Go.Am
end
section
namespace Go.Am
end Go.Am
end
section
namespace Go.Am
theorem bKq{t:aD}(ht:TreeOK t)(d:List Int)(must:List (List Int)):(bK t d must).length+1=t.Slots.length:=by
 rw[aNe,List.length_map];exact bHt ht
end Go.Am
end
section
namespace Go.Am
def tJ(must:List (List Int))(b:aE):Bool:=decide (mat must b.Round.toNat b.Place.toNat= -2)&&(decide (0<=b.One)&&decide (0<=b.Two))
def aJf(t:aD)(d:List Int)(must:List (List Int)):List aE:=(bK t d must).filter (tJ must)
theorem bQf{t:aD}(ht:TreeOK t)(d:List Int)(must:List (List Int)):(aJf t d must).length<=32:=by
 have h1:=List.length_filter_le (tJ must) (bK t d must);have h2:=bKq ht d must;have h3:=ht.len32;unfold aJf
 omega
section
variable{t:aD}{l:List aA}{d:List Int}(hg:Good t l d){must:List (List Int)}(hM:MustIs t must (iX d (Res l)))
include hg hM
theorem bUh:gX (bK t d must) ⟨d,must⟩ BIG 0 []=some (aJf t d must,0):=by
 have hil:=bHt hg.ht;have h32:=hg.ht.len32;have hbl:(bK t d must).length=(oC t).length:=by rw[aNe,List.length_map]
 have:=fX (S:=List aE) (λk i out=>gX (bK t d must) ⟨d,must⟩ k i out) (bK t d must).length (λ_ _=>some (aJf t d must,0)) (λi out=>out=((bK t d must).take i).filter (tJ must)) ?_ ?_ BIG [] (cC (by omega)) (by simp)
 ·exact this
 ·rintro k i out hi rfl ih;have hii:i<(oC t).length:=by omega
  have hlt:decide ((i:Int)<((bK t d must).length:Int))=true:=decide_eq_true (by omega);have hb:(bK t d must)[i]=uC d must (oC t)[i]:=by simp only[aNe,List.getElem_map]
  obtain⟨hr,hp⟩:=bWv.1 (List.getElem_mem hii);have ht1:(bK t d must).take (i+1)=(bK t d must).take i++[(bK t d must)[i]]:=List.take_succ_eq_append_getElem hi;have hfl:=List.length_filter_le (tJ must) ((bK t d must).take i);have htl:((bK t d must).take i).length<=i:=by simp;omega
  have hm:=bBn hM hr hp;have hrb:tJ must (uC d must (oC t)[i])=(decide (mat must (oC t)[i].1 (oC t)[i].2= -2)&&(decide (0<=(uC d must (oC t)[i]).One)&&decide (0<=(uC d must (oC t)[i]).Two))):=by
   unfold tJ;simp only[uC,Int.toNat_natCast];rfl
  rw[ht1,hb] at ih;simp only[gX,hlt,cond_true,bE hi,hb,Option.bind_some,cB,bG (show i<9223372036854775807 by omega)];have hmm:((idx must (uC d must (oC t)[i]).Round).bind λx11=>(idx x11 (uC d must (oC t)[i]).Place).bind λx13=>some (decide (x13=(-2))))=some (decide (mat must (oC t)[i].1 (oC t)[i].2= -2)):=by
   have e1:(uC d must (oC t)[i]).Round=((oC t)[i].1:Int):=rfl;have e2:(uC d must (oC t)[i]).Place=((oC t)[i].2:Int):=rfl;rw[e1,e2,<-Option.bind_assoc,hm,Option.bind_some]
  have hcond:(bif (decide (0<=(uC d must (oC t)[i]).One)&&decide (0<=(uC d must (oC t)[i]).Two)) then((idx must (uC d must (oC t)[i]).Round).bind λx11=>(idx x11 (uC d must (oC t)[i]).Place).bind λx13=>some (decide (x13=(-2)))) else(some false))=some (tJ must (uC d must (oC t)[i])):=by
   rw[hmm,cB,hrb]
   congr 1
   exact Bool.and_comm _ _
  rw[hcond,Option.bind_some];cases hrd:tJ must (uC d must (oC t)[i]) with
  | true=>
   rw[cond_true,eL (by simp;omega),Option.bind_some];refine ih _ ?_;rw[List.filter_append];simp[hrd]
  | false=>
   rw[cond_false];refine ih _ ?_;rw[List.filter_append];simp[hrd]
 ·rintro k out rfl;have hlt:decide (((bK t d must).length:Int)<((bK t d must).length:Int))=false:=decide_eq_false (by omega);simp only[gX,hlt,cond_false,aEe,List.take_length]
  rfl
theorem bQh{won:List (aB×Int)}(hW:WonIs won (iX d (Res l))){o:Option aU}(ho:o=some ⟨t,d,won⟩):jA (S:=List aE) ⟨t,d,won⟩ (λs7 x8 x9=>o.bind λx12=>
  (bif !(cI x8 x12.won) then(some (decide (0<=(min x9.One x9.Two)))) else(some false)).bind λb13=>bif b13 then((app 32 s7 ([x9])).bind λx14=>some x14) else(some s7)) []=some (aJf t d must):=by
 subst ho;refine aZe hg.ht hg.dok hM hW _ (λout=>out.filter (tJ must)) (λ_=>True) λout r p hr hp hl=>?_;have hfl:=List.length_filter_le (tJ must) out;have hh:=aWe hW hM hr hp;have hmin:decide (0<=min (jN d must r (2*p)) (jN d must r (2*p+1)))=(decide (0<=jN d must r (2*p))&&decide (0<=jN d must r (2*p+1))):=by
  rw[Bool.eq_iff_iff];simp only[Bool.and_eq_true,decide_eq_true_eq];omega
 have hrb:tJ must ⟨r,p,jN d must r (2*p),jN d must r (2*p+1)⟩=(decide (mat must r p= -2)&&(decide (0<=jN d must r (2*p))&&decide (0<=jN d must r (2*p+1)))):=by
  unfold tJ;simp only[Int.toNat_natCast]
 rw[Option.bind_some,hh,Bool.not_not,hmin,cB,<-hrb,Option.bind_some];cases hrd:tJ must ⟨r,p,jN d must r (2*p),jN d must r (2*p+1)⟩ with
 | true=>
  rw[cond_true,eL (by simp;omega),Option.bind_some]
  simp[hrd]
 |false=>simp[hrd]
end
theorem bCy{t:aD}{l:List aA}{e:Int}(h:Stat t l e):lT t l=some ([],e):=by
 unfold lT;rw[aBw h,Option.bind_some];simp only[h.ne,Bool.not_false,cond_true]
theorem aXf{t:aD}{l:List aA}{d:List Int}(hg:Good t l d){must:List (List Int)}(hd:cN t l=some (⟨d,must⟩,true))(hM:MustIs t must (iX d (Res l))):lT t l=some (aJf t d must,0):=by
 unfold lT;refine(cBs _ _ (λdd=>(lU t dd).bind λr5=>gX r5 dd BIG 0 []) (λr2=>([],r2)) (zP hg) hd).trans ?_;rw[bDc hg.ht hg.dok hM,Option.bind_some];exact bUh hg hM
theorem bRm(t:aD)(l:List aA){r:List aE×Int}(h:lT t l=some r)(Q:List aE×Int->Prop)(hq:Q r):wO t l Q:=by
 unfold wO
 rcases wJ t l with⟨d,hg⟩|⟨e,he⟩
 ·obtain⟨must,hd,hM⟩:=aCa hg;rw[aXf hg hd hM] at h;cases h;refine aKh hg λwon hW=>?_;simp only[decide_true,Bool.not_true,cond_false];exact⟨_,rfl,_,bQh hg hM hW rfl,hq⟩
 ·rw[bCy he] at h;cases h;refine aOo he ?_;simp only[he.ne,Bool.not_false,cond_true];exact hq
end Go.Am
end
section
namespace Go.Am
theorem aUl(a0:aD)(a1:List aA){r}(h:xY a0 a1=some r)(Q:List aE×Int->Prop)(hq:Q r):wO a0 a1 Q:=bRm a0 a1 h Q hq
end Go.Am
end
