/- Several texts, one behind the other. -/
import Derived.Test.YtiohgpipanopaaaGreatTlSh
import Derived.Test.YtiohgpipanopaaaGreatAmPlain
section
namespace Go.Am
theorem aAm{α β:Type}[DecidableEq α](a b:α)(z v:β):∀l:List (α×β),bR b z (eK a v l)=if b=a then v else bR b z l
 |[]=>by by_cases h:b=a<;>simp[eK,bR,h]
 | (k,u)::l=>by
  by_cases h1:a=k
  ·subst h1
   by_cases h2:b=a
   ·simp[eK,bR,h2]
   ·simp[eK,bR,h2]
  ·by_cases h2:b=k
   ·subst h2
    simp[eK,bR,h1,Ne.symm h1]
   ·simp[eK,bR,h1,h2,aAm a b z v l]
def wi(n lo hi:Int):Bool:=decide (lo<=n)&&decide (n<=hi)
theorem gY{n lo hi:Int}:wi n lo hi=true↔lo<=n/\n<=hi:=by simp[wi]
theorem xB(n lo hi:Int):fU n lo hi=some (wi n lo hi):=by simp[fU,cW,wi]
theorem uF(n lo hi:Int):dU n lo hi=some (wi n lo hi):=by simp[dU,cW,wi]
theorem aW{α:Type}{l:List α}{i:Nat}(h:i<l.length)(d:α):l.getD i d=l[i]:=by simp[List.getD,h]
structure TreeOK(t:aF):Prop where
 r1:1<=t.Rounds
 r5:t.Rounds<=5
 len:t.Slots.length=2^t.Rounds.toNat
 rng:∀i (h:i<t.Slots.length),-1<=t.Slots[i]/\t.Slots[i]<=999
 bye:∀j (h:2*j+1<t.Slots.length),t.Slots[2*j]= -1->t.Slots[2*j+1]≠-1
 dup:∀i (h:i<t.Slots.length) k (hk:k<i),t.Slots[k]=t.Slots[i]->t.Slots[i]= -1
theorem TreeOK.len32{t:aF}(h:TreeOK t):t.Slots.length<=32:=by
 rw[h.len];have h1:=h.r1;have h5:=h.r5;have:t.Rounds.toNat<=5:=by omega
 exact Nat.pow_le_pow_right (by omega) this
theorem bUa:∀i:Fin 32,aSn ((i.val:Nat):Int) 1=((if i.val % 2=0 then i.val+1 else i.val-1:Nat):Int):=by decide+kernel
theorem bLn:∀r:Fin 6,w64 (1*2^(min r.val 64))=((2^r.val:Nat):Int):=by decide+kernel
theorem aAp{n:Int}(h0:0<=n)(h:n<=9223372036854775807):IntKind.u64.wrap n=n:=by
 simp[IntKind.wrap,IntKind.signed,IntKind.bits]
 omega
def pN(t:aF):Bool:=wi t.Rounds 1 5&&decide (t.Slots.length=2^t.Rounds.toNat)
theorem bPa{t:aF}(h:wi t.Rounds 1 5=true):w64 (1*2^(min t.Rounds.toNat 64))=((2^t.Rounds.toNat:Nat):Int):=by
 rw[gY] at h;have:=bLn ⟨t.Rounds.toNat,by omega⟩
 simpa using this
def aMa(S:List Int)(i:Nat):Bool:=
 if S.getD i 0= -1 then !decide (S.getD (if i % 2=0 then i+1 else i-1) 0= -1) else !decide (S.getD i 0∈S.take i)&&wi (S.getD i 0) 0 999
def aMb(S:List Int)(i:Nat):Bool:=
 wi (S.getD i 0) (-1) 999&&!(decide (i % 2=1)&&decide (S.getD i 0= -1)&&decide (S.getD (i-1) 0= -1))&&((List.range i).all λk=>!(decide (S.getD k 0=S.getD i 0)&&!decide (S.getD i 0= -1)))
theorem aMu{t:aF}(h:pN t=true):t.Slots.length<=32/\t.Slots.length % 2=0:=by
 simp only[pN,Bool.and_eq_true,gY,decide_eq_true_eq] at h;obtain⟨⟨h1,h2⟩,h3⟩:=h;have key:∀r:Fin 6,1<=r.val->2^r.val<=32/\2^r.val % 2=0:=by decide+kernel
 have:=key ⟨t.Rounds.toNat,by omega⟩ (by simp;omega);rw[h3];exact this
theorem bRt(t:aF):qR t=some (pN t&&(List.range t.Slots.length).all (aMa t.Slots)):=by
 unfold qR;rw[xB];cases hw:wi t.Rounds 1 5 with
 |false=>simp[pN,hw]
 | true =>
  have hr:=gY.1 hw;have hch:chk (decide (0<=t.Rounds))=some ():=by unfold chk;rw[decide_eq_true (by omega)];rfl
  simp only[Option.bind_some,Bool.not_true,cond_false,hch,bPa hw]
  by_cases hl:t.Slots.length=2^t.Rounds.toNat
  ·have hsh:pN t=true:=by simp[pN,hw,hl]
   obtain⟨h32,hev⟩:=aMu hsh;have hl':decide ((t.Slots.length:Int)=((2^t.Rounds.toNat:Nat):Int))=true:=decide_eq_true (by rw[hl]);rw[hl',hsh];simp only[Bool.not_true,cond_false,Bool.true_and];have main:=dD (S:=List (Int×Int)) (λk i m=>jV t.Slots t.Slots.length t k i m) t.Slots.length (λi _=>some ((List.range' i (t.Slots.length-i)).all (aMa t.Slots)))
    (λi m=>∀x,x≠-1->bR x 0 m=if x∈t.Slots.take i then 1 else 0) ?_ ?_ BIG [] (bI (by omega)) (by simp[bR])
   ·simpa[List.range_eq_range'] using main
   ·intro k i m hi hI ih;have hx:=bUa ⟨i,by omega⟩;simp only at hx;have e:t.Slots.length-i=(t.Slots.length-(i+1))+1:=by omega
    rw[e,List.range'_succ,List.all_cons];have hm:∀x,x∈t.Slots.take (i+1)↔x∈t.Slots.take i\/x=t.Slots[i]:=by
     intro x;rw[List.take_succ_eq_append_getElem hi,List.mem_append,List.mem_singleton]
    simp only[jV,Int.ofNat_lt,hi,decide_true,cond_true,aY hi,Option.bind_some,aZ (show i<9223372036854775807 by omega),aMa,aW hi]
    by_cases hb:t.Slots[i]= -1
    ·have hj:(if i % 2=0 then i+1 else i-1)<t.Slots.length:=by split<;>omega
     simp only[hb,decide_true,cond_true,hx,if_true,aY hj,Option.bind_some,aW hj]
     by_cases hc:t.Slots[if i % 2=0 then i+1 else i-1]= -1
     ·simp[hc]
     ·simp only[hc,decide_false,cond_false,Bool.not_false,Bool.true_and];refine ih m λx hxn=>?_;rw[hI x hxn];have:(x∈t.Slots.take (i+1))↔(x∈t.Slots.take i):=by
       rw[hm x]
       constructor
       ·rintro(h|h)
        ·exact h
        ·rw[hb] at h;exact absurd h hxn
       ·exact .inl
      simp[this]
    ·have hcnt:=hI t.Slots[i] hb;simp only[hb,decide_false,cond_false,if_false];rw[aAm];simp only[if_true,hcnt]
     by_cases hd:t.Slots[i]∈t.Slots.take i
     ·have:w64 2=2:=by decide+kernel
      simp[hd,this]
     ·have h1:w64 (0+1)=1:=by decide+kernel
      simp only[hd,if_false,h1,xB,Option.bind_some,show decide ((1:Int)<1)=false by decide,cond_false,decide_false,Bool.not_false,Bool.true_and];cases hwi:wi t.Slots[i] 0 999 with
      |false=>simp
      | true=>
       simp only[Bool.not_true,cond_false,Bool.true_and];refine ih _ λx hxn=>?_;rw[aAm,hI x hxn]
       by_cases hxe:x=t.Slots[i]
       ·simp[hxe,hm]
       ·simp[hxe,hm]
   ·intro k m _
    simp[jV,yX]
  ·have hl':decide ((t.Slots.length:Int)=((2^t.Rounds.toNat:Nat):Int))=false:=decide_eq_false (by omega);rw[hl']
   simp[pN,hl]
theorem bRu(t:aF):nG t=some (pN t&&(List.range t.Slots.length).all (aMb t.Slots)):=by
 unfold nG;rw[uF];cases hw:wi t.Rounds 1 5 with
 |false=>simp[pN,hw]
 | true=>
  have hr:=gY.1 hw;have hu:IntKind.u64.wrap t.Rounds=t.Rounds:=aAp (by omega) (by omega);have hch:chk (decide (0<=t.Rounds))=some ():=by unfold chk;rw[decide_eq_true (by omega)];rfl
  simp only[Option.bind_some,Bool.not_true,cond_false,hu,hch,bPa hw]
  by_cases hl:t.Slots.length=2^t.Rounds.toNat
  ·have hsh:pN t=true:=by simp[pN,hw,hl]
   obtain⟨h32,hev⟩:=aMu hsh;have hl':decide ((t.Slots.length:Int)=((2^t.Rounds.toNat:Nat):Int))=true:=decide_eq_true (by rw[hl]);rw[hl',hsh];simp only[Bool.not_true,cond_false,Bool.true_and];have main:=eH (λk i=>gI t k i) t.Slots.length (aMb t.Slots) (some false) (some true) ?_ ?_ BIG (bI (by omega))
   ·rw[main];cases(List.range t.Slots.length).all (aMb t.Slots)<;>rfl
   ·intro k i hi;have hin:∀ag:Int->Option Bool,gJ ag i t BIG 0=bif (List.range i).all λk=>!(decide (t.Slots.getD k 0=t.Slots.getD i 0)&&!decide (t.Slots.getD i 0= -1)) then ag ((i+1:Nat):Int) else some false:=by
     intro ag;refine eH (λk j=>gJ ag i t k j) i _ (some false) (ag ((i+1:Nat):Int)) ?_ ?_ BIG (bI (by omega))
     ·intro k j hj;have hj':j<t.Slots.length:=by omega
      simp only[gJ,Int.ofNat_lt,hj,decide_true,cond_true,aY hj',aY hi,Option.bind_some,cW,aZ (show j<9223372036854775807 by omega),aW hj',aW hi];cases(decide (t.Slots[j]=t.Slots[i])&&!decide (t.Slots[i]= -1))<;>simp
     ·intro k
      simp[gJ,vC,vB,aZ (show i<9223372036854775807 by omega)]
    have htm:decide (((i:Nat):Int).tmod 2=1)=decide (i % 2=1):=by
     have:((i:Nat):Int).tmod 2=((i % 2:Nat):Int):=by
      rw[Int.tmod_eq_emod_of_nonneg (by omega)];omega
     rw[this]
     simp
     omega
    simp only[gI,Int.ofNat_lt,hi,decide_true,cond_true,aY hi,Option.bind_some,uF,htm,cW,hin,aMb,aW hi];cases hwi:wi t.Slots[i] (-1) 999 with
    |false=>simp
    | true=>
     by_cases ho:i % 2=1
     ·have hp:i-1<t.Slots.length:=by omega
      have hwp:w64 ((i:Int)-1)=((i-1:Nat):Int):=rN (by omega) (by omega);simp only[ho,decide_true,Bool.true_and,hwp,aY hp,Option.bind_some,cW,Bool.not_true,cond_false,aW hp];cases(decide (t.Slots[i]= -1)&&decide (t.Slots[i-1]= -1))<;>simp
     ·simp[ho]
   ·intro k
    simp[gI,uZ]
  ·have hl':decide ((t.Slots.length:Int)=((2^t.Rounds.toNat:Nat):Int))=false:=decide_eq_false (by omega);rw[hl']
   simp[pN,hl]
theorem aAs(l:List Int)(hl:l.length<=9223372036854775807)(v:Int):fJ l v=some (match l.findIdx? (λx=>decide (v=x)) with|some i=>(i:Int)|none=> -1):=by
 unfold fJ;rw[dD (S:=Unit) (λk i _=>fH l v l.length k i) l.length (λi _=>some (match(l.drop i).findIdx? (λx=>decide (v=x)) with|some j=>((i+j:Nat):Int)|none=> -1)) (λ_ _=>True) ?_ ?_ BIG () (bI hl) trivial]
 ·simp
 ·intro k i _ hi _ ih;have:=ih () trivial;simp only[fH,aY hi,Option.bind_some,aZ (show i<9223372036854775807 by omega),Int.ofNat_lt,hi,decide_true,cond_true,this];rw[List.drop_eq_getElem_cons hi,List.findIdx?_cons]
  by_cases h:v=l[i]
  ·simp[h]
  ·simp only[h,decide_false,cond_false,Bool.false_eq_true,if_false];cases List.findIdx? (λx=>decide (v=x)) (List.drop (i+1) l) with
   |none=>rfl
   |some j=>simp;omega
 ·intro k _ _
  simp[fH,rT]
theorem fD(l:List Int)(hl:l.length<=9223372036854775807)(v:Int):cN l v=some (decide (v∈l)):=by
 unfold cN;rw[aAs l hl v];cases h:List.findIdx? (λx=>decide (v=x)) l with
 | none=>
  simp at h
  have:v∉l:=λhm=>h v hm rfl
  simp[this]
 | some j=>
  have:v∈l:=by
   obtain⟨h1,h2,_⟩:=List.findIdx?_eq_some_iff_getElem.1 h
   simp at h2
   rw[h2];exact List.getElem_mem h1
  simp[this]
theorem uP(l:List aB)(hl:l.length<=9223372036854775807)(f:aB->Option Bool)(g:aB->Bool)(hf:∀x∈l,f x=some (g x)):iM l f=some (l.any g):=by
 have key:kG l f=some (match l.findIdx? g with|some i=>(i:Int)|none=> -1):=by
  unfold kG;rw[dD (S:=Unit) (λk i _=>eT l f l.length k i) l.length (λi _=>some (match(l.drop i).findIdx? g with|some j=>((i+j:Nat):Int)|none=> -1)) (λ_ _=>True) ?_ ?_ BIG () (bI hl) trivial]
  ·simp
  ·intro k i _ hi _ ih;have:=ih () trivial;simp only[eT,aY hi,Option.bind_some,aZ (show i<9223372036854775807 by omega),Int.ofNat_lt,hi,decide_true,cond_true,this,hf _ (List.getElem_mem hi)];rw[List.drop_eq_getElem_cons hi,List.findIdx?_cons];cases h:g l[i] with
   |true=>simp
   | false=>
    simp only[cond_false,Bool.false_eq_true,if_false];cases List.findIdx? g (List.drop (i+1) l) with
    |none=>rfl
    |some j=>simp;omega
  ·intro k _ _
   simp[eT,oO]
 unfold iM;rw[key];cases h:List.findIdx? g l with
 | none=>
  simp at h
  have:l.any g=false:=by simpa using h
  simp[this]
 | some j=>
  have:l.any g=true:=by
   obtain⟨h1,h2,_⟩:=List.findIdx?_eq_some_iff_getElem.1 h;simp only[List.any_eq_true];exact⟨_,List.getElem_mem h1,h2⟩
  simp[this]
end Go.Am
end
section
namespace Go.Am
structure aFy(S:List Int):Prop where
 rng:∀i (h:i<S.length),-1<=S[i]/\S[i]<=999
 bye:∀j (h:2*j+1<S.length),S[2*j]= -1->S[2*j+1]≠-1
 dup:∀i (h:i<S.length) k (hk:k<i),S[k]=S[i]->S[i]= -1
theorem aSm{S:List Int}(hev:S.length % 2=0):(List.range S.length).all (aMa S)=true↔aFy S:=by
 rw[dL]
 constructor
 ·intro h;have hd:∀i (hi:i<S.length),(if S[i]= -1 then !decide (S.getD (if i % 2=0 then i+1 else i-1) 0= -1) else !decide (S[i]∈S.take i)&&wi S[i] 0 999)=true:=by
   intro i hi;have:=h i hi
   simpa only[aMa,aW hi] using this
  refine⟨λi hi=>?_,λj hj hb=>?_,λi hi k hk he=>?_⟩
  ·have:=hd i hi;split at this
   ·rename_i hb;omega
   ·rw[Bool.and_eq_true,gY] at this;omega
  ·have:=hd (2*j) (by omega);rw[if_pos hb,if_pos (by omega),aW hj] at this
   simpa using this
  ·have:=hd i hi
   by_cases hb:S[i]= -1
   ·exact hb
   ·rw[if_neg hb,Bool.and_eq_true] at this;have hm:S[i]∈S.take i:=by
     rw[<-he,List.mem_take_iff_getElem];exact⟨k,by omega,rfl⟩
    simp[hm] at this
 ·intro h i hi;simp only[aMa,aW hi]
  by_cases hb:S[i]= -1
  ·rw[if_pos hb]
   by_cases he:i % 2=0
   ·rw[if_pos he];obtain⟨j,rfl⟩:∃j,i=2*j:=⟨i/2,by omega⟩;rw[aW (by omega)];have:=h.bye j (by omega) hb
    simpa using this
   ·rw[if_neg he];obtain⟨j,rfl⟩:∃j,i=2*j+1:=⟨i/2,by omega⟩;have e:2*j+1-1=2*j:=by omega
    rw[e,aW (by omega)];have:=h.bye j hi;simp only[Bool.not_eq_true',decide_eq_false_iff_not];intro hc;exact this hc hb
  ·rw[if_neg hb,Bool.and_eq_true,gY];refine⟨?_,?_⟩
   ·simp only[Bool.not_eq_true',decide_eq_false_iff_not];intro hm;rw[List.mem_take_iff_getElem] at hm;obtain⟨k,hk,he⟩:=hm;exact hb (h.dup i hi k (by omega) he)
   ·have:=h.rng i hi;omega
theorem bQk{S:List Int}(hev:S.length % 2=0):(List.range S.length).all (aMb S)=true↔aFy S:=by
 rw[dL]
 constructor
 ·intro h;have hd:∀i (hi:i<S.length),(wi S[i] (-1) 999=true/\¬(i % 2=1/\S[i]= -1/\S.getD (i-1) 0= -1))/\∀k,k<i->¬(S.getD k 0=S[i]/\S[i]≠-1):=by
   intro i hi;have:=h i hi;simp only[aMb,aW hi,Bool.and_eq_true,dL,Bool.not_eq_true',Bool.and_eq_false_iff,decide_eq_false_iff_not,Bool.not_eq_false',decide_eq_true_eq] at this;refine⟨⟨this.1.1,λ⟨a,b,c⟩=>?_⟩,λk hk ⟨a,b⟩=>?_⟩
   ·rcases this.1.2 with(h1|h1)|h1
    ·exact h1 a
    ·exact h1 b
    ·exact h1 c
   ·rcases this.2 k hk with h1|h1
    ·exact h1 a
    ·exact b h1
  refine⟨λi hi=>gY.1 (hd i hi).1.1,λj hj hb hc=>?_,λi hi k hk he=>?_⟩
  ·refine(hd (2*j+1) hj).1.2 ⟨by omega,hc,?_⟩;have e:2*j+1-1=2*j:=by omega
   rw[e,aW (by omega)];exact hb
  ·have:=(hd i hi).2 k hk;rw[aW (by omega)] at this
   by_cases hb:S[i]= -1
   ·exact hb
   ·exact absurd ⟨he,hb⟩ this
 ·intro h i hi;simp only[aMb,aW hi,Bool.and_eq_true,dL,Bool.not_eq_true',Bool.and_eq_false_iff,decide_eq_false_iff_not,Bool.not_eq_false',decide_eq_true_eq];refine⟨⟨gY.2 (h.rng i hi),?_⟩,λk hk=>?_⟩
  ·by_cases ho:i % 2=1
   ·obtain⟨j,rfl⟩:∃j,i=2*j+1:=⟨i/2,by omega⟩;have e:2*j+1-1=2*j:=by omega
    rw[e,aW (by omega)]
    by_cases hc:S[2*j]= -1
    ·exact .inl (.inr (h.bye j hi hc))
    ·exact .inr hc
   ·exact .inl (.inl ho)
  ·rw[aW (by omega)]
   by_cases he:S[k]=S[i]
   ·exact .inr (h.dup i hi k hk he)
   ·exact .inl he
def rV(t:aF):Bool:=pN t&&(List.range t.Slots.length).all (aMa t.Slots)
theorem bAk(t:aF):qR t=some (rV t):=bRt t
theorem aZf(t:aF):nG t=some (rV t):=by
 rw[bRu,rV];cases hs:pN t with
 |false=>rfl
 | true=>
  obtain⟨_,hev⟩:=aMu hs
  congr 1
  rw[Bool.true_and,Bool.true_and,Bool.eq_iff_iff,aSm hev,bQk hev]
theorem oU{t:aF}(h:rV t=true):TreeOK t:=by
 rw[rV,Bool.and_eq_true] at h;obtain⟨hs,ha⟩:=h;obtain⟨_,hev⟩:=aMu hs;obtain⟨h1,h2,h3⟩:=(aSm hev).1 ha;simp only[pN,Bool.and_eq_true,gY,decide_eq_true_eq] at hs;exact⟨hs.1.1,hs.1.2,hs.2,h1,h2,h3⟩
def bS(t:aF)(r:Int):Nat:=2^(t.Rounds.toNat-1-r.toNat)
def kS(t:aF)(r p:Int):Bool:=wi r 0 (t.Rounds-1)&&wi p 0 (bS t r-1)
def gR(t:aF)(s:aB):Bool:=
 wi s.Player 0 999&&(if s.Kind=5 then decide (s.Round=0)&&wi s.Place 0 (t.Slots.length-1)&&wi s.Old 0 999
  else wi s.Kind 1 4&&kS t s.Round s.Place&&decide (s.Old=0)&&(decide (0<s.Round)||!decide (t.Slots.getD (2*s.Place).toNat 0= -1)&&!decide (t.Slots.getD (2*s.Place+1).toNat 0= -1)))
theorem bWp:∀R:Fin 6,∀r:Fin 6,r.val<R.val->((2^R.val:Nat):Int).fdiv (2^(min (r.val+1) 64))=((2^(R.val-1-r.val):Nat):Int):=by decide+kernel
theorem bLk:∀n:Fin 6,w64 (1*2^(min n.val 64))=((2^n.val:Nat):Int):=by decide+kernel
section
variable{t:aF}(ht:TreeOK t)
include ht
theorem bVs:(t.Slots.length:Int)=((2^t.Rounds.toNat:Nat):Int):=by rw[ht.len]
theorem bJe{r:Int}(h0:0<=r)(h1:r<t.Rounds):(t.Slots.length:Int).fdiv (2^(min (w64 (r+1)).toNat 64))=((bS t r:Nat):Int):=by
 have h5:=ht.r5;have hw:w64 (r+1)=r+1:=cD (by omega) (by omega);have:=bWp ⟨t.Rounds.toNat,by omega⟩ ⟨r.toNat,by omega⟩ (by simp;omega);rw[hw,bVs ht];have e:(r+1).toNat=r.toNat+1:=by omega
 rw[e];exact this
theorem qP{r:Int}:bS t r<=16:=by
 have h5:=ht.r5;have:t.Rounds.toNat-1-r.toNat<=4:=by omega
 exact Nat.pow_le_pow_right (by omega) this
omit ht in
theorem aWi{t:aF}{r:Int}:1<=bS t r:=Nat.one_le_two_pow
theorem bUi(r p:Int):oD ⟨r,p⟩ t=some (kS t r p):=by
 have h1:=ht.r1;have h5:=ht.r5;have hw:w64 (t.Rounds-1)=t.Rounds-1:=cD (by omega) (by omega);unfold oD;simp only[xB,hw,Option.bind_some,kS];cases hr:wi r 0 (t.Rounds-1) with
 |false=>simp
 | true=>
  have hr':=gY.1 hr;have hch:chk (decide (0<=w64 (r+1)))=some ():=by
   rw[cD (by omega) (by omega)];unfold chk;rw[decide_eq_true (by omega)];rfl
  have hpl:=qP ht (r:=r);have hpp:=aWi (t:=t) (r:=r);have hw2:w64 ((bS t r:Int)-1)=(bS t r:Int)-1:=cD (by omega) (by omega);simp only[hch,Option.bind_some,cond_true,bJe ht hr'.1 (by omega),hw2,Bool.true_and]
theorem aIa{r:Int}(h0:0<=r)(h1:r<t.Rounds):jW t r=some ((bS t r:Nat):Int):=by
 have h5:=ht.r5;have hw:w64 (t.Rounds-1)=t.Rounds-1:=cD (by omega) (by omega);have hw2:w64 (t.Rounds-1-r)=t.Rounds-1-r:=cD (by omega) (by omega);have hu:IntKind.u64.wrap (t.Rounds-1-r)=t.Rounds-1-r:=aAp (by omega) (by omega);have hch:chk (decide (0<=t.Rounds-1-r))=some ():=by unfold chk;rw[decide_eq_true (by omega)];rfl
 unfold jW;simp only[hw,hw2,hu,hch,Option.bind_some];have:=bLk ⟨(t.Rounds-1-r).toNat,by omega⟩;simp only at this;rw[this];unfold bS;have e:(t.Rounds-1-r).toNat=t.Rounds.toNat-1-r.toNat:=by omega
 rw[e]
theorem aUg(r p:Int):lV t r p=some (kS t r p):=by
 have h1:=ht.r1;have h5:=ht.r5;have hw:w64 (t.Rounds-1)=t.Rounds-1:=cD (by omega) (by omega);unfold lV;simp only[uF,hw,Option.bind_some,kS];cases hr:wi r 0 (t.Rounds-1) with
 |false=>simp
 | true=>
  have hr':=gY.1 hr;have hpl:=qP ht (r:=r);have hpp:=aWi (t:=t) (r:=r);have hw2:w64 ((bS t r:Int)-1)=(bS t r:Int)-1:=cD (by omega) (by omega);simp only[cond_true,aIa ht hr'.1 (by omega),Option.bind_some,hw2,Bool.true_and]
theorem aRu{p:Int}(h:kS t 0 p=true):0<=p/\(2*p+1).toNat<t.Slots.length/\p<=15:=by
 simp only[kS,Bool.and_eq_true,gY] at h;have hl:=ht.len;have h1:=ht.r1;have hpl:=qP ht (r:=0);have e:2^t.Rounds.toNat=2*bS t 0:=by
  unfold bS;have:t.Rounds.toNat=(t.Rounds.toNat-1-(0:Int).toNat)+1:=by simp;omega
  rw[this,Nat.pow_succ]
  simp
  omega
 omega
theorem aPe(s:aB):tM t s=some (gR t s):=by
 have h32:=ht.len32;have hw:w64 ((t.Slots.length:Int)-1)=(t.Slots.length:Int)-1:=cD (by omega) (by omega);unfold tM gR;simp only[xB,Option.bind_some,hw];cases hp:wi s.Player 0 999 with
 |false=>simp
 | true =>
  by_cases hk:s.Kind=5
  ·simp only[hk,decide_true,cond_true,if_true,Bool.not_true,cond_false,Bool.true_and,cW,Option.bind_some]
  ·simp only[hk,decide_false,cond_false,if_false,Bool.not_true,Bool.true_and,dJ,Option.bind_some,bUi ht];cases wi s.Kind 1 4 with
   |false=>simp
   | true =>
    by_cases ho:s.Old=0
    ·simp only[ho,decide_true,Bool.not_true,Bool.or_false,cond_false,Option.bind_some,Bool.true_and,Bool.and_true];cases hm:kS t s.Round s.Place with
     |false=>simp
     | true=>
      simp only[Bool.not_true,cond_false,Bool.true_and]
      by_cases hr:0<s.Round
      ·simp[hr]
      ·have hm0:s.Round=0:=by
        simp only[kS,Bool.and_eq_true,gY] at hm
        omega
       rw [hm0] at hm;obtain⟨p0,p1,p2⟩:=aRu ht hm;have e1:w64 (2*s.Place)=2*s.Place:=cD (by omega) (by omega);have e2:w64 (2*s.Place+2)=2*s.Place+2:=cD (by omega) (by omega);have hsub:sub t.Slots (2*s.Place) (2*s.Place+2)=some [t.Slots.getD (2*s.Place).toNat 0,t.Slots.getD (2*s.Place+1).toNat 0]:=by
        obtain⟨q,hq⟩:∃q:Nat,s.Place=q:=⟨s.Place.toNat,by omega⟩;rw[hq] at p1|-;have a1:2*q+1<t.Slots.length:=by omega
        have b1:(2*(q:Int)).toNat=2*q:=by omega
        have b2:(2*(q:Int)+1).toNat=2*q+1:=by omega
        have b3:(2*(q:Int)+2).toNat=2*q+2:=by omega
        rw[b1,b2,aW (by omega),aW a1];unfold sub;rw[if_pos ⟨by omega,by omega,by omega⟩,b1,b3]
        congr 1
        apply List.ext_getElem
        ·simp;omega
        ·intro i h1 h2
         simp at h2
         have:i=0\/i=1:=by omega
         rcases this with rfl|rfl<;>simp
       simp only[hr,decide_false,cond_false,Bool.false_or,e1,e2,hsub,Option.bind_some];have hc:∀a b:Int,cN [a,b] (-1)=some (decide (a= -1)||decide (b= -1)):=by
        intro a b;rw[fD [a,b] (show(2:Nat)<=9223372036854775807 by omega)]
        congr 1
        rw[Bool.eq_iff_iff];simp only[decide_eq_true_eq,List.mem_cons,List.not_mem_nil,or_false,Bool.or_eq_true];exact⟨λh=>h.imp Eq.symm Eq.symm,λh=>h.imp Eq.symm Eq.symm⟩
       rw[hc];cases decide (t.Slots.getD (2*s.Place).toNat 0= -1)<;>cases decide (t.Slots.getD (2*s.Place+1).toNat 0= -1)<;>rfl
    ·simp[ho]
theorem bKw(s:aB):qI t s=some (gR t s):=by
 have h32:=ht.len32;have hw:w64 ((t.Slots.length:Int)-1)=(t.Slots.length:Int)-1:=cD (by omega) (by omega);unfold qI gR;simp only[uF,Option.bind_some,hw];cases hp:wi s.Player 0 999 with
 |false=>simp
 | true =>
  by_cases hk:s.Kind=5
  ·simp only[hk,decide_true,cond_true,if_true,Bool.not_true,cond_false,Bool.true_and,cW,Option.bind_some]
  ·simp only[hk,decide_false,cond_false,if_false,Bool.not_true,Bool.true_and,dJ,Option.bind_some,aUg ht];cases wi s.Kind 1 4 with
   |false=>simp
   | true=>
    cases hm:kS t s.Round s.Place with
    |false=>simp
    | true=>
     by_cases ho:s.Old=0
     ·simp only[ho,decide_true,Bool.not_true,Bool.or_false,cond_false,Option.bind_some,Bool.true_and,Bool.and_true]
      by_cases hr:0<s.Round
      ·simp[hr]
      ·have hm0:s.Round=0:=by
        simp only[kS,Bool.and_eq_true,gY] at hm
        omega
       rw[hm0] at hm;obtain⟨p0,p1,p2⟩:=aRu ht hm;have e1:w64 (2*s.Place)=2*s.Place:=cD (by omega) (by omega);have e2:w64 (2*s.Place+1)=2*s.Place+1:=cD (by omega) (by omega);have i1:idx t.Slots (2*s.Place)=some (t.Slots.getD (2*s.Place).toNat 0):=by
        rw[pW (by omega) (by omega),aW (by omega)]
       have i2:idx t.Slots (2*s.Place+1)=some (t.Slots.getD (2*s.Place+1).toNat 0):=by
        rw[pW (by omega) p1,aW p1]
       simp only[hr,decide_false,cond_false,Bool.false_or,e1,e2,i1,i2,Option.bind_some,cW]
     ·simp[ho]
end
end Go.Am
end
section
namespace Go.Am
def rF(out:List aB)(x:aB):List aB:=if x∈out then out else out++[x]
def bP(l:List aB):List aB:=l.foldl rF []
theorem aPq(l:List aB):∀out,out.Nodup->(l.foldl rF out).Nodup/\(∀x,x∈l.foldl rF out↔x∈out\/x∈l)/\(l.foldl rF out).length<=out.length+l.length:=by
 induction l with
 |nil=>intro out h;exact⟨h,by simp,by simp⟩
 | cons a l ih=>
  intro out h;have hs:(rF out a).Nodup/\(∀x,x∈rF out a↔x∈out\/x=a)/\(rF out a).length<=out.length+1:=by
   unfold rF
   split
   ·rename_i hm
    exact⟨h,λx=>⟨.inl,λh=>h.elim id λe=>e▸hm⟩,by omega⟩
   ·rename_i hm
    refine⟨List.nodup_append.2 ⟨h,by simp,λx hx y hy=>?_⟩,by simp,by simp⟩
    simp at hy;subst hy;exactλe=>hm (e▸hx)
  obtain⟨h1,h2,h3⟩:=ih _ hs.1;refine⟨h1,λx=>?_,?_⟩
  ·rw[List.foldl_cons,h2,hs.2.1,List.mem_cons,or_assoc]
  ·rw[List.foldl_cons];simp only[List.length_cons];omega
theorem aJl(l:List aB):(bP l).Nodup:=(aPq l [] List.nodup_nil).1
theorem qO(l:List aB)(x:aB):x∈bP l↔x∈l:=by
 have:=(aPq l [] List.nodup_nil).2.1 x
 simpa[bP] using this
theorem aEe(l:List aB):(bP l).length<=l.length:=by
 have:=(aPq l [] List.nodup_nil).2.2
 simpa[bP] using this
theorem bIu(l:List aB)(hl:l.length<=1000):pT l=some (bP l):=by
 unfold pT;have main:=dD (S:=List aB) (λk i out=>eM l k i out) l.length (λi out=>some ((l.drop i).foldl rF out)) (λi out=>out.length<=i) ?_ ?_ BIG [] (bI (by omega)) (by simp)
 ·simpa[bP] using main
 ·intro k i out hi hI ih;have hin:iV (eM l k) l i out BIG false 0=pB (eM l k) l i (decide (l[i]∈out)) out:=by
   have h:=dD (S:=Bool) (λq j tw=>iV (eM l k) l i out q tw j) out.length (λj tw=>pB (eM l k) l i (tw||decide (l[i]∈out.drop j)) out) (λ_ _=>True) ?_ ?_ BIG false (bI (by omega)) trivial
   ·simpa using h
   ·intro q j tw hj _ ih2;have e:out.drop j=out[j]::out.drop (j+1):=List.drop_eq_getElem_cons hj;simp only[iV,Int.ofNat_lt,hj,decide_true,cond_true,aY hj,aY hi,Option.bind_some,dJ,aZ (show j<9223372036854775807 by omega),ih2 _ trivial]
    congr 1
    rw[e]
    by_cases h1:out[j]=l[i]
    ·simp[h1]
    ·rw[<-e];have:l[i]∈out.drop j↔l[i]∈out.drop (j+1):=by
      rw[e,List.mem_cons];exact⟨λh=>h.resolve_left λe=>h1 e.symm,.inr⟩
     simp[h1,this]
   ·intro q tw _
    simp[iV]
  have e:l.drop i=l[i]::l.drop (i+1):=List.drop_eq_getElem_cons hi;simp only[eM,Int.ofNat_lt,hi,decide_true,cond_true,hin];unfold pB;rw[e,List.foldl_cons]
  by_cases hm:l[i]∈out
  ·simp only[hm,decide_true,Bool.not_true,cond_false,mB,aZ (show i<9223372036854775807 by omega)];rw[ih out (by omega),rF,if_pos hm]
  ·simp only[hm,decide_false,Bool.not_false,cond_true,mB,aZ (show i<9223372036854775807 by omega),aY hi,Option.bind_some];rw[eE (by simp;omega),Option.bind_some,ih _ (by simp;omega),rF,if_neg hm]
 ·intro k out _
  simp[eM,xN]
def isL(s:aB):Bool:=decide (s.Kind=5)
def dF(l:List aB):List aB:=(bP l).filter isL
structure LA(pre:List aB)(lucky:List (aB×Int))(about:List (aA×aB)):Prop where
 lm:∀s,s∈lucky.map (·.1)↔s∈pre/\s.Kind=5
 ln:(lucky.map (·.1)).Nodup
 am:∀m s,(m,s)∈about↔(s∈pre/\s.Kind≠5/\m=⟨s.Round,s.Place⟩)
 an:(about.map (·.1)).Nodup
theorem aPj{α β:Type}[DecidableEq α](a:α)(v:β):∀l:List (α×β),(eK a v l).map (·.1)=if a∈l.map (·.1) then l.map (·.1) else l.map (·.1)++[a]
 |[]=>by simp[eK]
 | (k,u)::l=>by
  by_cases h:a=k
  ·subst h;simp[eK]
  ·have:=aPj a v l;simp only[eK,h,decide_false,cond_false,List.map_cons,this,List.mem_cons,false_or]
   split<;>simp
theorem aHa{α β:Type}[DecidableEq α](a:α):∀l:List (α×β),eB a l=decide (a∈l.map (·.1))
 |[]=>by simp[eB]
 | (k,u)::l=>by
  simp only[eB,aHa a l,List.map_cons,List.mem_cons]
  by_cases h:a=k<;>simp[h]
theorem aTo{α β:Type}[DecidableEq α]{a:α}{v z:β}:∀{l:List (α×β)},(l.map (·.1)).Nodup->(a,v)∈l->bR a z l=v
 | (k,u)::l,hn,hm=>by
  rw[List.map_cons,List.nodup_cons] at hn
  rcases List.mem_cons.1 hm with h|h
  ·cases h;simp[bR]
  ·have hne:a≠k:=λe=>hn.1 (e▸List.mem_map.2 ⟨_,h,rfl⟩);simp only[bR,hne,decide_false,cond_false];exact aTo hn.2 h
theorem bAp{α β:Type}[DecidableEq α]{a:α}{v:β}{l:List (α×β)}(h:a∉l.map (·.1)):eK a v l=l++[(a,v)]:=
 aTp a v l (by rw[aHa];simpa using h)
theorem aPk{α β:Type}[DecidableEq α]{a:α}{v:β}:∀{l:List (α×β)},(l.map (·.1)).Nodup->(a,v)∈l->eK a v l=l
 | (k,u)::l,hn,hm=>by
  rw[List.map_cons,List.nodup_cons] at hn
  rcases List.mem_cons.1 hm with h|h
  ·cases h;simp[eK]
  ·have hne:a≠k:=λe=>hn.1 (e▸List.mem_map.2 ⟨_,h,rfl⟩);simp only[eK,hne,decide_false,cond_false];rw[aPk hn.2 h]
def aQl(l:List aB):Prop:=∀x∈l,∀y∈l,x.Kind≠5->y.Kind≠5->x.Round=y.Round->x.Place=y.Place->x=y
theorem bKg{l:List aB}(hl:l.length<=1000){Q:(Option aP×Bool)->Prop}{pl:List Int}{won:List (aA×Int)}{t:aF}
  (hbad:¬aQl l->Q (none,false))(hgood:aQl l->∀lucky about,LA l lucky about->uR Q pl won t lucky about):jB Q l l.length pl won t BIG 0 [] []:=by
 refine iZ (S:=List (aB×Int)×List (aA×aB)) (λk i s=>jB Q l l.length pl won t k i s.1 s.2) l.length (λp=>p) (λi s=>LA (l.take i) s.1 s.2/\aQl (l.take i)) ?_ ?_ BIG 0 ([],[]) (bI (by omega)) ?_
 ·rintro k i ⟨lucky,about⟩ hi ⟨⟨h1,h2,h3,h4⟩,hno⟩ ih;have ht:∀x,x∈l.take (i+1)↔x∈l.take i\/x=l[i]:=λx=>by
   rw[List.take_succ_eq_append_getElem hi,List.mem_append,List.mem_singleton]
  have hmi:l[i]∈l.take (i+1):=(ht _).2 (.inr rfl);simp only[jB,Int.ofNat_lt,hi,decide_true,cond_true,aY hi,aZ (show i<9223372036854775807 by omega)];refine⟨_,rfl,?_⟩
  by_cases hk:l[i].Kind=5
  ·simp only[hk,decide_true,cond_true];refine ih (_,_) ⟨⟨λs=>?_,?_,λm s=>?_,h4⟩,λx hx y hy kx ky=>?_⟩
   ·rw [aPj]
    split
    ·rename_i hm
     rw[h1,ht]
     constructor
     ·rintro⟨a,b⟩;exact⟨.inl a,b⟩
     ·rintro⟨a|a,b⟩
      ·exact⟨a,b⟩
      ·exact(h1 s).1 (a▸hm)
    ·rw[List.mem_append,List.mem_singleton,h1,ht]
     constructor
     ·rintro(⟨a,b⟩|rfl)
      ·exact⟨.inl a,b⟩
      ·exact⟨.inr rfl,hk⟩
     ·rintro⟨a|a,b⟩
      ·exact .inl ⟨a,b⟩
      ·exact .inr a
   ·rw[aPj]
    split
    ·exact h2
    ·rename_i hm
     exact List.nodup_append.2 ⟨h2,by simp,λx hx y hy=>by simp at hy;subst hy;exactλe=>hm (e▸hx)⟩
   ·rw[h3,ht]
    constructor
    ·rintro⟨a,b⟩;exact⟨.inl a,b⟩
    ·rintro⟨a|a,b,c⟩
     ·exact⟨a,b,c⟩
     ·exact absurd (a▸hk) b
   ·have hx':x∈l.take i:=((ht x).1 hx).resolve_right λe=>kx (e▸hk);have hy':y∈l.take i:=((ht y).1 hy).resolve_right λe=>ky (e▸hk);exact hno x hx' y hy' kx ky
  ·simp only[hk,decide_false,cond_false]
   by_cases hm:(⟨l[i].Round,l[i].Place⟩:aA)∈about.map (·.1)
   ·have hhas:eB (⟨l[i].Round,l[i].Place⟩:aA) about=true:=by rw[aHa];simpa using hm
    obtain⟨⟨m0,y⟩,hy,hmy⟩:=List.mem_map.1 hm;simp only at hmy;subst hmy;have hget:=aTo (z:=(⟨0,0,0,0,0⟩:aB)) h4 hy;obtain⟨y1,y2,y3⟩:=(h3 _ _).1 hy;simp only[hhas,cond_true,hget];refine⟨_,rfl,?_⟩
    by_cases he:y=l[i]
    ·simp only[he,decide_true,Bool.not_true,cond_false];rw[aPk h4 (by rw[he] at hy;exact hy)];have hin:∀x,x∈l.take (i+1)↔x∈l.take i:=λx=>by
      rw[ht];exact⟨λh=>h.elim id λe=>by rw[e,<-he];exact y1,.inl⟩
     exact ih (_,_) ⟨⟨λs=>by rw[h1,hin],h2,λm s=>by rw[h3,hin],h4⟩,λx hx y hy=>hno x ((hin x).1 hx) y ((hin y).1 hy)⟩
    ·simp only[he,decide_false,Bool.not_false,cond_true];refine hbad λhN=>he ?_;simp only[aA.mk.injEq] at y3;exact hN y (List.mem_of_mem_take y1) l[i] (List.getElem_mem hi) y2 hk y3.1.symm y3.2.symm
   ·have hhas:eB (⟨l[i].Round,l[i].Place⟩:aA) about=false:=by rw[aHa];simpa using hm
    simp only[hhas,cond_false];refine⟨_,rfl,?_⟩;simp only[cond_false];rw[bAp hm];refine ih (_,_) ⟨⟨λs=>?_,h2,λm s=>?_,?_⟩,λx hx y hy kx ky er ep=>?_⟩
    ·rw[h1,ht]
     constructor
     ·rintro⟨a,b⟩;exact⟨.inl a,b⟩
     ·rintro⟨a|a,b⟩
      ·exact⟨a,b⟩
      ·exact absurd (a▸b) hk
    ·rw[List.mem_append,List.mem_singleton,h3,ht]
     constructor
     ·rintro(⟨a,b,c⟩|h)
      ·exact⟨.inl a,b,c⟩
      ·cases h;exact⟨.inr rfl,hk,rfl⟩
     ·rintro⟨a|a,b,c⟩
      ·exact .inl ⟨a,b,c⟩
      ·subst a;exact .inr (by rw[c])
    ·rw[List.map_append];exact List.nodup_append.2 ⟨h4,by simp,λx hx y hy=>by simp at hy;subst hy;exactλe=>hm (e▸hx)⟩
    ·have fresh:∀z,z∈l.take i->z.Kind≠5->¬(z.Round=l[i].Round/\z.Place=l[i].Place):=by
      rintro z hz kz ⟨e1,e2⟩;refine hm (List.mem_map.2 ⟨(⟨z.Round,z.Place⟩,z),(h3 _ _).2 ⟨hz,kz,rfl⟩,?_⟩);rw[<-e1,<-e2]
     rcases(ht x).1 hx with hx'|rfl
     ·rcases(ht y).1 hy with hy'|rfl
      ·exact hno x hx' y hy' kx ky er ep
      ·exact absurd ⟨er,ep⟩ (fresh x hx' kx)
     ·rcases(ht y).1 hy with hy'|hy'
      ·exact absurd ⟨er.symm,ep.symm⟩ (fresh y hy' ky)
      ·exact hy'.symm
 ·rintro k i ⟨lucky,about⟩ hi ⟨hL,hno⟩;have hlt:decide ((i:Int)<(l.length:Int))=false:=decide_eq_false (by omega);have hta:l.take i=l:=List.take_of_length_le (by omega);rw[hta] at hL hno;simp only[jB,hlt,cond_false];exact hgood hno lucky about hL
 ·exact⟨⟨by simp,by simp,by simp,by simp⟩,λx hx=>by simp at hx⟩
end Go.Am
end
section
namespace Go.Am
def iP(L:List aB)(i now:Int):List aB:=L.filter λs=>decide (s.Place=i)&&decide (s.Old=now)
def jS(L:List aB)(i:Int):Nat->Int->List Int->List aB->Option (Int×List Int×List aB)
 |0,_,_,_=>none
 | n+1,now,ever,U=>match iP L i now with
  |[]=>some (now,ever,U)
  |[s]=>if s.Player∈ever then none else jS L i n s.Player (ever++[s.Player]) (U++[s])
  |_::_::_=>none
structure SI(L:List aB)(T:Nat)(i now:Int)(ever:List Int)(U:List aB):Prop where
 un:U.Nodup
 us:∀u∈U,u∈L
 ne:now∈ever
 pl:∀u∈U,u.Place<=i
 old:∀u∈U,u.Place=i->u.Old∈ever/\u.Old≠now
 el:ever.length=T+U.length
theorem mV{α:Type}[DecidableEq α]:∀{l m:List α},l.Nodup->(∀x∈l,x∈m)->l.length<=m.length
 |[],_,_,_=>by simp
 | a::l,m,hn,hs=>by
  rw[List.nodup_cons] at hn;have hm:a∈m:=hs a (by simp);have:=mV (l:=l) (m:=m.erase a) hn.2 λx hx=>(List.mem_erase_of_ne (show x≠a fromλe=>hn.1 (e▸hx))).2 (hs x (by simp[hx]));rw[List.length_erase_of_mem hm] at this;have:0<m.length:=List.length_pos_of_mem hm;simp only[List.length_cons];omega
theorem uJ{L:List aB}{i now:Int}{s:aB}:s∈iP L i now↔s∈L/\s.Place=i/\s.Old=now:=by simp[iP]
theorem SI.next{L:List aB}{T:Nat}{i now:Int}{ever:List Int}{U:List aB}(h:SI L T i now ever U){s:aB}(hs:s∈iP L i now)(hp:s.Player∉ever):
  SI L T i s.Player (ever++[s.Player]) (U++[s]):=by
 obtain⟨h1,h2,h3,h4,h5,h6⟩:=h;obtain⟨m1,m2,m3⟩:=uJ.1 hs;have hsu:s∉U:=λhu=>(h5 s hu m2).2 m3;refine⟨List.nodup_append.2 ⟨h1,by simp,λx hx y hy=>?_⟩,λu hu=>?_,by simp,λu hu=>?_,λu hu hpl=>?_,by simp;omega⟩
 ·simp at hy;subst hy;exactλe=>hsu (e▸hx)
 ·rcases List.mem_append.1 hu with hu|hu
  ·exact h2 u hu
  ·simp at hu;exact hu▸m1
 ·rcases List.mem_append.1 hu with hu|hu
  ·exact h4 u hu
  ·simp at hu;subst hu;omega
 ·rcases List.mem_append.1 hu with hu|hu
  ·obtain⟨a,b⟩:=h5 u hu hpl;exact⟨List.mem_append_left _ a,λe=>hp (e▸a)⟩
  ·simp at hu;subst hu
   exact⟨List.mem_append_left _ (m3▸h3),λe=>hp (e▸m3▸h3)⟩
theorem SI.le{L:List aB}{T:Nat}{i now:Int}{ever:List Int}{U:List aB}(h:SI L T i now ever U):U.length<=L.length:=mV h.un h.us
def gP(L:List aB):Nat->Nat->List Int->List Int->List aB->Option (List Int×List aB)
 |0,_,d,_,U=>some (d,U)
 | n+1,i,d,ever,U=>match jS L i (L.length+1) (d.getD i 0) ever U with
  |none=>none
  |some (now,ever',U')=>gP L n (i+1) (d.set i now) ever' U'
section
variable{t:aF}{l:List aB}(hl:l.length<=1000)(h32:t.Slots.length<=32)
theorem bYh(o:List Int)(ho:o.length<=2000)(v:Int):vN o v=some (decide (v∈o)):=by
 unfold vN;have:=dD (S:=Unit) (λk i _=>lU o v k i) o.length (λi _=>some (decide (v∈o.drop i))) (λ_ _=>True) ?_ ?_ BIG () (bI (by omega)) trivial
 ·simpa using this
 ·intro k i _ hi _ ih;have:=ih () trivial;simp only[lU,Int.ofNat_lt,hi,decide_true,cond_true,aY hi,Option.bind_some,aZ (show i<9223372036854775807 by omega),this];have e:o.drop i=o[i]::o.drop (i+1):=List.drop_eq_getElem_cons hi
  by_cases h:o[i]=v
  ·simp[h,e]
  ·have:v∈o.drop i↔v∈o.drop (i+1):=by
    rw[e,List.mem_cons];exact⟨λq=>q.resolve_left λe=>h e.symm,.inr⟩
   simp[h,this]
 ·intro k _ _
  simp[lU,zW]
include hl in
theorem bNb(a0:Int->Int->List Int->List Int->Option (List Int×Bool))(a2:Int->Int->Bool->List Int->Option (List Int×Bool))(used i now:Int)(ag:Bool)(out ever:List Int):
  fE a0 a2 (bP l) used i now ag t out ever BIG 0 []=lX a0 a2 (bP l) used i now ag t out ((iP (dF l) i now).map (·.Player)) ever:=by
 have hol:=aEe l;have:=dD (S:=List Int) (λk j nx=>fE a0 a2 (bP l) used i now ag t out ever k j nx) (bP l).length
  (λj nx=>lX a0 a2 (bP l) used i now ag t out (nx++(iP (((bP l).drop j).filter isL) i now).map (·.Player)) ever) (λj nx=>nx.length<=j) ?_ ?_ BIG [] (bI (by omega)) (by simp)
 ·simpa[dF] using this
 ·intro k j nx hj hI ih;have hj':j<1000:=by omega
  rw[List.drop_eq_getElem_cons hj,List.filter_cons];simp only[fE,Int.ofNat_lt,hj,decide_true,cond_true,aY hj,Option.bind_some,aZ (show j<9223372036854775807 by omega),cW]
  by_cases hk:(bP l)[j].Kind=5
  ·have hL:isL (bP l)[j]=true:=by simp[isL,hk]
   simp only[hk,hL,decide_true,if_true,Bool.true_and];unfold iP;rw[List.filter_cons];cases hc:(decide ((bP l)[j].Place=i)&&decide ((bP l)[j].Old=now)) with
   | false=>
    simp only[cond_false,Bool.false_eq_true,if_false];exact ih nx (by omega)
   | true=>
    simp only[cond_true,if_true];rw[eE (by simp;omega),Option.bind_some,ih _ (by simp;omega)]
    simp[iP]
  ·have hL:isL (bP l)[j]=false:=by simp[isL,hk]
   simp only[hk,hL,decide_false,Bool.false_and,cond_false,Bool.false_eq_true,if_false];exact ih nx (by omega)
 ·intro k nx _
  simp[fE,iP]
include hl h32 in
theorem bTh(a0:Int->Int->List Int->List Int->Option (List Int×Bool))(i:Int)(out:List Int):
  ∀n k now ever U,SI (dF l) t.Slots.length i now ever U->(dF l).length<n+U.length->n<k->
  gF a0 (bP l) i t out k U.length now true ever=match jS (dF l) i n now ever U with
   |none=>some ([],false)
   |some (now',ever',U')=>pS a0 (bP l) U'.length i now' t out ever':=by
 have hLl:(dF l).length<=1000:=by
  have h1:=aEe l;have h2:(dF l).length<=(bP l).length:=List.length_filter_le _ _
  omega
 intro n
 induction n with
 | zero=>
  intro k now ever U hS hn hk;have:=hS.le
  omega
 | succ n ih=>
  intro k now ever U hS hn hk;cases k with
  |zero=>omega
  | succ k=>
   have hU:=hS.le;have hel:=hS.el;simp only[gF,cond_true,bNb hl,jS];unfold lX;cases hc:iP (dF l) i now with
   | nil=>
    simp only[List.map_nil,List.length_nil,kJ];simp only[Int.natCast_zero,show decide ((1:Int)<0)=false by decide,show decide ((0:Int)=1)=false by decide,cond_false,Option.bind_some];cases k with
    |zero=>omega
    |succ k=>simp[gF]
   | cons s cs=>
    cases cs with
    | cons s2 cs=>
     simp only[List.map_cons,List.length_cons];have:decide ((1:Int)<((((cs.map (·.Player)).length+1+1:Nat)):Int))=true:=decide_eq_true (by omega);rw[this]
     rfl
    | nil=>
     have hs:s∈iP (dF l) i now:=by rw[hc];simp
     simp only[List.map_cons,List.map_nil,List.length_cons,List.length_nil,kJ,aTi,Option.bind_some,bYh ever (by omega)];simp only[Nat.zero_add,Int.natCast_one,show decide ((1:Int)<1)=false by decide,decide_true,cond_true,cond_false,Option.bind_some]
     by_cases hp:s.Player∈ever
     ·simp[hp]
     ·simp only[hp,decide_false,cond_false,if_false];rw[eE (by simp;omega),Option.bind_some,cD (by omega) (by omega)];have:=ih k s.Player (ever++[s.Player]) (U++[s]) (hS.next hs hp) (by simp;omega) (by omega);have e:(((U++[s]).length:Nat):Int)=(U.length:Int)+1:=by simp
      rw[e] at this;exact this
end
end Go.Am
end
section
namespace Go.Am
def LOK(L:List aB):Prop:=∀s∈L,0<=s.Player/\0<=s.Old
theorem aMz{L:List aB}(hL:LOK L){T:Nat}{i:Int}:∀{n:Nat} {now:Int} {ever:List Int} {U:List aB} {now':Int} {ever':List Int} {U':List aB},
  SI L T i now ever U->jS L i n now ever U=some (now',ever',U')->
  SI L T i now' ever' U'/\(∀x∈ever,x∈ever')/\(now'=now\/(now'∉ever/\0<=now'/\now≠-1))/\iP L i now'=[]
 |0,_,_,_,_,_,_,_,h=>by simp[jS] at h
 | n +1,now,ever,U,now',ever',U',hS,h=>by
  unfold jS at h;cases hc:iP L i now with
  | nil=>
   rw[hc] at h;simp only[Option.some.injEq,Prod.mk.injEq] at h;obtain⟨rfl,rfl,rfl⟩:=h;exact⟨hS,λx hx=>hx,.inl rfl,hc⟩
  | cons s cs=>
   cases cs with
   |cons s2 cs=>simp[hc] at h
   | nil=>
    have hs:s∈iP L i now:=by rw[hc];simp
    obtain⟨m1,m2,m3⟩:=uJ.1 hs;obtain⟨p1,p2⟩:=hL s m1;rw[hc] at h
    by_cases hp:s.Player∈ever
    ·simp[hp] at h
    ·simp only[hp,if_false] at h;obtain⟨r1,r2,r3,r4⟩:=aMz hL (hS.next hs hp) h;refine⟨r1,λx hx=>r2 x (List.mem_append_left _ hx),?_,r4⟩
     rcases r3 with rfl|⟨a,b,c⟩
     ·exact .inr ⟨hp,p1,by omega⟩
     ·exact .inr ⟨λhx=>a (List.mem_append_left _ hx),b,by omega⟩
structure GI(L:List aB)(S:List Int)(i:Nat)(d ever:List Int)(U:List aB):Prop where
 un:U.Nodup
 us:∀u∈U,u∈L
 el:ever.length=S.length+U.length
 pl:∀u∈U,u.Place<i
 len:d.length=S.length
 dr:∀j,i<=j->d.getD j 0=S.getD j 0
 mem:∀x∈d,x∈ever
 dup:∀a b,a<b->b<d.length->d.getD a 0=d.getD b 0->d.getD b 0= -1
 bye:∀a,a<d.length->(d.getD a 0= -1↔S.getD a 0= -1)
 don:∀a:Nat,a<i->iP L a (d.getD a 0)=[]
theorem aLz{l:List Int}{i:Nat}(h:i<l.length):l.getD i 0∈l:=by rw[aW h];exact List.getElem_mem h
theorem GI.start{L:List aB}{S:List Int}{i:Nat}{d ever:List Int}{U:List aB}(h:GI L S i d ever U)(hi:i<S.length):SI L S.length i (d.getD i 0) ever U:=
 ⟨h.un,h.us,h.mem _ (aLz (by rw[h.len];exact hi)),λu hu=>by have:=h.pl u hu;omega,λu hu e=>by have:=h.pl u hu;omega,h.el⟩
theorem nI{l:List Int}{i j:Nat}{v:Int}(hi:i<l.length):(l.set i v).getD j 0=if j=i then v else l.getD j 0:=by
 by_cases h:j=i
 ·subst h;simp[List.getD,hi]
 ·simp[List.getD,h,List.getElem?_set,Ne.symm h]
theorem GI.next{L:List aB}(hL:LOK L){S:List Int}{i:Nat}{d ever:List Int}{U:List aB}(h:GI L S i d ever U)(hi:i<S.length){n:Nat}{now':Int}{ever':List Int}{U':List aB}
  (hs:jS L i n (d.getD i 0) ever U=some (now',ever',U')):GI L S (i+1) (d.set i now') ever' U':=by
 obtain⟨hS,hev,hn,hc⟩:=aMz hL (h.start hi) hs;have hid:i<d.length:=by rw[h.len];exact hi
 refine⟨hS.un,hS.us,hS.el,λu hu=>by have:=hS.pl u hu;omega,by rw[List.length_set,h.len],λj hj=>?_,λx hx=>?_,λa b hab hb=>?_,λa ha=>?_,λa ha=>?_⟩
 ·rw[nI hid,if_neg (by omega)];exact h.dr j (by omega)
 ·rcases List.mem_or_eq_of_mem_set hx with hx|rfl
  ·exact hev x (h.mem x hx)
  ·exact hS.ne
 ·rw [List.length_set] at hb;rw[nI hid,nI hid]
  by_cases ha':a=i
  ·subst ha';rw[if_pos rfl,if_neg (by omega)];intro e
   rcases hn with hn|⟨n1,n2,n3⟩
   ·rw[hn] at e;exact h.dup a b hab hb e
   ·exact absurd (h.mem _ (aLz hb)) (e▸n1)
  ·rw[if_neg ha']
   by_cases hb':b=i
   ·subst hb';rw[if_pos rfl];intro e
    rcases hn with hn|⟨n1,n2,n3⟩
    ·rw[hn] at e|-;exact h.dup a b hab hb e
    ·exact absurd (h.mem _ (aLz (show a<d.length by omega))) (e▸n1)
   ·rw[if_neg hb'];exact h.dup a b hab hb
 ·rw [List.length_set] at ha;rw[nI hid]
  by_cases ha':a=i
  ·subst ha';rw[if_pos rfl,<-h.bye a ha]
   rcases hn with hn|⟨n1,n2,n3⟩
   ·rw[hn]
   ·constructor
    ·intro e;omega
    ·intro e;exact absurd e n3
  ·rw[if_neg ha'];exact h.bye a ha
 ·rw[nI hid]
  by_cases ha':a=i
  ·subst ha';rw[if_pos rfl];exact hc
  ·rw[if_neg ha'];exact h.don a (by omega)
theorem aMt{L:List aB}(hL:LOK L){S:List Int}:∀{n i:Nat} {d ever:List Int} {U:List aB} {d':List Int} {U':List aB},GI L S i d ever U->i+n=S.length->gP L n i d ever U=some (d',U')->∃ever',GI L S S.length d' ever' U'
 | 0,i,d,ever,U,d',U',h,hn,he=>by
  simp only[gP,Option.some.injEq,Prod.mk.injEq] at he;obtain⟨rfl,rfl⟩:=he;have:i=S.length:=by omega
  subst this;exact⟨ever,h⟩
 | n+1,i,d,ever,U,d',U',h,hn,he=>by
  unfold gP at he;cases hs:jS L i (L.length+1) (d.getD i 0) ever U with
  |none=>rw[hs] at he;simp at he
  | some q=>
   obtain⟨now',ever',U1⟩:=q;rw[hs] at he;exact aMt hL (h.next hL (by omega) hs) (by omega) he
theorem aMg{l:List aB}:(dF l).length<=l.length:=by
 have h1:=aEe l;have h2:(dF l).length<=(bP l).length:=List.length_filter_le _ _
 omega
section
variable{t:aF}{l:List aB}(hl:l.length<=1000)(h32:t.Slots.length<=32)
include hl in
theorem bNe(out:List Int)(used:Nat)(hu:used<=(dF l).length):fF (bP l) out BIG used 0=some (out,decide (used=(dF l).length)):=by
 have hol:=aEe l;have hll:=aMg (l:=l);have:=dD (S:=Int) (λk j us=>fF (bP l) out k us j) (bP l).length (λj us=>some (out,decide (us=((((bP l).drop j).filter isL).length:Int)))) (λj us=> -(j:Int)<=us/\us<=1000) ?_ ?_ BIG used (bI (by omega)) ?_
 ·rw[List.drop_zero] at this;have e:decide ((used:Int)=(((bP l).filter isL).length:Int))=decide (used=(dF l).length):=by
   unfold dF;rw[Bool.eq_iff_iff];simp only[decide_eq_true_eq];omega
  rw[<-e];exact this
 ·intro k j us hj ⟨hI1,hI2⟩ ih;rw[List.drop_eq_getElem_cons hj,List.filter_cons];simp only[fF,Int.ofNat_lt,hj,decide_true,cond_true,aY hj,Option.bind_some,aZ (show j<9223372036854775807 by omega)]
  by_cases hk:(bP l)[j].Kind=5
  ·have hL:isL (bP l)[j]=true:=by simp[isL,hk]
   simp only[hk,hL,decide_true,cond_true,if_true];rw[cD (by omega) (by omega),ih _ (by omega)];simp only[List.length_cons]
   congr 2
   rw[Bool.eq_iff_iff];simp only[decide_eq_true_eq];omega
  ·have hL:isL (bP l)[j]=false:=by simp[isL,hk]
   simp only[hk,hL,decide_false,cond_false,Bool.false_eq_true,if_false];exact ih us (by omega)
 ·intro k us _
  simp[fF,tT]
 ·omega
def aIr(t:aF)(l:List aB):Option (List Int×List aB):=gP (dF l) t.Slots.length 0 t.Slots t.Slots []
theorem aLa(L:List aB){S:List Int}(h:aFy S):GI L S 0 S S []:=by
 refine⟨by simp,by simp,by simp,by simp,rfl,λ_ _=>rfl,λx h=>h,λa b hab hb e=>?_,λ_ _=>.rfl,by simp⟩;rw[aW (by omega),aW hb] at e;rw[aW hb];exact h.dup b hb a hab e
include hl h32 in
theorem bJx(hT:aFy t.Slots)(hL:LOK (dF l)):oZ t l=some (match aIr t l with
  |none=>([],false)
  |some (d,U)=>(d,decide (U.length=(dF l).length))):=by
 have hll:=aMg (l:=l);unfold oZ;rw[bIu l hl,Option.bind_some,eE (by simp;omega),Option.bind_some,List.nil_append];have key:∀n i d ever U k,GI (dF l) t.Slots i d ever U->i+n=t.Slots.length->n<k->dZ (bP l) t k U.length i (d.take i) ever=some (match gP (dF l) n i d ever U with
   |none=>([],false)
   |some (d,U)=>(d,decide (U.length=(dF l).length))):=by
  intro n
  induction n with
  | zero=>
   intro i d ever U k hG hi hk;cases k with
   |zero=>omega
   | succ k=>
    have hlt:decide ((i:Int)<(t.Slots.length:Int))=false:=decide_eq_false (by omega);have hta:d.take i=d:=List.take_of_length_le (by rw[hG.len];omega);simp only[dZ,hlt,cond_false,tR,hta,gP];exact bNe hl d U.length (mV hG.un hG.us)
  | succ n ih=>
   intro i d ever U k hG hi hk;cases k with
   |zero=>omega
   | succ k=>
    have hlt:i<t.Slots.length:=by omega
    have hid:i<d.length:=by rw[hG.len];exact hlt
    have hnow:t.Slots[i]=d.getD i 0:=by rw[hG.dr i (by omega),aW hlt]
    have hsl:=bTh hl h32 (dZ (bP l) t k) i (d.take i) ((dF l).length+1) BIG (d.getD i 0) ever U (hG.start hlt) (by omega) (bI (by omega));simp only[dZ,Int.ofNat_lt,hlt,decide_true,cond_true,aY hlt,Option.bind_some,hnow,hsl,gP];cases hs:jS (dF l) i ((dF l).length+1) (d.getD i 0) ever U with
    |none=>rfl
    | some q=>
     obtain⟨now',ever',U'⟩:=q;simp only[pS,tS];rw[eE (by simp;omega),Option.bind_some,aZ (by omega)];have ht:d.take i++[now']=(d.set i now').take (i+1):=by
      rw[List.take_succ_eq_append_getElem (by rw[List.length_set];exact hid),List.take_set_of_le (Nat.le_refl i)]
      simp
     rw[ht];exact ih (i+1) (d.set i now') ever' U' k (hG.next hL hlt hs) (by omega) (by omega)
 have:=key t.Slots.length 0 t.Slots t.Slots [] BIG (aLa _ hT) (by omega) (bI (by omega))
 simpa[aIr] using this
end
end Go.Am
end
section
namespace Go.Am
theorem aIn{α β:Type}[DecidableEq α](a:α):∀l:List (α×β),(tA a l).map (·.1)=(l.map (·.1)).erase a
 |[]=>by simp[tA,fW]
 | (k,u)::l=>by
  have ih:=aIn a l;unfold tA at ih|-;simp only[List.map_cons,fW]
  by_cases h:a=k
  ·subst h;simp
  ·rw[decide_eq_false h,cond_false,List.erase_cons_tail (by simpa using Ne.symm h),<-ih];cases fW a (l.map (·.1)) with
   |none=>simp
   |some j=>simp
theorem aTn{α β:Type}[DecidableEq α]{a x:α}{l:List (α×β)}(hn:(l.map (·.1)).Nodup):x∈(tA a l).map (·.1)↔x∈l.map (·.1)/\x≠a:=by
 rw[aIn,hn.mem_erase_iff];exact And.comm
theorem aVz{α β:Type}[DecidableEq α]{a:α}{l:List (α×β)}(hn:(l.map (·.1)).Nodup):((tA a l).map (·.1)).Nodup:=by
 rw[aIn];exact hn.erase a
theorem aMh{α β:Type}[DecidableEq α]{a:α}{l:List (α×β)}(h:a∈l.map (·.1)):(tA a l).length+1=l.length:=by
 have h1:=congrArg List.length (aIn a l);rw[List.length_map,List.length_erase_of_mem h,List.length_map] at h1;have:0<l.length:=by
  cases l with
  |nil=>simp at h
  |cons=>simp
 omega
theorem bAq{t:aF}{d:List Int}{lk:List (aB×Int)}{i:Nat}{Q:aB×Bool->Prop}(hi:i<d.length)(hlen:lk.length<=3000)
  (h1:∀s:aB,s∈lk.map (·.1)->s.Place=(i:Int)->s.Old=d.getD i 0->Q (s,true))
  (h0:(∀s:aB,s∈lk.map (·.1)->s.Place=(i:Int)->s.Old≠d.getD i 0)->Q (⟨0,0,0,0,0⟩,false)):jU t d lk i Q:=by
 have key:∀n k left,left.length=n->n<k->(∀p∈left,p∈lk)->(∀s:aB,s∈lk.map (·.1)->s.Place=(i:Int)->s.Old=d.getD i 0->s∈left.map (·.1))->jD Q i d t lk k ⟨0,0,0,0,0⟩ left:=by
  intro n
  induction n with
  | zero=>
   intro k left hn hk hsub hall;cases k with
   |zero=>omega
   | succ k=>
    have:left=[]:=List.length_eq_zero_iff.1 hn;subst this;simp only[jD,qJ];refine⟨λ_=>h0 λs hs hp ho=>?_,λj p hj=>by simp at hj⟩
    simpa using hall s hs hp ho
  | succ n ih=>
   intro k left hn hk hsub hall;cases k with
   |zero=>omega
   | succ k=>
    simp only[jD,qJ];refine⟨λe=>by subst e;simp at hn,λj p hj=>?_⟩;have hjl:j<left.length:=by
     rcases Nat.lt_or_ge j left.length with h|h
     ·exact h
     ·rw[List.getElem?_eq_none h] at hj;cases hj
    have hpm:p∈left:=List.mem_of_getElem? hj;have hkey:p.1∈lk.map (·.1):=List.mem_map.2 ⟨p,hsub p hpm,rfl⟩;simp only[aY hi,Option.bind_some,cW];refine⟨_,rfl,?_⟩;rw[<-aW hi 0]
    by_cases hm:p.1.Place=i/\p.1.Old=d.getD i 0
    ·simp only[hm.1,hm.2,decide_true,Bool.and_self,cond_true];exact h1 _ hkey hm.1 hm.2
    ·have:(decide (p.1.Place=(i:Int))&&decide (p.1.Old=d.getD i 0))=false:=by
      rw[Bool.and_eq_false_iff,decide_eq_false_iff_not,decide_eq_false_iff_not]
      by_cases h:p.1.Place=i
      ·exact .inr λh'=>hm ⟨h,h'⟩
      ·exact .inl h
     simp only[this,cond_false];refine ih k _ (by rw[List.length_eraseIdx];simp[hjl];omega) (by omega) (λq hq=>hsub q (List.mem_of_mem_eraseIdx hq)) λs hs hp ho=>?_;obtain⟨q,hq,rfl⟩:=List.mem_map.1 (hall s hs hp ho);refine List.mem_map.2 ⟨q,?_,rfl⟩;obtain⟨j',hj',rfl⟩:=List.mem_iff_getElem.1 hq;rw[List.mem_eraseIdx_iff_getElem];refine⟨j',hj',?_,rfl⟩;rintro rfl;rw[List.getElem?_eq_getElem hj'] at hj;cases hj;exact hm ⟨hp,ho⟩
 unfold jU aKf;exact key lk.length BIG lk rfl (bI (by omega)) (λp hp=>hp) λs hs _ _=>hs
structure LK(L:List aB)(lk:List (aB×Int))(U:List aB):Prop where
 nd:(lk.map (·.1)).Nodup
 mem:∀s:aB,s∈lk.map (·.1)↔s∈L/\s∉U
def bCm(i:Nat)(d ever:List Int)(lk:List (aB×Int)):Prop:=
 ∃x:aB,x∈lk.map (·.1)/\(x.Place<(i:Int)\/(x.Place=(i:Int)/\x.Old∈ever/\x.Old≠d.getD i 0))
structure PS(D:Nat)(d ever:List Int)(lk:List (aB×Int)):Prop where
 dl:d.length=D
 sz:D+lk.length+ever.length<=3000
 mem:∀x∈d,x∈ever
 nd:(lk.map (·.1)).Nodup
theorem PS.step{D:Nat}{d ever:List Int}{lk:List (aB×Int)}(h:PS D d ever lk){s:aB}(hs:s∈lk.map (·.1))(i:Nat):PS D (d.set i s.Player) (ever++[s.Player]) (tA s lk):=by
 have hml:=aMh hs;obtain⟨h1,h2,h3,h4⟩:=h;refine⟨by simpa using h1,by simp;omega,λx hx=>?_,aVz h4⟩
 rcases List.mem_or_eq_of_mem_set hx with hx|rfl
 ·exact List.mem_append_left _ (h3 x hx)
 ·simp
section
variable{t:aF}{L:List aB}(hLn:L.Nodup)
variable(Q:(Bool×List Int×List (aB×Int))->Prop)(hbad:∀d lk,Q (false,d,lk))
include hbad in
theorem bBf(a0:Int->List Int->List (aB×Int)->List Int->Prop)(T:Int){i D:Nat}(hiD:i<D)
  (hgo:∀d lk ever,PS D d ever lk->bCm (i+1) d ever lk->a0 ((i+1:Nat):Int) d lk ever):
  ∀n k d lk ever,lk.length<=n->n<k->PS D d ever lk->bCm i d ever lk->
  jU t d lk i λr=>dV Q a0 i T i t k r.2 d lk r.1 ever:=by
 intro n
 induction n with
 | zero=>
  intro k d lk ever hn hk hP ⟨x,hx,_⟩;have:lk=[]:=List.length_eq_zero_iff.1 (by omega);subst this
  simp at hx
 | succ n ih=>
  intro k d lk ever hn hk hP hD;have hi:i<d.length:=by rw[hP.dl];exact hiD
  have hnd:=hP.nd;have hlen:=hP.sz;obtain⟨x,hx,hxp⟩:=hD;cases k with
  |zero=>omega
  | succ k=>
   refine bAq hi (by omega) (λs hs hp ho=>?_) λ_=>?_
   ·simp only[dV,cond_true];refine⟨_,fD ever (by omega) _,?_⟩
    by_cases hpe:s.Player∈ever
    ·simp only[hpe,decide_true,cond_true];exact hbad _ _
    ·simp only[hpe,decide_false,cond_false];refine⟨_,aY hi,_,eE (by simp;omega),?_⟩;have hml:=aMh hs;have e:((i:Int)).toNat=i:=by simp
     rw[e];refine ih k (d.set i s.Player) (tA s lk) (ever++[s.Player]) (by omega) (by omega) (hP.step hs i) ⟨x,(aTn hnd).2 ⟨hx,?_⟩,?_⟩
     ·rintro rfl
      rcases hxp with h|⟨_,_,h⟩
      ·omega
      ·exact h ho
     ·rcases hxp with h|⟨h1,h2,h3⟩
      ·exact .inl h
      ·rw[nI hi,if_pos rfl];exact .inr ⟨h1,List.mem_append_left _ h2,λe=>hpe (e▸h2)⟩
   ·simp only[dV,cond_false,nO,nN,aZ (show i<9223372036854775807 by omega)];refine hgo d lk ever hP ⟨x,hx,.inl ?_⟩
    rcases hxp with h|⟨h,_⟩<;>omega
include hLn in
theorem bPo(a0:Int->List Int->List (aB×Int)->List Int->Prop)(T:Int){i D:Nat}(hiD:i<D):
  ∀n k d lk now ever U,lk.length+n+1<=k->PS D d ever lk->now=d.getD i 0->SI L t.Slots.length i now ever U->LK L lk U->L.length<n+U.length->
  (∀now' ever' U' lk',jS L i n now ever U=some (now',ever',U')->LK L lk' U'->PS D (d.set i now') ever' lk'->a0 ((i+1:Nat):Int) (d.set i now') lk' ever')->
  (jS L i n now ever U=none->(∀d lk,Q (false,d,lk))/\∀d lk ever,PS D d ever lk->bCm (i+1) d ever lk->a0 ((i+1:Nat):Int) d lk ever)->
  jU t d lk i λr=>dV Q a0 i T i t k r.2 d lk r.1 ever:=by
 intro n
 induction n with
 | zero=>
  intro k d lk now ever U hk hP hnow hS hK hn hok hbd;have:=hS.le
  omega
 | succ n ih=>
  intro k d lk now ever U hk hP hnow hS hK hn hok hbd;have hi:i<d.length:=by rw[hP.dl];exact hiD
  have hlen:=hP.sz;have hc:∀s:aB,s∈lk.map (·.1)->s.Place=(i:Int)->s.Old=d.getD i 0->s∈iP L i now:=λs hs hp ho=>uJ.2 ⟨((hK.mem s).1 hs).1,hp,by rw[hnow];exact ho⟩;have hc':∀s:aB,s∈iP L i now->s∈lk.map (·.1):=by
   intro s hs;obtain⟨m1,m2,m3⟩:=uJ.1 hs;exact(hK.mem s).2 ⟨m1,λhu=>(hS.old s hu m2).2 m3⟩
  cases k with
  |zero=>omega
  | succ k=>
   refine bAq hi (by omega) (λs hs hp ho=>?_) λhno=>?_
   ·have hsc:=hc s hs hp ho;simp only[dV,cond_true];refine⟨_,fD ever (by omega) _,?_⟩;have e:((i:Int)).toNat=i:=by simp
    by_cases hone:∃s2,s2∈iP L i now/\s2≠s
    ·obtain⟨s2,h2,hne⟩:=hone;obtain⟨m1,m2,m3⟩:=uJ.1 h2;have hnone:jS L i (n+1) now ever U=none:=by
      rw[jS];cases h:iP L i now with
      |nil=>rw[h] at h2;simp at h2
      | cons a cs=>
       cases cs with
       |cons b cs=>rfl
       | nil=>
        rw[h] at h2 hsc
        simp at h2 hsc
        exact absurd (h2.trans hsc.symm) hne
     obtain⟨hbad,hgo⟩:=hbd hnone
     by_cases hpe:s.Player∈ever
     ·simp only[hpe,decide_true,cond_true];exact hbad _ _
     ·simp only[hpe,decide_false,cond_false];refine⟨_,aY hi,_,eE (by simp;omega),?_⟩;have hml:=aMh hs;rw[e];refine bBf Q hbad a0 T hiD hgo (tA s lk).length k _ _ _ (Nat.le_refl _) (by omega) (hP.step hs i) ⟨s2,(aTn hK.nd).2 ⟨hc' s2 h2,hne⟩,.inr ⟨m2,?_,?_⟩⟩
      ·rw[m3];exact List.mem_append_left _ hS.ne
      ·rw[nI hi,if_pos rfl,m3];exactλe=>hpe (e▸hS.ne)
    ·have hall:∀x∈iP L i now,x=s:=λx hx=>Classical.byContradiction λh=>hone ⟨x,hx,h⟩;have hcs:iP L i now=[s]:=by
      have hnd:(iP L i now).Nodup:=hLn.filter _;cases h:iP L i now with
      |nil=>rw[h] at hsc;simp at hsc
      | cons a cs=>
       rw[h] at hall hnd;have ha:=hall a (by simp);subst ha;cases cs with
       |nil=>rfl
       | cons b cs=>
        have:=hall b (by simp);subst this
        simp at hnd
     by_cases hpe:s.Player∈ever
     ·simp only[hpe,decide_true,cond_true];exact(hbd (by rw[jS,hcs];simp only[hpe,if_true])).1 _ _
     ·simp only[hpe,decide_false,cond_false];refine⟨_,aY hi,_,eE (by simp;omega),?_⟩;have hml:=aMh hs;rw[e];have hslot:jS L i (n+1) now ever U=jS L i n s.Player (ever++[s.Player]) (U++[s]):=by
       rw[jS,hcs];simp only[hpe,if_false]
      rw[hslot] at hok hbd;refine ih k (d.set i s.Player) (tA s lk) s.Player (ever++[s.Player]) (U++[s]) (by omega) (hP.step hs i) (by rw[nI hi,if_pos rfl]) (hS.next hsc hpe) ⟨aVz hK.nd,λx=>?_⟩ (by simp;omega) (λnow' ever' U' lk' h1 h2 h3=>?_) hbd
      ·rw[aTn hK.nd,hK.mem,List.mem_append,List.mem_singleton,not_or,and_assoc]
      ·rw[List.set_set] at h3|-;exact hok now' ever' U' lk' h1 h2 h3
   ·have hcs:iP L i now=[]:=by
     cases h:iP L i now with
     |nil=>rfl
     | cons s cs=>
      have hs:s∈iP L i now:=by rw[h];simp
      obtain⟨m1,m2,m3⟩:=uJ.1 hs;exact absurd (by rw[m3,hnow]) (hno s (hc' s hs) m2)
    have hslot:jS L i (n+1) now ever U=some (now,ever,U):=by rw[jS,hcs]
    simp only[dV,cond_false,nO,nN,aZ (show i<9223372036854775807 by omega)];have e:d.set i now=d:=by rw[hnow,aW hi];exact List.set_getElem_self hi
    have:=hok now ever U lk hslot hK;rw[e] at this;exact this hP
theorem bQw{i:Nat}{d ever:List Int}{lk:List (aB×Int)}(h:bCm i d ever lk):decide ((lk.length:Int)=0)=false:=by
 obtain⟨x,hx,_⟩:=h;cases lk with
 |nil=>simp at hx
 |cons=>exact decide_eq_false (by simp;omega)
theorem bQv(hbad:∀d lk,Q (false,d,lk)){D:Nat}(hD:D<=3000):∀n i k d lk ever,i+n=D->n<k->PS D d ever lk->bCm i d ever lk->cV Q D t k i d lk ever:=by
 intro n
 induction n with
 | zero=>
  intro i k d lk ever hi hk hP hd;cases k with
  |zero=>omega
  | succ k=>
   have hlt:decide ((i:Int)<(D:Int))=false:=decide_eq_false (by omega);simp only[cV,hlt,cond_false,nM,bQw hd];exact hbad _ _
 | succ n ih=>
  intro i k d lk ever hi hk hP hd;cases k with
  |zero=>omega
  | succ k=>
   have hlt:i<D:=by omega
   have hsz:=hP.sz;simp only[cV,Int.ofNat_lt,hlt,decide_true,cond_true];exact bBf Q hbad (cV Q D t k) D hlt (λd lk ever h1 h2=>ih (i+1) k d lk ever (by omega) (by omega) h1 h2) lk.length BIG d lk ever (Nat.le_refl _) (bI (by omega)) hP hd
include hLn in
theorem bHk(hL:LOK L){S:List Int}(hD:S.length=t.Slots.length)(hS:S.length<=1000)(hLl:L.length<=500):∀n i k d lk ever U,i+n=S.length->n<k->GI L S i d ever U->PS S.length d ever lk->LK L lk U->
  (∀d' U',gP L n i d ever U=some (d',U')->U'.length=L.length->Q (true,d',[]))->
  ((∀d' U',gP L n i d ever U=some (d',U')->U'.length≠L.length)->∀d lk,Q (false,d,lk))->cV Q S.length t k i d lk ever:=by
 intro n
 induction n with
 | zero =>
  intro i k d lk ever U hi hk hG hP hK hok hbad;cases k with
  |zero=>omega
  | succ k=>
   have hlt:decide ((i:Int)<(S.length:Int))=false:=decide_eq_false (by omega);simp only[cV,hlt,cond_false,nM]
   by_cases hU:U.length=L.length
   ·have hnil:lk=[]:=by
     cases lk with
     |nil=>rfl
     | cons p lk=>
      have hp:=(hK.mem p.1).1 (by simp);have:=mV (l:=p.1::U) (m:=L) (List.nodup_cons.2 ⟨hp.2,hG.un⟩) λx hx=>by
       rcases List.mem_cons.1 hx with rfl|hx
       ·exact hp.1
       ·exact hG.us x hx
      simp only[List.length_cons] at this
      omega
    subst hnil;exact hok d U rfl hU
   ·have hne:lk≠[]:=by
     rintro rfl;refine hU (Nat.le_antisymm (mV hG.un hG.us) (mV hLn λx hx=>?_));refine Classical.byContradiction λhxu=>?_;have:=(hK.mem x).2 ⟨hx,hxu⟩
     simp at this
    have:decide ((lk.length:Int)=0)=false:=by
     cases lk with
     |nil=>exact absurd rfl hne
     |cons=>exact decide_eq_false (by simp;omega)
    rw[this];refine hbad (λd' U' h=>?_) _ _;simp only[gP,Option.some.injEq,Prod.mk.injEq] at h;rw[<-h.2];exact hU
 | succ n ih=>
  intro i k d lk ever U hi hk hG hP hK hok hbad;cases k with
  |zero=>omega
  | succ k=>
   have hlt:i<S.length:=by omega
   have hsz:=hP.sz;simp only[cV,Int.ofNat_lt,hlt,decide_true,cond_true];refine bPo hLn Q (cV Q S.length t k) S.length hlt (L.length+1) BIG d lk (d.getD i 0) ever U ?_ hP rfl (hD▸hG.start hlt) hK (by omega) (λnow' ever' U' lk' h1 h2 h3=>?_) λh=>⟨?_,λd' lk' ever' h1 h2=>?_⟩
   ·exact Nat.le_of_lt (bI (by omega))
   ·refine ih (i+1) k (d.set i now') lk' ever' U' (by omega) (by omega) (hG.next hL hlt h1) h3 h2 (λd' U'' h hl=>hok d' U'' ?_ hl) λh=>hbad λd' U'' h'=>h d' U'' ?_
    ·rw[gP,h1];exact h
    ·rw[gP,h1] at h';exact h'
   ·exact hbad λd' U' h'=>by rw[gP,h] at h';simp at h'
   ·exact bQv Q (hbad λd' U' h'=>by rw[gP,h] at h';simp at h') (by omega) n (i+1) k d' lk' ever' (by omega) (by omega) h1 h2
include hLn in
theorem bFo(hT:aFy t.Slots)(hL:LOK L)(h32:t.Slots.length<=32)(hLl:L.length<=500){lk:List (aB×Int)}(hK:LK L lk [])
  (hok:∀d U,gP L t.Slots.length 0 t.Slots t.Slots []=some (d,U)->U.length=L.length->Q (true,d,[]))
  (hbad:(∀d U,gP L t.Slots.length 0 t.Slots t.Slots []=some (d,U)->U.length≠L.length)->∀d lk,Q (false,d,lk)):mN t t.Slots lk Q:=by
 have hlk:lk.length<=500:=by
  have:=mV hK.nd (λx hx=>((hK.mem x).1 hx).1);rw[List.length_map] at this
  omega
 unfold mN;refine⟨t.Slots,by unfold jM;rw[eE (by simp;omega)];rfl,?_⟩;exact bHk hLn Q hL rfl (by omega) hLl t.Slots.length 0 BIG t.Slots lk t.Slots [] (by omega) (bI (by omega)) (aLa L hT) ⟨rfl,by omega,λx hx=>hx,hK.nd⟩ hK hok hbad
end
end Go.Am
end
section
namespace Go.Am
def cell(a r:Nat):aA:=⟨(r:Int),((a/2^(r+1):Nat):Int)⟩
abbrev pZ:=aA->Int->Prop
def Func(P:pZ):Prop:=∀m v w,P m v->P m w->v=w
def clm(d:List Int)(a r:Nat):pZ:=λm v=>v=d.getD a 0/\∃q,q<=r/\m=cell a q
def wW(P Q:pZ):Prop:=∀m v w,P m v->Q m w->v=w
theorem Func.sub{P Q:pZ}(h:Func P)(hs:∀m v,Q m v->P m v):Func Q:=λm v w h1 h2=>h m v w (hs _ _ h1) (hs _ _ h2)
theorem bQt{a b q r:Nat}(h:cell a q=cell b r):q=r/\a/2^(q+1)=b/2^(r+1):=by
 simp only[cell,aA.mk.injEq] at h
 omega
structure WonIs(won:List (aA×Int))(P:pZ):Prop where
 nd:(won.map (·.1)).Nodup
 mem:∀m v,(m,v)∈won↔P m v
theorem WonIs.ext{won:List (aA×Int)}{P Q:pZ}(h:WonIs won P)(he:∀m v,P m v↔Q m v):WonIs won Q:=⟨h.nd,λm v=>(h.mem m v).trans (he m v)⟩
theorem WonIs.get{won:List (aA×Int)}{P:pZ}(h:WonIs won P){m:aA}{v z:Int}(hp:P m v):bR m z won=v:=aTo h.nd ((h.mem m v).2 hp)
theorem WonIs.has{won:List (aA×Int)}{P:pZ}(h:WonIs won P)(m:aA):eB m won=true↔∃v,P m v:=by
 rw[aHa,decide_eq_true_eq,List.mem_map]
 constructor
 ·rintro⟨⟨m',v⟩,hv,rfl⟩;exact⟨v,(h.mem _ _).1 hv⟩
 ·rintro⟨v,hv⟩;exact⟨(m,v),(h.mem _ _).2 hv,rfl⟩
theorem WonIs.func{won:List (aA×Int)}{P:pZ}(h:WonIs won P):Func P:=λm v w h1 h2=>(h.get (z:=0) h1).symm.trans (h.get h2)
theorem WonIs.nil:WonIs [] (λ_ _=>False):=⟨by simp,by simp⟩
theorem WonIs.set{won:List (aA×Int)}{P:pZ}(h:WonIs won P){m:aA}{n:Int}(hc:∀v,P m v->v=n):WonIs (eK m n won) (λx v=>P x v\/(x=m/\v=n)):=by
 by_cases hm:m∈won.map (·.1)
 ·obtain⟨⟨m',v⟩,hv,e⟩:=List.mem_map.1 hm;simp only at e;subst e;have:v=n:=hc v ((h.mem _ _).1 hv);subst this;rw[aPk h.nd hv];exact⟨h.nd,λx w=>⟨λhx=>.inl ((h.mem _ _).1 hx),λhx=>hx.elim (h.mem _ _).2 λ⟨a,b⟩=>a▸b▸hv⟩⟩
 ·rw[bAp hm];refine⟨?_,λx w=>?_⟩
  ·rw[List.map_append];exact List.nodup_append.2 ⟨h.nd,by simp,λx hx y hy=>by simp at hy;subst hy;exactλe=>hm (e▸hx)⟩
  ·rw[List.mem_append,List.mem_singleton,h.mem,Prod.mk.injEq]
structure DOK(t:aF)(d:List Int):Prop where
 len:d.length=t.Slots.length
 dup:∀a b,a<b->b<d.length->d.getD a 0=d.getD b 0->d.getD b 0= -1
 bye:∀a,a<d.length->(d.getD a 0= -1↔t.Slots.getD a 0= -1)
 rng:∀a,a<d.length→-1<=d.getD a 0
theorem DOK.uni{t:aF}{d:List Int}(h:DOK t d){a b:Nat}(ha:a<d.length)(hb:b<d.length)(e:d.getD a 0=d.getD b 0)(hn:d.getD a 0≠-1):a=b:=by
 rcases Nat.lt_trichotomy a b with hl|rfl|hl
 ·exact absurd (h.dup a b hl hb e) (e▸hn)
 ·rfl
 ·exact absurd (h.dup b a hl ha e.symm) hn
def sib(a:Nat):Nat:=if a % 2=0 then a+1 else a-1
theorem bFz(a:Nat):sib a/2=a/2:=by unfold sib;split<;>omega
theorem bWq(a:Nat):sib (sib a)=a:=by unfold sib;split<;>split<;>omega
theorem aSw(a:Nat):cell (sib a) 0=cell a 0:=by simp[cell,bFz]
theorem aYc{a b:Nat}(h:a/2=b/2):a=b\/a=sib b:=by unfold sib;split<;>omega
def bDa(d:List Int):pZ:=λm v=>∃i,i<d.length/\d.getD i 0= -1/\m=cell (sib i) 0/\v=d.getD (sib i) 0
def aRc(d:List Int)(D:aB->Prop):pZ:=λm v=>∃x,D x/\∃a,a<d.length/\d.getD a 0=x.Player/\clm d a x.Round.toNat m v
def fB(d:List Int)(D:aB->Prop):pZ:=λm v=>bDa d m v\/aRc d D m v
def gs(d:List Int)(x:aB):Prop:=∃a,a<d.length/\d.getD a 0=x.Player/\cell a x.Round.toNat=⟨x.Round,x.Place⟩
def Res(l:List aB)(x:aB):Prop:=x∈l/\x.Kind≠5
structure OKF(d:List Int)(l:List aB):Prop where
 two:aQl l
 slot:∀x,Res l x->gs d x
 fn:Func (fB d (Res l))
theorem aKt{t:aF}(ht:TreeOK t){i:Nat}(h:i<t.Slots.length):sib i<t.Slots.length:=by
 have h1:=ht.r1;have h2:=ht.len;have:t.Slots.length % 2=0:=by
  rw[h2];obtain⟨k,hk⟩:∃k,t.Rounds.toNat=k+1:=⟨t.Rounds.toNat-1,by omega⟩;rw[hk,Nat.pow_succ];omega
 unfold sib;split<;>omega
theorem DOK.sib_ne{t:aF}(ht:TreeOK t){d:List Int}(h:DOK t d){i:Nat}(hi:i<d.length)(hb:d.getD i 0= -1):d.getD (sib i) 0≠-1:=by
 have hi':i<t.Slots.length:=h.len▸hi;have hs:=aKt ht hi';have hsd:sib i<d.length:=h.len▸hs;intro hc;have e1:=(h.bye _ hi).1 hb;have e2:=(h.bye _ hsd).1 hc;rw[aW hi'] at e1;rw[aW hs] at e2;unfold sib at e2 hs
 by_cases he:i % 2=0
 ·obtain⟨j,rfl⟩:∃j,i=2*j:=⟨i/2,by omega⟩;simp only[he,if_true] at e2 hs;exact ht.bye j hs e1 e2
 ·obtain⟨j,rfl⟩:∃j,i=2*j+1:=⟨i/2,by omega⟩;simp only[he,if_false,Nat.add_sub_cancel] at e2 hs;exact ht.bye j hi' e2 e1
theorem aZn{t:aF}(ht:TreeOK t){d:List Int}(h:DOK t d){i j:Nat}(hi:i<d.length)(hj:j<d.length)(bi:d.getD i 0= -1)(bj:d.getD j 0= -1)(hc:cell (sib i) 0=cell (sib j) 0):i=j:=by
 rw[aSw,aSw] at hc;have hc:=(bQt hc).2;simp only[Nat.zero_add,Nat.pow_one] at hc
 rcases aYc hc with e|e
 ·exact e
 ·have:=h.sib_ne ht hj bj;rw[<-e] at this;exact absurd bi this
theorem bRq{t:aF}{d:List Int}(h:DOK t d)(hl:d.length<=1000){a:Nat}(ha:a<d.length)(hn:d.getD a 0≠-1):fJ d (d.getD a 0)=some (a:Int):=by
 rw[aAs d (by omega)];have:d.findIdx? (λx=>decide (d.getD a 0=x))=some a:=by
  rw[List.findIdx?_eq_some_iff_getElem];refine⟨ha,by rw[aW ha];simp,λj hj=>?_⟩;simp only[Bool.not_eq_true,decide_eq_false_iff_not];intro e;rw[<-aW (show j<d.length by omega) 0] at e;have:=h.uni ha (show j<d.length by omega) e hn
  omega
 rw[this]
theorem bKt{d:List Int}(hl:d.length<=1000){n:Int}(hn:∀a,a<d.length->d.getD a 0≠n):fJ d n=some (-1):=by
 rw[aAs d (by omega)];have:d.findIdx? (λx=>decide (n=x))=none:=by
  rw[List.findIdx?_eq_none_iff];intro x hx;obtain⟨i,hi,rfl⟩:=List.mem_iff_getElem.1 hx;have:=hn i hi;rw[aW hi] at this
  simpa using Ne.symm this
 rw[this]
end Go.Am
end
section
namespace Go.Am
theorem aGo(a r:Nat):(a:Int).fdiv (2^(r+1))=((a/2^(r+1):Nat):Int):=by
 have e:(2:Int)^(r+1)=((2^(r+1):Nat):Int):=by simp
 rw[e];exact(Int.ofNat_fdiv a (2^(r+1))).symm
theorem aMo{a r:Nat}(hr:r<=5):mO (r:Int) (a:Int)=some (cell a r):=by
 have hw:w64 ((r:Int)+1)=((r+1:Nat):Int):=aZ (by omega);have hch:chk (decide (0<=((r+1:Nat):Int)))=some ():=by unfold chk;rw[decide_eq_true (by omega)];rfl
 have hm:min ((r+1:Nat):Int).toNat 64=r+1:=by omega
 unfold mO;rw[hw,hch,Option.bind_some,hm,aGo]
 rfl
theorem bBk{t:aF}{d:List Int}{P:pZ}{a r:Nat}(ha:a<d.length)(hr:r<=5){won:List (aA×Int)}(h:WonIs won P):
  ∃b w,nE t d won a r=some (b,w)/\(b=true->wW P (clm d a r)/\WonIs w (λm v=>P m v\/clm d a r m v))/\(b=false->¬wW P (clm d a r)):=by
 have key:∀n q k won',q+n=r+1->n<k->WonIs won' (λm v=>P m v\/(v=d.getD a 0/\∃p,p<q/\m=cell a p))->(∀p,p<q->∀v,P (cell a p) v->v=d.getD a 0)->
   ∃b w,jE a ((r+1:Nat):Int) d t k q won'=some (b,w)/\(b=true->wW P (clm d a r)/\WonIs w (λm v=>P m v\/clm d a r m v))/\(b=false->¬wW P (clm d a r)):=by
  intro n
  induction n with
  | zero=>
   intro q k won' hq hk hW hc;have:q=r+1:=by omega
   subst this;cases k with
   |zero=>omega
   | succ k=>
    have hlt:decide (((r+1:Nat):Int)<((r+1:Nat):Int))=false:=decide_eq_false (by omega);simp only[jE,hlt,cond_false,uU];refine⟨true,won',rfl,λ_=>⟨?_,hW.ext λm v=>?_⟩,λe=>by cases e⟩
    ·rintro m v w hp ⟨rfl,p,hp',rfl⟩;exact hc p (by omega) v hp
    ·constructor
     ·rintro(h|⟨e,p,hp,e2⟩)
      ·exact .inl h
      ·exact .inr ⟨e,p,by omega,e2⟩
     ·rintro(h|⟨e,p,hp,e2⟩)
      ·exact .inl h
      ·exact .inr ⟨e,p,by omega,e2⟩
  | succ n ih=>
   intro q k won' hq hk hW hc;cases k with
   |zero=>omega
   | succ k=>
    have hlt:decide ((q:Int)<((r+1:Nat):Int))=true:=decide_eq_true (by omega);simp only[jE,hlt,cond_true,aMo (show q<=5 by omega),Option.bind_some,aY ha,aZ (show q<9223372036854775807 by omega)];rw[<-aW ha 0]
    by_cases hex:∃v,P (cell a q) v/\v≠d.getD a 0
    ·obtain⟨v,hv,hne⟩:=hex;have hh:eB (cell a q) won'=true:=(hW.has _).2 ⟨v,.inl hv⟩;have hg:bR (cell a q) 0 won'=v:=hW.get (.inl hv);simp only[hh,hg,cond_true,hne,decide_false,Bool.not_false,Option.bind_some];exact⟨false,won',rfl,λe=>(by cases e),λ_ hco=>hne (hco _ v _ hv ⟨rfl,q,by omega,rfl⟩)⟩
    ·have hall:∀v,P (cell a q) v->v=d.getD a 0:=λv hv=>Classical.byContradiction λe=>hex ⟨v,hv,e⟩;have hall':∀v,(P (cell a q) v\/(v=d.getD a 0/\∃p,p<q/\cell a q=cell a p))->v=d.getD a 0:=by
      rintro v (h|⟨h,_⟩)
      ·exact hall v h
      ·exact h
     have hb:((bif eB (cell a q) won' then some (!decide (bR (cell a q) 0 won'=d.getD a 0)) else some false):Option Bool)=some false:=by
      cases hh:eB (cell a q) won' with
      |false=>rfl
      | true=>
       obtain⟨v,hv⟩:=(hW.has _).1 hh;rw[hW.get hv,hall' v hv]
       simp
     simp only[hb,Option.bind_some,cond_false];refine ih (q+1) k _ (by omega) (by omega) ((hW.set hall').ext λm v=>?_) λp hp v hv=>?_
     ·constructor
      ·rintro((h|⟨e,p,hp,e2⟩)|⟨e1,e2⟩)
       ·exact .inl h
       ·exact .inr ⟨e,p,by omega,e2⟩
       ·exact .inr ⟨e2,q,by omega,e1⟩
      ·rintro(h|⟨e,p,hp,e2⟩)
       ·exact .inl (.inl h)
       ·by_cases hpq:p=q
        ·subst hpq;exact .inr ⟨e2,e⟩
        ·exact .inl (.inr ⟨e,p,by omega,e2⟩)
     ·by_cases hpq:p=q
      ·subst hpq;exact hall v hv
      ·exact hc p (by omega) v hv
 have:=key (r+1) 0 BIG won (by omega) (bI (by omega)) (h.ext λm v=>by simp) (λp hp=>by omega);unfold nE;rw[aZ (show r<9223372036854775807 by omega)];exact this
theorem aWb{α:Type}{l:List α}(hnd:l.Nodup){j:Nat}(hj:j<l.length){x:α}:x∈l.eraseIdx j↔x∈l/\x≠l[j]:=by
 rw[List.mem_eraseIdx_iff_getElem]
 constructor
 ·rintro⟨i,hi,hne,rfl⟩;exact⟨List.getElem_mem hi,λe=>hne ((List.getElem_inj hnd).1 e)⟩
 ·rintro⟨hm,hne⟩;obtain⟨i,hi,rfl⟩:=List.mem_iff_getElem.1 hm;exact⟨i,hi,λe=>hne (by subst e;rfl),rfl⟩
structure ROK(t:aF)(s:aB):Prop where
 p0:0<=s.Player
 r0:0<=s.Round
 r1:s.Round<t.Rounds
theorem aUi{t:aF}{s:aB}(h:gR t s=true)(hk:s.Kind≠5):ROK t s:=by
 simp only[gR,hk,if_false,Bool.and_eq_true,gY,kS] at h;exact⟨h.1.1,h.2.1.1.2.1.1,by omega⟩
section
variable{t:aF}(ht:TreeOK t){d:List Int}(hD:DOK t d){l:List aB}(hR:∀s,Res l s->ROK t s)
include ht hD
omit ht in
theorem bOl{s:aB}(hr:ROK t s){a:Nat}(ha:a<d.length)(he:d.getD a 0=s.Player):gs d s↔cell a s.Round.toNat=⟨s.Round,s.Place⟩:=by
 have hp:=hr.p0
 constructor
 ·rintro⟨b,hb,e,h⟩;have:=hD.uni ha hb (he.trans e.symm) (by omega);subst this;exact h
 ·exactλh=>⟨a,ha,he,h⟩
omit ht in
theorem aQe{s:aB}(hr:ROK t s){a:Nat}(ha:a<d.length)(he:d.getD a 0=s.Player)(m:aA)(v:Int):aRc d (λx=>x=s) m v↔clm d a s.Round.toNat m v:=by
 have hp:=hr.p0
 constructor
 ·rintro⟨x,rfl,b,hb,e,h⟩;have:=hD.uni ha hb (he.trans e.symm) (by omega);subst this;exact h
 ·exactλh=>⟨s,rfl,a,ha,he,h⟩
include hR in
theorem bGt{Q:(Option aP×Bool)->Prop}{about:List (aA×aB)}(ham:∀m s,(m,s)∈about↔(s∈l/\s.Kind≠5/\m=⟨s.Round,s.Place⟩))(hN:aQl l)
  (hok:OKF d l->∀won,WonIs won (fB d (Res l))->Q (some ⟨t,d,won⟩,true))(hbad:¬OKF d l->Q (none,false)):
  ∀n k left won,left.length=n->n<k->left.Nodup->(∀p∈left,p∈about)->WonIs won (fB d (λs=>Res l s/\((⟨s.Round,s.Place⟩:aA),s)∉left))->(∀s,Res l s->((⟨s.Round,s.Place⟩:aA),s)∉left->gs d s)->
  lS Q d t about k won left:=by
 have h5:=ht.r5;have h32:=ht.len32;have hl:=hD.len;intro n
 induction n with
 | zero=>
  intro k left won hn hk hnd hsub hW hg;have:left=[]:=List.length_eq_zero_iff.1 hn;subst this;cases k with
  |zero=>omega
  | succ k=>
   simp only[lS,zU];have hW':WonIs won (fB d (Res l)):=hW.ext λm v=>by simp[fB,aRc]
   exact⟨λ_=>hok ⟨hN,λx hx=>hg x hx (by simp),hW'.func⟩ won hW',λj p hj=>by simp at hj⟩
 | succ n ih=>
  intro k left won hn hk hnd hsub hW hg;cases k with
  |zero=>omega
  | succ k=>
   simp only[lS];refine⟨λe=>by subst e;simp at hn,λj p hj=>?_⟩;have hjl:j<left.length:=by
    rcases Nat.lt_or_ge j left.length with h|h
    ·exact h
    ·rw[List.getElem?_eq_none h] at hj;cases hj
   have hpm:p∈left:=List.mem_of_getElem? hj;obtain⟨m,s⟩:=p;obtain⟨s1,s2,rfl⟩:=(ham m s).1 (hsub _ hpm);have hres:Res l s:=⟨s1,s2⟩;have hr:=hR s hres;have hp0:=hr.p0;have hr0:=hr.r0;have hr1:=hr.r1;have er:s.Round=((s.Round.toNat:Nat):Int):=by omega
   by_cases hex:∃a,a<d.length/\d.getD a 0=s.Player
   ·obtain⟨a,ha,he⟩:=hex;refine⟨_,he▸bRq hD (by omega) ha (by omega),?_⟩;have hneg:decide ((a:Int)<0)=false:=decide_eq_false (by omega);have hof:mO s.Round a=some (cell a s.Round.toNat):=by rw[er];exact aMo (by omega)
    simp only[hneg,cond_false,hof,Option.bind_some];refine⟨_,rfl,?_⟩
    by_cases hc:cell a s.Round.toNat=⟨s.Round,s.Place⟩
    ·simp only[hc,decide_true,Bool.not_true,cond_false];obtain⟨b,w,hw,hT,hF⟩:=bBk (t:=t) ha (show s.Round.toNat<=5 by omega) hW;rw[<-er] at hw;refine⟨_,hw,?_⟩;cases b with
     | false=>
      simp only[Bool.not_false,cond_true];refine hbad λhO=>hF rfl λm v w' h1 h2=>hO.fn m v w' ?_ (.inr ⟨s,hres,a,ha,he,h2⟩)
      rcases h1 with h1|⟨x,hx,h1⟩
      ·exact .inl h1
      ·exact .inr ⟨x,hx.1,h1⟩
     | true=>
      simp only[Bool.not_true,cond_false];have hj':left[j]=(⟨s.Round,s.Place⟩,s):=by
       rw[List.getElem?_eq_getElem hjl] at hj;exact Option.some.inj hj
      have hmem:∀x:aB,((⟨x.Round,x.Place⟩:aA),x)∉left.eraseIdx j↔((⟨x.Round,x.Place⟩:aA),x)∉left\/x=s:=by
       intro x;rw[aWb hnd hjl,hj']
       constructor
       ·intro h
        by_cases hx:x=s
        ·exact .inr hx
        ·exact .inl λhm=>h ⟨hm,λe=>hx (congrArg Prod.snd e)⟩
       ·rintro(h|rfl)
        ·exactλh2=>h h2.1
        ·exactλh=>h.2 rfl
      refine ih k _ w (by rw[List.length_eraseIdx];simp[hjl];omega) (by omega) (hnd.eraseIdx j) (λq hq=>hsub q (List.mem_of_mem_eraseIdx hq)) ((hT rfl).2.ext λm v=>?_) λx hx hxl=>?_
      ·constructor
       ·rintro((h|⟨x,hx,h⟩)|h)
        ·exact .inl h
        ·exact .inr ⟨x,⟨hx.1,(hmem x).2 (.inl hx.2)⟩,h⟩
        ·exact .inr ⟨s,⟨hres,(hmem s).2 (.inr rfl)⟩,a,ha,he,h⟩
       ·rintro(h|⟨x,⟨hx1,hx2⟩,h⟩)
        ·exact .inl (.inl h)
        ·rcases(hmem x).1 hx2 with hx2|rfl
         ·exact .inl (.inr ⟨x,⟨hx1,hx2⟩,h⟩)
         ·exact .inr ((aQe hD hr ha he m v).1 ⟨x,rfl,h⟩)
      ·rcases(hmem x).1 hxl with hxl|rfl
       ·exact hg x hx hxl
       ·exact⟨a,ha,he,hc⟩
    ·simp only[hc,decide_false,Bool.not_false,cond_true];exact hbad λhO=>hc ((bOl hD hr ha he).1 (hO.slot s hres))
   ·refine⟨_,bKt (by omega) λa ha e=>hex ⟨a,ha,e⟩,?_⟩;simp only[show decide ((-1:Int)<0)=true by decide,cond_true];refine⟨_,rfl,?_⟩;simp only[cond_true];refine hbad λhO=>?_;obtain⟨a,ha,e,_⟩:=hO.slot s hres;exact hex ⟨a,ha,e⟩
theorem bKf{Q:(Option aP×Bool)->Prop}{about:List (aA×aB)}(hgo:∀won,WonIs won (bDa d)->uS Q d won t about):jC Q d.length d t about BIG 0 []:=by
 have h32:=ht.len32;have hl:=hD.len;refine iZ (S:=List (aA×Int)) (λk i won=>jC Q d.length d t about k i won) d.length (λp=>p)
  (λi won=>WonIs won (λm v=>∃j,j<i/\j<d.length/\d.getD j 0= -1/\m=cell (sib j) 0/\v=d.getD (sib j) 0)) ?_ ?_ BIG 0 [] (bI (by omega)) (WonIs.nil.ext λm v=>by simp)
 ·intro k i won hi hW ih;simp only[jC,Int.ofNat_lt,hi,decide_true,cond_true,aY hi,aZ (show i<9223372036854775807 by omega)];refine⟨_,rfl,?_⟩;rw[<-aW hi 0]
  by_cases hb:d.getD i 0= -1
  ·simp only[hb,decide_true,cond_true];have hx:aSn (i:Int) 1=((sib i:Nat):Int):=bUa ⟨i,by omega⟩;have hs:sib i<d.length:=by rw[hl];exact aKt ht (by omega)
   obtain⟨b,w,hw,hT,hF⟩:=bBk (t:=t) hs (show 0<=5 by omega) hW;rw[hx];refine⟨_,hw,ih w ?_⟩;have hco:wW (λm v=>∃j,j<i/\j<d.length/\d.getD j 0= -1/\m=cell (sib j) 0/\v=d.getD (sib j) 0) (clm d (sib i) 0):=by
    rintro m v w' ⟨j,h1,h2,h3,h4,h5⟩ ⟨e1,q,hq,e2⟩;have:q=0:=by omega
    subst this;have:=aZn ht hD hi h2 hb h3 (e2.symm.trans h4)
    omega
   have hbt:b=true:=by
    cases b with
    |true=>rfl
    |false=>exact absurd hco (hF rfl)
   refine(hT hbt).2.ext λm v=>?_
   constructor
   ·rintro(⟨j,h1,h2⟩|⟨e1,q,hq,e2⟩)
    ·exact⟨j,by omega,h2⟩
    ·have:q=0:=by omega
     subst this;exact⟨i,by omega,hi,hb,e2,e1⟩
   ·rintro⟨j,h1,h2,h3,h4,h5⟩
    by_cases hji:j=i
    ·subst hji;exact .inr ⟨h5,0,by omega,h4⟩
    ·exact .inl ⟨j,by omega,h2,h3,h4,h5⟩
  ·simp only[hb,decide_false,cond_false];refine ih won (hW.ext λm v=>?_)
   constructor
   ·rintro⟨j,h1,h2⟩;exact⟨j,by omega,h2⟩
   ·rintro⟨j,h1,h2,h3,h4⟩
    by_cases hji:j=i
    ·subst hji;exact absurd h3 hb
    ·exact⟨j,by omega,h2,h3,h4⟩
 ·intro k i won hi hW;have hlt:decide ((i:Int)<(d.length:Int))=false:=decide_eq_false (by omega);simp only[jC,hlt,cond_false];exact hgo won (hW.ext λm v=>⟨λ⟨j,_,h⟩=>⟨j,h⟩,λ⟨j,h⟩=>⟨j,by have:=h.1;omega,h⟩⟩)
end
def mG(t:aF)(l:List aB):Option (List Int):=match aIr t l with
 |some (d,U)=>if U.length=(dF l).length then some d else none
 |none=>none
def AGR(t:aF)(l:List aB)(d:List Int):Prop:=mG t l=some d/\OKF d l
theorem bAu{L:List aB}(hL:LOK L){S:List Int}:∀{n i:Nat} {d ever:List Int} {U:List aB} {d':List Int} {U':List aB},GI L S i d ever U->i+n=S.length->(∀a,a<d.length→-1<=d.getD a 0)->gP L n i d ever U=some (d',U')->∀a,a<d'.length→-1<=d'.getD a 0
 | 0,i,d,ever,U,d',U',h,hn,hr,he=>by
  simp only[gP,Option.some.injEq,Prod.mk.injEq] at he;obtain⟨rfl,rfl⟩:=he;exact hr
 | n +1,i,d,ever,U,d',U',h,hn,hr,he=>by
  unfold gP at he;have hi:i<S.length:=by omega
  have hid:i<d.length:=by rw[h.len];exact hi
  cases hs:jS L i (L.length+1) (d.getD i 0) ever U with
  |none=>rw[hs] at he;simp at he
  | some q=>
   obtain⟨now',ever',U1⟩:=q;rw[hs] at he;obtain⟨_,_,hnow,_⟩:=aMz hL (h.start hi) hs;refine bAu hL (h.next hL hi hs) (by omega) (λa ha=>?_) he;rw[List.length_set] at ha;rw[nI hid]
   split
   ·rcases hnow with e|⟨_,e,_⟩
    ·rw[e];exact hr i hid
    ·omega
   ·exact hr a ha
theorem aFe{t:aF}(ht:TreeOK t):aFy t.Slots:=⟨ht.rng,ht.bye,ht.dup⟩
theorem aUh{t:aF}{l:List aB}(hs:∀s∈l,gR t s=true):LOK (dF l):=by
 intro s hm;simp only[dF,List.mem_filter,qO,isL,decide_eq_true_eq] at hm;have:=hs s hm.1;simp only[gR,hm.2,if_true,Bool.and_eq_true,gY] at this
 omega
theorem bOy{t:aF}(ht:TreeOK t){l:List aB}(hs:∀s∈l,gR t s=true){d:List Int}{U:List aB}(h:aIr t l=some (d,U)):DOK t d:=by
 have hL:=aUh hs;have hG:=aLa (dF l) (aFe ht);obtain⟨ever,hI⟩:=aMt hL hG (by omega) h;refine⟨hI.len,hI.dup,λa ha=>hI.bye a ha,bAu hL hG (by omega) (λa ha=>?_) h⟩;rw[aW ha];exact(ht.rng a ha).1
theorem aFm{t:aF}(ht:TreeOK t){l:List aB}(hs:∀s∈l,gR t s=true){d:List Int}(h:mG t l=some d):DOK t d:=by
 unfold mG at h;split at h
 ·rename_i d' U hr
  split at h
  ·cases h;exact bOy ht hs hr
  ·cases h
 ·cases h
theorem aUl{t:aF}(ht:TreeOK t){l:List aB}(hs:∀s∈l,gR t s=true)(hl:l.length<=500){Q:(Option aP×Bool)->Prop}
  (hok:∀d,AGR t l d->∀won,WonIs won (fB d (Res l))->Q (some ⟨t,d,won⟩,true))(hbad:(∀d,¬AGR t l d)->Q (none,false)):vM t l Q:=by
 have h32:=ht.len32;have hll:=aMg (l:=l);unfold vM;refine⟨t.Slots,by unfold jM;rw[eE (by simp;omega)];rfl,?_⟩;refine bKg (by omega) (λh=>hbad λd hd=>h hd.2.two) λhN lucky about hLA=>?_;unfold uR;have hLn:(dF l).Nodup:=(aJl l).filter _;refine bFo hLn _ (aFe ht) (aUh hs) h32 (by omega) (lk:=lucky) ⟨hLA.ln,λs=>?_⟩ (λd U hp hU=>?_) λhno d lk=>?_
 ·rw[hLA.lm];simp[dF,qO,isL]
 ·have hpo:mG t l=some d:=by unfold mG aIr;rw[hp];simp[hU]
  have hD:=aFm ht hs hpo;simp only[Bool.not_true,cond_false];refine bKf ht hD λwon hW=>?_;have habn:about.Nodup:=(List.Pairwise.of_map (·.1) (λa b h e=>h (e▸rfl)) hLA.an);unfold uS aKf;refine bGt ht hD (λs hr=>aUi (hs s hr.1) hr.2) hLA.am hN (λhO won hW=>hok d ⟨hpo,hO⟩ won hW) (λhO=>hbad λd' hd'=>?_) about.length BIG about won rfl (bI ?_) habn (λp hp=>hp) (hW.ext λm v=>?_) λs hr hn=>absurd ((hLA.am _ _).2 ⟨hr.1,hr.2,rfl⟩) hn
  ·have:=hd'.1;rw[hpo] at this;cases this;exact hO hd'.2
  ·have:about.length<=l.length:=by
    have:=mV (l:=about) (m:=l.map λs=>((⟨s.Round,s.Place⟩:aA),s)) habn λx hx=>?_
    ·simpa using this
    ·obtain⟨m,s⟩:=x;obtain⟨a1,a2,rfl⟩:=(hLA.am m s).1 hx;exact List.mem_map.2 ⟨s,a1,rfl⟩
   omega
  ·constructor
   ·exact .inl
   ·rintro(h|⟨x,⟨hx1,hx2⟩,_⟩)
    ·exact h
    ·exact absurd ((hLA.am _ _).2 ⟨hx1.1,hx1.2,rfl⟩) hx2
 ·simp only[Bool.not_false,cond_true];refine hbad λd' hd'=>?_;have:=hd'.1;unfold mG at this;split at this
  ·rename_i d2 U hr
   split at this
   ·rename_i hU;exact hno d2 U hr hU
   ·cases this
  ·cases this
end Go.Am
end
section
namespace Go.Am
def mat(must:List (List Int))(r p:Nat):Int:=(must.getD r []).getD p (-2)
structure MustIs(t:aF)(must:List (List Int))(P:pZ):Prop where
 len:must.length=t.Rounds.toNat
 row:∀r:Nat,r<t.Rounds.toNat->(must.getD r []).length=bS t r
 mem:∀(r p:Nat) (v:Int),r<t.Rounds.toNat->p<bS t r->((mat must r p=v/\v≠-2)↔P ⟨r,p⟩ v)
theorem MustIs.ext{t:aF}{must:List (List Int)}{P Q:pZ}(h:MustIs t must P)(he:∀m v,P m v↔Q m v):MustIs t must Q:=⟨h.len,h.row,λr p v h1 h2=>(h.mem r p v h1 h2).trans (he _ v)⟩
theorem MustIs.set{t:aF}{must:List (List Int)}{P:pZ}(h:MustIs t must P){r p:Nat}{n:Int}(hr:r<t.Rounds.toNat)(hp:p<bS t r)(hn:n≠-2)(hc:∀v,P ⟨r,p⟩ v->v=n):
  MustIs t (must.set r ((must.getD r []).set p n)) (λm v=>P m v\/(m=⟨r,p⟩/\v=n)):=by
 have hl:=h.len;have hrow:=h.row r hr;have hrl:r<must.length:=by omega
 have hg:∀r',(must.set r ((must.getD r []).set p n)).getD r' []=if r'=r then(must.getD r []).set p n else must.getD r' []:=by
  intro r'
  by_cases e:r'=r
  ·subst e;simp[List.getD,hrl]
  ·simp[List.getD,e,List.getElem?_set,Ne.symm e]
 refine⟨by rw[List.length_set];exact hl,λr' hr'=>?_,λr' p' v hr' hp'=>?_⟩
 ·rw[hg]
  split
  ·rename_i e;subst e;rw[List.length_set];exact h.row r' hr'
  ·exact h.row r' hr'
 ·have hm:=h.mem r' p' v hr' hp';unfold mat at hm|-;rw[hg]
  by_cases e:r'=r
  ·subst e;rw[if_pos rfl]
   by_cases e2:p'=p
   ·subst e2;have:((must.getD r' []).set p' n).getD p' (-2)=n:=by simp[List.getD];rw[List.getElem?_set];simp;have:=hrow;simp[List.getD] at this;simp[this,hp]
    rw[this]
    constructor
    ·rintro⟨rfl,_⟩;exact .inr ⟨rfl,rfl⟩
    ·rintro(hP|⟨_,rfl⟩)
     ·exact⟨(hc v hP).symm,(hm.2 hP).2⟩
     ·exact⟨rfl,hn⟩
   ·have:((must.getD r' []).set p n).getD p' (-2)=(must.getD r' []).getD p' (-2):=by simp only[List.getD];rw[List.getElem?_set,if_neg (Ne.symm e2)]
    rw[this,hm]
    constructor
    ·exact .inl
    ·rintro(hP|⟨e3,_⟩)
     ·exact hP
     ·simp only[aA.mk.injEq] at e3;omega
  ·rw[if_neg e,hm]
   constructor
   ·exact .inl
   ·rintro(hP|⟨e3,_⟩)
    ·exact hP
    ·simp only[aA.mk.injEq] at e3;omega
theorem MustIs.func{t:aF}{must:List (List Int)}{P:pZ}(h:MustIs t must P){r p:Nat}(hr:r<t.Rounds.toNat)(hp:p<bS t r){v w:Int}(h1:P ⟨r,p⟩ v)(h2:P ⟨r,p⟩ w):v=w:=
 ((h.mem r p v hr hp).2 h1).1.symm.trans ((h.mem r p w hr hp).2 h2).1
section
variable{t:aF}(ht:TreeOK t){d:List Int}(hD:DOK t d)
include ht
theorem yN{a r:Nat}(ha:a<t.Slots.length)(hr:r<t.Rounds.toNat):a/2^(r+1)<bS t r:=by
 rw[ht.len] at ha;unfold bS;rw[Nat.div_lt_iff_lt_mul (Nat.two_pow_pos _),<-Nat.pow_add];have e:t.Rounds.toNat-1-(r:Int).toNat+(r+1)=t.Rounds.toNat:=by simp;omega
 rw[e];exact ha
theorem aQx:2*bS t 0=t.Slots.length:=by
 have h1:=ht.r1;rw[ht.len];unfold bS;have e:t.Rounds.toNat=(t.Rounds.toNat-1-(0:Int).toNat)+1:=by simp;omega
 conv=>rhs;rw[e,Nat.pow_succ]
 omega
omit ht in
def aAv(d:List Int)(p:Nat):Int:=if d.getD (2*p+1) 0= -1 then d.getD (2*p) 0 else if d.getD (2*p) 0= -1 then d.getD (2*p+1) 0 else-2
def aAb(t:aF)(d:List Int)(r:Nat):List Int:=(List.range (bS t r)).map λp=>if r=0 then aAv d p else-2
include hD in
theorem bWh(a0:Int->List (List Int)->List Int->Option (aJ×Bool))(l:List aB)(o4:aJ)(M:List (List Int))(d2:List Int){r:Nat}(hr:r<t.Rounds.toNat):
  eL a0 l d r t o4 M d2 BIG 0 []=lZ a0 l d r t o4 M d2 (aAb t d r):=by
 have hpl:=qP ht (r:=(r:Int));have h5:=ht.r5;have hP:=aIa ht (r:=(r:Int)) (by omega) (by omega);have hp0:=aQx ht;have hlen:=hD.len;have:=dD (S:=List Int) (λk p row=>eL a0 l d r t o4 M d2 k p row) (bS t r) (λ_ _=>lZ a0 l d r t o4 M d2 (aAb t d r)) (λp row=>row=(List.range p).map λp=>if r=0 then aAv d p else-2) ?_ ?_ BIG [] (bI (by omega)) (by simp)
 ·exact this
 ·rintro k p row hp rfl ih;have happ:∀v:Int,app 8 ((List.range p).map λp=>if r=0 then aAv d p else-2) [v]=some (((List.range p).map λp=>if r=0 then aAv d p else-2)++[v]):=λv=>eE (by simp;omega);simp only[eL,hP,Option.bind_some,Int.ofNat_lt,hp,decide_true,cond_true,happ,aZ (show p<9223372036854775807 by omega)];have fin:∀v:Int,v=(if r=0 then aAv d p else-2)->eL a0 l d r t o4 M d2 k ((p+1:Nat):Int) (((List.range p).map λp=>if r=0 then aAv d p else-2)++[v])=lZ a0 l d r t o4 M d2 (aAb t d r):=by
   intro v hv;refine ih _ ?_;rw[List.range_succ,List.map_append,hv];rfl
  by_cases h0:r=0
  ·subst h0;have hpl2:p<bS t 0:=hp;have w1:w64 (2*(p:Int))=((2*p:Nat):Int):=by rw[cD (by omega) (by omega)];omega
   have w2:w64 (((2*p:Nat):Int)+1)=((2*p+1:Nat):Int):=aZ (by omega);have i1:2*p<d.length:=by omega
   have i2:2*p+1<d.length:=by omega
   simp only[w1,w2,aY i1,aY i2,Option.bind_some,Int.natCast_zero,decide_true,cond_true];rw[<-aW i1 0,<-aW i2 0]
   by_cases b1:d.getD (2*p) 0= -1
   ·by_cases b2:d.getD (2*p+1) 0= -1
    ·simp only[b1,b2,decide_true,cond_true];exact fin _ (by simp only[aAv,b1,b2,if_true])
    ·simp only[b1,b2,decide_true,decide_false,cond_true,cond_false];exact fin _ (by simp only[aAv,b1,b2,if_true,if_false])
   ·by_cases b2:d.getD (2*p+1) 0= -1
    ·simp only[b1,b2,decide_true,decide_false,cond_true,cond_false];exact fin _ (by simp only[aAv,b2,if_true])
    ·simp only[b1,b2,decide_false,cond_false];exact fin _ (by simp only[aAv,b1,b2,if_true,if_false])
  ·have hr0:decide ((r:Int)=0)=false:=decide_eq_false (by omega);simp only[hr0,cond_false,Option.bind_some];exact fin _ (by rw[if_neg h0])
 ·intro k row hrow;have hlt:decide ((bS t r:Int)<(bS t r:Int))=false:=decide_eq_false (by omega);simp only[eL,hP,Option.bind_some,hlt,cond_false,hrow,aAb]
include hD in
theorem bSv(l:List aB)(o4:aJ)(d2:List Int):gL l d t o4 BIG 0 [] d2=lY l d o4 ((List.range t.Rounds.toNat).map (aAb t d)) d2:=by
 have h1:=ht.r1;have h5:=ht.r5;have e:t.Rounds=((t.Rounds.toNat:Nat):Int):=by omega
 have:=dD (S:=List (List Int)) (λk r M=>gL l d t o4 k r M d2) t.Rounds.toNat (λ_ _=>lY l d o4 ((List.range t.Rounds.toNat).map (aAb t d)) d2) (λr M=>M=(List.range r).map (aAb t d)) ?_ ?_ BIG [] (bI (by omega)) (by simp)
 ·exact this
 ·rintro k r M hr rfl ih;have hlt:decide ((r:Int)<t.Rounds)=true:=decide_eq_true (by omega);simp only[gL,hlt,cond_true,bWh ht hD _ l o4 _ d2 hr,lZ,xK,aZ (show r<9223372036854775807 by omega)];rw[eE (by simp;omega),Option.bind_some];refine ih _ ?_;rw[List.range_succ,List.map_append];rfl
 ·rintro k M rfl;have hlt:decide (((t.Rounds.toNat:Nat):Int)<t.Rounds)=false:=decide_eq_false (by omega);simp only[gL,hlt,cond_false]
include hD in
theorem bZx:MustIs t ((List.range t.Rounds.toNat).map (aAb t d)) (bDa d):=by
 have hg:∀r,r<t.Rounds.toNat->((List.range t.Rounds.toNat).map (aAb t d)).getD r []=aAb t d r:=by
  intro r hr;rw[aW (by simpa using hr)];simp
 have hp0:=aQx ht;have hlen:=hD.len;refine⟨by simp,λr hr=>by rw[hg r hr];simp[aAb],λr p v hr hp=>?_⟩;have hm:mat ((List.range t.Rounds.toNat).map (aAb t d)) r p=if r=0 then aAv d p else-2:=by
  unfold mat;rw[hg r hr,aW (by simpa[aAb] using hp)]
  simp[aAb]
 rw[hm]
 by_cases h0:r=0
 ·subst h0;have hpl2:p<bS t 0:=hp;have i1:2*p<d.length:=by omega
  have i2:2*p+1<d.length:=by omega
  have s1:sib (2*p)=2*p+1:=by unfold sib;split<;>omega
  have s2:sib (2*p+1)=2*p:=by unfold sib;split<;>omega
  rw[if_pos rfl]
  constructor
  ·rintro⟨hv,hn⟩;unfold aAv at hv;split at hv
   ·rename_i b;exact⟨2*p+1,i2,b,by rw[s2];simp[cell],by rw[s2];exact hv.symm⟩
   ·split at hv
    ·rename_i b;exact⟨2*p,i1,b,by rw[s1];simp[cell];omega,by rw[s1];exact hv.symm⟩
    ·exact absurd hv.symm hn
  ·rintro⟨i,hi,hb,hc,rfl⟩;have hsib:=hD.sib_ne ht hi hb;have hsl:sib i<d.length:=by rw[hlen];exact aKt ht (by omega)
   have hrng:=hD.rng _ hsl;refine⟨?_,by omega⟩;have:p=i/2:=by
    rw[aSw] at hc;simp only[cell,aA.mk.injEq] at hc
    omega
   rcases(show i=2*p\/i=2*p+1 by omega) with rfl|rfl
   ·rw[s1] at hsib|-;unfold aAv;rw[if_neg hsib,if_pos hb]
   ·rw[s2];unfold aAv;rw[if_pos hb]
 ·rw[if_neg h0]
  constructor
  ·rintro⟨rfl,hn⟩;exact absurd rfl hn
  ·rintro⟨i,hi,hb,hc,_⟩;simp only[cell,aA.mk.injEq] at hc
   omega
end
end Go.Am
end
section
namespace Go.Am
abbrev aPn:Option (aJ×Bool):=some (aJ.mk [] [],false)
def Out(t:aF)(d:List Int)(l:List aB)(o:Option (aJ×Bool)):Prop:=
 (OKF d l->∃must,o=some (⟨d,must⟩,true)/\MustIs t must (fB d (Res l)))/\(¬OKF d l->o=aPn)
theorem Out.bad{t:aF}{d:List Int}{l:List aB}(h:¬OKF d l):Out t d l aPn:=⟨λh'=>absurd h' h,λ_=>rfl⟩
section
variable{t:aF}(ht:TreeOK t){d:List Int}(hD:DOK t d){l:List aB}(hR:∀s,Res l s->ROK t s)
include ht hD
theorem bNc{P:pZ}{x:aB}(hx:ROK t x){a:Nat}(ha:a<d.length)(he:d.getD a 0=x.Player)(a4:Int->aJ->List (List Int)->Option (aJ×Bool))(all:List aB)(i:Int)(o4:aJ)
  {must:List (List Int)}(h:MustIs t must P)(hok:wW P (clm d a x.Round.toNat)->∀must',MustIs t must' (λm v=>P m v\/clm d a x.Round.toNat m v)->Out t d l (a4 (w64 (i+1)) o4 must'))
  (hbad:¬wW P (clm d a x.Round.toNat)->¬OKF d l):Out t d l (iA a4 d all i a d x BIG 0 o4 must):=by
 have h5:=ht.r5;have hr0:=hx.r0;have hr1:=hx.r1;have hp0:=hx.p0;have hal:a<t.Slots.length:=by rw[<-hD.len];exact ha
 have key:∀n q k must',q+n=x.Round.toNat+1->n<k->MustIs t must' (λm v=>P m v\/(v=d.getD a 0/\∃p,p<q/\m=cell a p))->(∀p,p<q->∀v,P (cell a p) v->v=d.getD a 0)->
   Out t d l (iA a4 d all i a d x k q o4 must'):=by
  intro n
  induction n with
  | zero=>
   intro q k must' hq hk hW hc;cases k with
   |zero=>omega
   | succ k=>
    have hlt:decide ((q:Int)<=x.Round)=false:=decide_eq_false (by omega);simp only[iA,hlt,cond_false,wF,mA];refine hok ?_ must' (hW.ext λm v=>?_)
    ·rintro m v w hp ⟨rfl,p,hp',rfl⟩;exact hc p (by omega) v hp
    ·constructor
     ·rintro(h|⟨e,p,hp,e2⟩)
      ·exact .inl h
      ·exact .inr ⟨e,p,by omega,e2⟩
     ·rintro(h|⟨e,p,hp,e2⟩)
      ·exact .inl h
      ·exact .inr ⟨e,p,by omega,e2⟩
  | succ n ih=>
   intro q k must' hq hk hW hc;cases k with
   |zero=>omega
   | succ k=>
    have hlt:decide ((q:Int)<=x.Round)=true:=decide_eq_true (by omega);have hqR:q<t.Rounds.toNat:=by omega
    have hw:w64 ((q:Int)+1)=((q+1:Nat):Int):=aZ (by omega);have hu:IntKind.u64.wrap ((q+1:Nat):Int)=((q+1:Nat):Int):=aAp (by omega) (by omega);have hch:chk (decide (0<=((q+1:Nat):Int)))=some ():=by unfold chk;rw[decide_eq_true (by omega)];rfl
    have hmin:min ((q+1:Nat):Int).toNat 64=q+1:=by omega
    have hml:=hW.len;have hrl:=hW.row q hqR;have hpin:=yN ht hal hqR;have hql:q<must'.length:=by omega
    have hi1:idx must' (q:Int)=some (must'.getD q []):=by rw[aY hql,aW hql]
    have hi2:idx (must'.getD q []) ((a/2^(q+1):Nat):Int)=some (mat must' q (a/2^(q+1))):=by
     have hlt':a/2^(q+1)<(must'.getD q []).length:=by omega
     rw[aY hlt'];exact congrArg some (aW hlt' (-2)).symm
    simp only[iA,hlt,cond_true,hw,hu,hch,hmin,aGo,Option.bind_some,hi1,hi2];have hmem:=λv=>hW.mem q (a/2^(q+1)) v hqR hpin;have hcell:(⟨(q:Int),((a/2^(q+1):Nat):Int)⟩:aA)=cell a q:=rfl;rw[hcell] at hmem
    by_cases hex:mat must' q (a/2^(q+1))≠-2/\mat must' q (a/2^(q+1))≠x.Player
    ·simp only[hex.1,hex.2,decide_false,Bool.not_false,cond_true,Option.bind_some];refine Out.bad (hbad λhco=>hex.2 ?_)
     rcases(hmem _).1 ⟨rfl,hex.1⟩ with h|⟨h,_⟩
     ·rw[<-he];exact hco _ _ _ h ⟨rfl,q,by omega,rfl⟩
     ·rw[h,he]
    ·have hb:((bif !decide (mat must' q (a/2^(q+1))= -2) then some (!decide (mat must' q (a/2^(q+1))=x.Player)) else some false):Option Bool)=some false:=by
      rw[cW,Option.some.injEq,Bool.and_eq_false_iff]
      by_cases h1:mat must' q (a/2^(q+1))= -2
      ·exact .inl (by simp[h1])
      ·exact .inr (by simpa usingλh2=>hex ⟨h1,h2⟩)
     have hall:∀v,(P (cell a q) v\/(v=d.getD a 0/\∃p,p<q/\cell a q=cell a p))->v=d.getD a 0:=by
      intro v hv;have⟨h1,h2⟩:=(hmem v).2 hv;rw[he];refine Classical.byContradiction λhne=>hex ⟨by rw[h1];exact h2,by rw[h1];exact hne⟩
     simp only[hb,Option.bind_some,cond_false];simp only[<-he];have e8:((q:Int)).toNat=q:=by omega
     have e9:(((a/2^(q+1):Nat)):Int).toNat=a/2^(q+1):=Int.toNat_natCast _;rw[e8,e9];rw[<-he] at hp0;refine ih (q+1) k _ (by omega) (by omega) ((hW.set hqR hpin (n:=d.getD a 0) (by omega) hall).ext λm v=>?_) λp hp v hv=>?_
     ·rw [hcell]
      constructor
      ·rintro((h|⟨e,p,hp,e2⟩)|⟨e1,e2⟩)
       ·exact .inl h
       ·exact .inr ⟨e,p,by omega,e2⟩
       ·exact .inr ⟨e2,q,by omega,e1⟩
      ·rintro(h|⟨e,p,hp,e2⟩)
       ·exact .inl (.inl h)
       ·by_cases hpq:p=q
        ·subst hpq;exact .inr ⟨e2,e⟩
        ·exact .inl (.inr ⟨e,p,by omega,e2⟩)
     ·by_cases hpq:p=q
      ·subst hpq;exact hall v (.inl hv)
      ·exact hc p (by omega) v hv
 exact key (x.Round.toNat+1) 0 BIG must (by omega) (bI (by omega)) (h.ext λm v=>by simp) (λp hp=>by omega)
omit ht in
theorem bRz(hl:d.length<=1000){x:aB}(hp:0<=x.Player)(a4:Int->aJ->List (List Int)->Option (aJ×Bool))(all:List aB)(i:Int)(o4:aJ)(must:List (List Int))(d2:List Int):
  (∀a,a<d.length->d.getD a 0=x.Player->eA a4 d all i o4 must d2 x BIG (-1) 0=iT a4 d all i a o4 must d2 x)/\
  ((∀a,a<d.length->d.getD a 0≠x.Player)->eA a4 d all i o4 must d2 x BIG (-1) 0=iT a4 d all i (-1) o4 must d2 x):=by
 refine⟨λa ha he=>?_,λhno=>?_⟩
 ·have:=dD (S:=Int) (λk s at'=>eA a4 d all i o4 must d2 x k at' s) d.length (λs at'=>iT a4 d all i (if s<=a then(a:Int) else at') o4 must d2 x) (λ_ _=>True) ?_ ?_ BIG (-1) (bI (by omega)) trivial
  ·simpa using this
  ·intro k s at' hs _ ih;simp only[eA,Int.ofNat_lt,hs,decide_true,cond_true,aY hs,Option.bind_some,aZ (show s<9223372036854775807 by omega),ih _ trivial];rw[<-aW hs 0]
   by_cases hsa:s=a
   ·subst hsa;simp only[he,decide_true,cond_true];rw[if_neg (by omega),if_pos (Nat.le_refl s)]
   ·have:d.getD s 0≠x.Player:=λe=>hsa (hD.uni hs ha (e.trans he.symm) (by omega));simp only[this,decide_false,cond_false]
    by_cases hle:s<=a
    ·rw[if_pos hle,if_pos (by omega)]
    ·rw[if_neg hle,if_neg (by omega)]
  ·intro k at' _;have hlt:decide ((d.length:Int)<(d.length:Int))=false:=decide_eq_false (by omega);simp only[eA,hlt,cond_false];rw[if_neg (by omega)]
 ·have:=dD (S:=Int) (λk s at'=>eA a4 d all i o4 must d2 x k at' s) d.length (λs at'=>iT a4 d all i at' o4 must d2 x) (λ_ _=>True) ?_ ?_ BIG (-1) (bI (by omega)) trivial
  ·exact this
  ·intro k s at' hs _ ih;simp only[eA,Int.ofNat_lt,hs,decide_true,cond_true,aY hs,Option.bind_some,aZ (show s<9223372036854775807 by omega),ih _ trivial];rw[<-aW hs 0];simp only[hno s hs,decide_false,cond_false]
  ·intro k at' _;have hlt:decide ((d.length:Int)<(d.length:Int))=false:=decide_eq_false (by omega);simp only[eA,hlt,cond_false]
include hR in
theorem bPn(hl:l.length<=1000):Out t d l (lY l d (aJ.mk [] []) ((List.range t.Rounds.toNat).map (aAb t d)) d):=by
 have h5:=ht.r5;have h32:=ht.len32;have hlen:=hD.len;have hol:=aEe l;unfold lY;rw[bIu l hl,Option.bind_some];refine iZ (S:=List (List Int)) (λk i must=>dE d (bP l) d k i (aJ.mk [] []) must) (bP l).length (Out t d l)
  (λi must=>MustIs t must (fB d (Res ((bP l).take i)))/\(∀x,Res ((bP l).take i) x->gs d x)/\aQl ((bP l).take i)) ?_ ?_ BIG 0 _ (bI (by omega)) ?_
 ·intro k i must hi ⟨hM,hg,hN⟩ ih;have hmt:∀x,x∈(bP l).take (i+1)↔x∈(bP l).take i\/x=(bP l)[i]:=λx=>by
   rw[List.take_succ_eq_append_getElem hi,List.mem_append,List.mem_singleton]
  have hsub:∀x,x∈(bP l).take i->x∈l:=λx hx=>(qO l x).1 (List.mem_of_mem_take hx);simp only[dE,Int.ofNat_lt,hi,decide_true,cond_true,aY hi,Option.bind_some]
  by_cases hk:(bP l)[i].Kind=5
  ·simp only[hk,decide_true,cond_true,mA,aZ (show i<9223372036854775807 by omega)];have hres:∀x,Res ((bP l).take (i+1)) x↔Res ((bP l).take i) x:=by
    intro x;unfold Res;rw[hmt]
    constructor
    ·rintro⟨h|h,h2⟩
     ·exact⟨h,h2⟩
     ·exact absurd (h▸hk) h2
    ·rintro⟨h,h2⟩;exact⟨.inl h,h2⟩
   refine ih must ⟨hM.ext λm v=>?_,λx hx=>hg x ((hres x).1 hx),λx hx y hy kx ky=>hN x ((hres x).1 ⟨hx,kx⟩).1 y ((hres y).1 ⟨hy,ky⟩).1 kx ky⟩;simp only[fB,aRc,hres]
  ·have hmi:(bP l)[i]∈l:=(qO l _).1 (List.getElem_mem hi);have hresx:Res l (bP l)[i]:=⟨hmi,hk⟩;have hx:=hR _ hresx;have hxp:=hx.p0;have hxr0:=hx.r0;have hxr1:=hx.r1;simp only[hk,decide_false,cond_false];have htwo:iU (dE d (bP l) d k) d (bP l) i must d (bP l)[i] BIG 0 (aJ.mk [] [])=
     bif (List.range i).all λj=>!(!decide ((bP l)[j]?.any (λy=>decide (y.Kind=5))=true)&&decide ((bP l)[j]?.any (λy=>decide (y.Round=(bP l)[i].Round))=true)&&decide ((bP l)[j]?.any (λy=>decide (y.Place=(bP l)[i].Place))=true)) then
      sJ (dE d (bP l) d k) d (bP l) i (aJ.mk [] []) must d (bP l)[i] else aPn:=by
    refine eH (λq j=>iU (dE d (bP l) d k) d (bP l) i must d (bP l)[i] q j (aJ.mk [] [])) i _ aPn _ ?_ ?_ BIG (bI (by omega))
    ·intro q j hj;have hj':j<(bP l).length:=by omega
     simp only[iU,Int.ofNat_lt,hj,decide_true,cond_true,aY hj',Option.bind_some,cW,aZ (show j<9223372036854775807 by omega),List.getElem?_eq_getElem hj',Option.any_some,decide_eq_true_eq];cases(!decide ((bP l)[j].Kind=5)&&decide ((bP l)[j].Round=(bP l)[i].Round)&&decide ((bP l)[j].Place=(bP l)[i].Place))<;>rfl
    ·intro q;have hlt:decide ((i:Int)<(i:Int))=false:=decide_eq_false (by omega);simp only[iU,hlt,cond_false]
   rw[htwo];cases hall:(List.range i).all λj=>!(!decide ((bP l)[j]?.any (λy=>decide (y.Kind=5))=true)&&decide ((bP l)[j]?.any (λy=>decide (y.Round=(bP l)[i].Round))=true)&&decide ((bP l)[j]?.any (λy=>decide (y.Place=(bP l)[i].Place))=true)) with
   | false=>
    rw[cond_false];refine Out.bad λhO=>?_;rw[List.all_eq_false] at hall;obtain⟨j,hj,hb⟩:=hall;simp only[List.mem_range] at hj;have hj':j<(bP l).length:=by omega
    rw[Bool.not_eq_true,Bool.not_eq_false'] at hb;simp only[List.getElem?_eq_getElem hj',Option.any_some,Bool.and_eq_true,Bool.not_eq_true',decide_eq_true_eq,decide_eq_false_iff_not] at hb;have:=hO.two _ ((qO l _).1 (List.getElem_mem hj')) _ hmi hb.1.1 hk hb.1.2 hb.2;have:=(List.getElem_inj (aJl l)).1 this
    omega
   | true =>
    rw[cond_true];rw[dL] at hall;have hfresh:∀y,y∈(bP l).take i->y.Kind≠5->¬(y.Round=(bP l)[i].Round/\y.Place=(bP l)[i].Place):=by
     rintro y hy ky ⟨e1,e2⟩;obtain⟨j,hj,rfl⟩:=List.mem_take_iff_getElem.1 hy;have hj':j<(bP l).length:=by omega
     have:=hall j (by omega);simp only[List.getElem?_eq_getElem hj',Option.any_some,Bool.not_eq_true',Bool.and_eq_false_iff,Bool.not_eq_false',decide_eq_true_eq,decide_eq_false_iff_not] at this
     rcases this with(h|h)|h
     ·exact ky h
     ·exact h e1
     ·exact h e2
    unfold sJ;have hlast:=bRz hD (by omega) hxp (dE d (bP l) d k) (bP l) i (aJ.mk [] []) must d
    by_cases hex:∃a,a<d.length/\d.getD a 0=(bP l)[i].Player
    ·obtain⟨a,ha,he⟩:=hex;rw[hlast.1 a ha he];have er:(bP l)[i].Round=(((bP l)[i].Round.toNat:Nat):Int):=by omega
     have hw:w64 ((bP l)[i].Round+1)=(((bP l)[i].Round.toNat+1:Nat):Int):=by rw[cD (by omega) (by omega)];omega
     have hu:IntKind.u64.wrap (((bP l)[i].Round.toNat+1:Nat):Int)=(((bP l)[i].Round.toNat+1:Nat):Int):=aAp (by omega) (by omega);have hch:chk (decide (0<=(((bP l)[i].Round.toNat+1:Nat):Int)))=some ():=by unfold chk;rw[decide_eq_true (by omega)];rfl
     have hmin:min (((bP l)[i].Round.toNat+1:Nat):Int).toNat 64=(bP l)[i].Round.toNat+1:=by omega
     have hneg:decide ((a:Int)<0)=false:=decide_eq_false (by omega);have hcell:cell a (bP l)[i].Round.toNat=⟨(bP l)[i].Round,(bP l)[i].Place⟩↔((a/2^((bP l)[i].Round.toNat+1):Nat):Int)=(bP l)[i].Place:=by
      simp only[cell,aA.mk.injEq,<-er,true_and]
     unfold iT;simp only[hneg,cond_false,hw,hu,hch,hmin,aGo,Option.bind_some]
     by_cases hc:((a/2^((bP l)[i].Round.toNat+1):Nat):Int)=(bP l)[i].Place
     ·simp only[hc,decide_true,Bool.not_true,cond_false];refine bNc ht hD hx ha he _ _ _ _ hM (λhco must' hM'=>?_) λhco hO=>hco λm v w h1 h2=>hO.fn m v w ?_ (.inr ⟨_,hresx,a,ha,he,h2⟩)
      ·rw [aZ (show i<9223372036854775807 by omega)];have hres:∀x,Res ((bP l).take (i+1)) x↔Res ((bP l).take i) x\/x=(bP l)[i]:=by
        intro x;unfold Res;rw[hmt]
        constructor
        ·rintro⟨h|h,h2⟩
         ·exact .inl ⟨h,h2⟩
         ·exact .inr h
        ·rintro(⟨h,h2⟩|rfl)
         ·exact⟨.inl h,h2⟩
         ·exact⟨.inr rfl,hk⟩
       refine ih must' ⟨hM'.ext λm v=>?_,λx hxx=>?_,λx hxx y hyy kx ky e1 e2=>?_⟩
       ·constructor
        ·rintro((h|⟨y,hy,h⟩)|h)
         ·exact .inl h
         ·exact .inr ⟨y,(hres y).2 (.inl hy),h⟩
         ·exact .inr ⟨_,(hres _).2 (.inr rfl),a,ha,he,h⟩
        ·rintro(h|⟨y,hy,h⟩)
         ·exact .inl (.inl h)
         ·rcases(hres y).1 hy with hy|rfl
          ·exact .inl (.inr ⟨y,hy,h⟩)
          ·exact .inr ((aQe hD hx ha he m v).1 ⟨_,rfl,h⟩)
       ·rcases(hres x).1 hxx with h|rfl
        ·exact hg x h
        ·exact⟨a,ha,he,hcell.2 hc⟩
       ·rcases(hres x).1 ⟨hxx,kx⟩ with h|rfl
        ·rcases(hres y).1 ⟨hyy,ky⟩ with h'|rfl
         ·exact hN x h.1 y h'.1 kx ky e1 e2
         ·exact absurd ⟨e1,e2⟩ (hfresh x h.1 kx)
        ·rcases(hres y).1 ⟨hyy,ky⟩ with h'|h'
         ·exact absurd ⟨e1.symm,e2.symm⟩ (hfresh y h'.1 ky)
         ·exact h'.symm
      ·rcases h1 with h1|⟨y,hy,h1⟩
       ·exact .inl h1
       ·exact .inr ⟨y,⟨hsub y hy.1,hy.2⟩,h1⟩
     ·simp only[hc,decide_false,Bool.not_false,cond_true];exact Out.bad λhO=>hc (hcell.1 ((bOl hD hx ha he).1 (hO.slot _ hresx)))
    ·rw[hlast.2 λa ha e=>hex ⟨a,ha,e⟩];unfold iT;simp only[show decide ((-1:Int)<0)=true by decide,cond_true,Option.bind_some];refine Out.bad λhO=>?_;obtain⟨a,ha,e,_⟩:=hO.slot _ hresx;exact hex ⟨a,ha,e⟩
 ·intro k i must hi ⟨hM,hg,hN⟩;have hlt:decide ((i:Int)<((bP l).length:Int))=false:=decide_eq_false (by omega);have hta:(bP l).take i=bP l:=List.take_of_length_le (by omega);rw[hta] at hM hg hN;have hres:∀x,Res (bP l) x↔Res l x:=λx=>by unfold Res;rw[qO]
  have hM':MustIs t must (fB d (Res l)):=hM.ext λm v=>by simp only[fB,aRc,hres]
  simp only[dE,hlt,cond_false,xL];refine⟨λ_=>⟨must,rfl,hM'⟩,λhO=>absurd ⟨λx hx y hy=>hN x ((qO l x).2 hx) y ((qO l y).2 hy),λx hx=>hg x ((hres x).2 hx),?_⟩ hO⟩;intro m v w h1 h2;have hin:∀{v},fB d (Res l) m v->∃r p:Nat,m=⟨r,p⟩/\r<t.Rounds.toNat/\p<bS t r:=by
   have h1:=ht.r1;rintro v (⟨j,hj,hb,rfl,_⟩|⟨x,hx,a,ha,he,_,q,hq,rfl⟩)
   ·refine⟨0,sib j/2^(0+1),rfl,by omega,yN ht (aKt ht (by omega)) (by omega)⟩
   ·have:=(hR x hx).r1;have:=(hR x hx).r0;exact⟨q,a/2^(q+1),rfl,by omega,yN ht (by omega) (by omega)⟩
  obtain⟨r,p,rfl,hr,hp⟩:=hin h1;exact hM'.func hr hp h1 h2
 ·refine⟨(bZx ht hD).ext λm v=>?_,λx hx=>absurd hx.1 (by simp),λx hx=>absurd hx (by simp)⟩
  simp[fB,aRc,Res]
end
theorem aZt{t:aF}(ht:TreeOK t){l:List aB}(hs:∀s∈l,gR t s=true)(hl:l.length<=1000):
  (∀d,AGR t l d->∃must,cL t l=some (⟨d,must⟩,true)/\MustIs t must (fB d (Res l)))/\((∀d,¬AGR t l d)->cL t l=aPn):=by
 have h32:=ht.len32;have hP:=bJx hl h32 (aFe ht) (aUh hs);unfold cL;rw[hP,Option.bind_some];cases hp:aIr t l with
 | none=>
  have hno:∀d,¬AGR t l d:=λd h=>by have:=h.1;unfold mG at this;rw[hp] at this;cases this
  exact⟨λd h=>absurd h (hno d),λ_=>rfl⟩
 | some q=>
  obtain⟨d,U⟩:=q;simp only
  by_cases hU:U.length=(dF l).length
  ·have hpo:mG t l=some d:=by unfold mG;rw[hp];simp[hU]
   have hD:=aFm ht hs hpo;have hO:=bPn ht hD (λs hr=>aUi (hs s hr.1) hr.2) hl;simp only[hU,decide_true,Bool.not_true,cond_false,bSv ht hD];refine⟨λd' hd'=>?_,λhno=>hO.2 λh=>hno d ⟨hpo,h⟩⟩;have:=hd'.1;rw[hpo] at this;cases this;exact hO.1 hd'.2
  ·have hno:∀d,¬AGR t l d:=λd h=>by have:=h.1;unfold mG at this;rw[hp] at this;simp[hU] at this
   simp only[hU,decide_false,Bool.not_false,cond_true];exact⟨λd h=>absurd h (hno d),λ_=>trivial⟩
end Go.Am
end
section
namespace Go.Am
structure Good(t:aF)(l:List aB)(d:List Int):Prop where
 tree:rV t=true
 len:l.length<=60
 slips:∀s∈l,gR t s=true
 agr:AGR t l d
inductive Stat(t:aF)(l:List aB):Int->Prop
 |s70:rV t=false->Stat t l 70
 |s71:rV t=true->(60<l.length\/∃s∈l,gR t s=false)->Stat t l 71
 |s72:rV t=true->l.length<=60->(∀s∈l,gR t s=true)->(∀d,¬AGR t l d)->Stat t l 72
theorem Stat.ne{t:aF}{l:List aB}{e:Int}(h:Stat t l e):decide (e=0)=false:=by cases h<;>rfl
theorem aCd(t:aF)(l:List aB):(∃d,Good t l d)\/∃e,Stat t l e:=by
 cases ht:rV t with
 |false=>exact .inr ⟨70,.s70 ht⟩
 | true=>
  by_cases hl:60<l.length
  ·exact .inr ⟨71,.s71 ht (.inl hl)⟩
  ·by_cases hs:∃s∈l,gR t s=false
   ·exact .inr ⟨71,.s71 ht (.inr hs)⟩
   ·have hs':∀s∈l,gR t s=true:=λs hm=>by
     cases h:gR t s with
     |true=>rfl
     |false=>exact absurd ⟨s,hm,h⟩ hs
    by_cases hd:∃d,AGR t l d
    ·obtain⟨d,hd⟩:=hd;exact .inl ⟨d,ht,by omega,hs',hd⟩
    ·exact .inr ⟨72,.s72 ht (by omega) hs' λd h=>hd ⟨d,h⟩⟩
theorem Good.ht{t:aF}{l:List aB}{d:List Int}(h:Good t l d):TreeOK t:=oU h.tree
theorem Good.dok{t:aF}{l:List aB}{d:List Int}(h:Good t l d):DOK t d:=aFm h.ht h.slips h.agr.1
theorem Good.uniq{t:aF}{l:List aB}{d d':List Int}(h:Good t l d)(h':Good t l d'):d=d':=by
 have:=h.agr.1;rw[h'.agr.1] at this;exact(Option.some.inj this).symm
theorem aHg{t:aF}{l:List aB}{e:Int}(h:Stat t l e){Q:(Option aP×Int)->Prop}(hq:Q (none,e)):kN t l Q:=by
 unfold kN;refine⟨_,bAk t,?_⟩;cases h with
 |s70 ht=>simp only[ht,Bool.not_false,cond_true];exact hq
 | s71 ht hs=>
  simp only[ht,Bool.not_true,cond_false]
  by_cases hl:60<l.length
  ·have:decide (60<(l.length:Int))=true:=decide_eq_true (by omega);simp only[this,cond_true];exact⟨_,rfl,hq⟩
  ·have:decide (60<(l.length:Int))=false:=decide_eq_false (by omega);simp only[this,cond_false];rw[uP l (by omega) _ (λs=>!gR t s) λx _=>by simp[qS,aPe (oU ht)]];refine⟨_,rfl,?_⟩;have:(l.any λs=>!gR t s)=true:=by
    rcases hs with h|⟨s,h1,h2⟩
    ·exact absurd h hl
    ·rw[List.any_eq_true];exact⟨s,h1,by rw[h2];rfl⟩
   simp only[this,cond_true];exact hq
 | s72 ht hl hs hno=>
  have:decide (60<(l.length:Int))=false:=decide_eq_false (by omega);simp only[ht,Bool.not_true,cond_false,this];rw[uP l (by omega) _ (λs=>!gR t s) λx _=>by simp[qS,aPe (oU ht)]];refine⟨_,rfl,?_⟩;have:(l.any λs=>!gR t s)=false:=by
   rw[List.any_eq_false];intro s hm;rw[hs s hm];simp
  simp only[this,cond_false];exact aUl (oU ht) hs (by omega) (λd hd=>absurd hd (hno d)) λ_=>hq
theorem aEg{t:aF}{l:List aB}{d:List Int}(h:Good t l d){Q:(Option aP×Int)->Prop}(hq:∀won,WonIs won (fB d (Res l))->Q (some ⟨t,d,won⟩,0)):kN t l Q:=by
 unfold kN;have hl:=h.len;have:decide (60<(l.length:Int))=false:=decide_eq_false (by omega);refine⟨_,bAk t,?_⟩;simp only[h.tree,Bool.not_true,cond_false,this];rw[uP l (by omega) _ (λs=>!gR t s) λx _=>by simp[qS,aPe h.ht]];refine⟨_,rfl,?_⟩;have:(l.any λs=>!gR t s)=false:=by
  rw[List.any_eq_false];intro s hm;rw[h.slips s hm];simp
 simp only[this,cond_false];refine aUl h.ht h.slips (by omega) (λd' hd won hW=>?_) λhno=>absurd h.agr (hno d);have:=h.uniq ⟨h.tree,h.len,h.slips,hd⟩;subst this;exact hq won hW
theorem aIy{t:aF}(ht:TreeOK t){l:List aB}(hl:l.length<=60):gZ l t BIG 0=bif l.all (gR t) then lO l t else some 71:=by
 have:=eH (λk i=>gZ l t k i) l.length (λi=>l[i]?.any (gR t)) (some 71) (lO l t) ?_ ?_ BIG (bI (by omega))
 ·rw [this];have e:(List.range l.length).all (λi=>l[i]?.any (gR t))=l.all (gR t):=by
   rw[Bool.eq_iff_iff,dL,List.all_eq_true]
   constructor
   ·intro h x hx;obtain⟨i,hi,rfl⟩:=List.mem_iff_getElem.1 hx;have:=h i hi
    rwa[List.getElem?_eq_getElem hi] at this
   ·intro h i hi;rw[List.getElem?_eq_getElem hi];exact h _ (List.getElem_mem hi)
  rw[e]
 ·intro k i hi;simp only[gZ,Int.ofNat_lt,hi,decide_true,cond_true,aY hi,Option.bind_some,bKw ht,aZ (show i<9223372036854775807 by omega),List.getElem?_eq_getElem hi,Option.any_some];cases gR t l[i]<;>rfl
 ·intro k;have hlt:decide ((l.length:Int)<(l.length:Int))=false:=decide_eq_false (by omega);simp only[gZ,hlt,cond_false]
theorem aDu{t:aF}{l:List aB}{e:Int}(h:Stat t l e):eS t l=some e:=by
 unfold eS;rw[aZf,Option.bind_some];cases h with
 |s70 ht=>simp only[ht,Bool.not_false,cond_true]
 | s71 ht hs=>
  simp only[ht,Bool.not_true,cond_false]
  by_cases hl:60<l.length
  ·have:decide (60<(l.length:Int))=true:=decide_eq_true (by omega);simp only[this,cond_true]
  ·have:decide (60<(l.length:Int))=false:=decide_eq_false (by omega);have h2:l.all (gR t)=false:=by
    rcases hs with h|⟨s,h1,h2⟩
    ·exact absurd h hl
    ·rw[List.all_eq_false];exact⟨s,h1,by simp[h2]⟩
   simp only[this,cond_false,aIy (oU ht) (show l.length<=60 by omega),h2]
 | s72 ht hl hs hno=>
  have:decide (60<(l.length:Int))=false:=decide_eq_false (by omega);have h2:l.all (gR t)=true:=by rw[List.all_eq_true];exact hs
  simp only[ht,Bool.not_true,cond_false,this,aIy (oU ht) hl,h2,cond_true,lO,(aZt (oU ht) hs (by omega)).2 hno,Option.bind_some,Bool.not_false]
theorem xQ{t:aF}{l:List aB}{d:List Int}(h:Good t l d):∃must,cL t l=some (⟨d,must⟩,true)/\MustIs t must (fB d (Res l)):=
 (aZt h.ht h.slips (by have:=h.len;omega)).1 d h.agr
theorem uO{t:aF}{l:List aB}{d:List Int}(h:Good t l d):eS t l=some 0:=by
 have hl:=h.len;have:decide (60<(l.length:Int))=false:=decide_eq_false (by omega);have h2:l.all (gR t)=true:=by rw[List.all_eq_true];exact h.slips
 obtain⟨must,hd,_⟩:=xQ h;unfold eS;rw[aZf,Option.bind_some];simp only[h.tree,Bool.not_true,cond_false,this,aIy h.ht hl,h2,cond_true,lO,hd,Option.bind_some]
theorem aMe{t:aF}{won:List (aA×Int)}{must:List (List Int)}{P:pZ}(hW:WonIs won P)(hM:MustIs t must P){r p:Nat}(hr:r<t.Rounds.toNat)(hp:p<bS t r):
  eB (⟨r,p⟩:aA) won=!decide (mat must r p= -2):=by
 rw[Bool.eq_iff_iff,hW.has,Bool.not_eq_true',decide_eq_false_iff_not]
 constructor
 ·rintro⟨v,hv⟩;have:=(hM.mem r p v hr hp).2 hv;rw[this.1];exact this.2
 ·exactλh=>⟨_,(hM.mem r p _ hr hp).1 ⟨rfl,h⟩⟩
theorem aMd{t:aF}{won:List (aA×Int)}{must:List (List Int)}{P:pZ}(hW:WonIs won P)(hM:MustIs t must P){r p:Nat}(hr:r<t.Rounds.toNat)(hp:p<bS t r)(h:mat must r p≠-2)(z:Int):
  bR (⟨r,p⟩:aA) z won=mat must r p:=hW.get ((hM.mem r p _ hr hp).1 ⟨rfl,h⟩)
theorem aYd{t:aF}{must:List (List Int)}{P:pZ}(hM:MustIs t must P){r p:Nat}(hr:r<t.Rounds.toNat)(hp:p<bS t r):((idx must (r:Int)).bind λx=>idx x (p:Int))=some (mat must r p):=by
 have hl:=hM.len;have hrow:=hM.row r hr;have hrl:r<must.length:=by omega
 rw[aY hrl,Option.bind_some];unfold mat;rw[aW hrl] at hrow|-;have hp':p<must[r].length:=by omega
 rw[aY hp',aW hp']
theorem aSb{t:aF}{r:Nat}(hr:r+1<t.Rounds.toNat):bS t r=2*bS t ((r+1:Nat):Int):=by
 unfold bS;have e:t.Rounds.toNat-1-((r:Nat):Int).toNat=(t.Rounds.toNat-1-((r+1:Nat):Int).toNat)+1:=by omega
 rw[e,Nat.pow_succ];omega
def rS(d:List Int)(must:List (List Int))(r at':Nat):Int:=if r=0 then d.getD at' 0 else mat must (r-1) at'
section
variable{t:aF}(ht:TreeOK t){d:List Int}(hD:DOK t d){must:List (List Int)}{P:pZ}(hM:MustIs t must P){won:List (aA×Int)}(hW:WonIs won P)
include ht hD hM
theorem bOn{r p s:Nat}(hr:r<t.Rounds.toNat)(hp:p<bS t r)(hs:s<2):rZ ⟨d,must⟩ r p s=some (rS d must r (2*p+s)):=by
 have hpl:=qP ht (r:=(r:Int));have h5:=ht.r5;have w1:w64 (2*(p:Int))=((2*p:Nat):Int):=by rw[cD (by omega) (by omega)];omega
 have w2:w64 (((2*p:Nat):Int)+(s:Int))=((2*p+s:Nat):Int):=by rw[cD (by omega) (by omega)];omega
 unfold rZ rS;simp only[w1,w2]
 by_cases h0:r=0
 ·subst h0;have hp0:=aQx ht;have hlen:=hD.len;have hpl2:p<bS t 0:=hp;have hi:2*p+s<d.length:=by omega
  simp only[Int.natCast_zero,decide_true,cond_true,aY hi,Option.bind_some,if_true,aW hi]
 ·have hr0:decide ((r:Int)=0)=false:=decide_eq_false (by omega);have hw:w64 ((r:Int)-1)=((r-1:Nat):Int):=rN (by omega) (by omega);have hph:=aSb (t:=t) (r:=r-1) (by omega);have e:r-1+1=r:=by omega
  rw[e] at hph;have:=aYd hM (r:=r-1) (p:=2*p+s) (by omega) (by omega);simp only[hr0,cond_false,hw,if_neg h0];rw[<-this]
  congr 1
  funext x
  cases idx x ((2*p+s:Nat):Int)<;>rfl
include hW
theorem bJf{r p s:Nat}(hr:r<t.Rounds.toNat)(hp:p<bS t r)(hs:s<2):nD ⟨t,d,won⟩ ⟨r,p⟩ s=some (rS d must r (2*p+s)):=by
 have hpl:=qP ht (r:=(r:Int));have h5:=ht.r5;have w1:w64 (2*(p:Int))=((2*p:Nat):Int):=by rw[cD (by omega) (by omega)];omega
 have w2:w64 (((2*p:Nat):Int)+(s:Int))=((2*p+s:Nat):Int):=by rw[cD (by omega) (by omega)];omega
 unfold nD rS;simp only[w1,w2]
 by_cases h0:r=0
 ·subst h0;have hp0:=aQx ht;have hlen:=hD.len;have hpl2:p<bS t 0:=hp;have hi:2*p+s<d.length:=by omega
  simp only[Int.natCast_zero,decide_true,cond_true,aY hi,Option.bind_some,if_true,aW hi]
 ·have hr0:decide ((r:Int)=0)=false:=decide_eq_false (by omega);have hw:w64 ((r:Int)-1)=((r-1:Nat):Int):=rN (by omega) (by omega);have hph:=aSb (t:=t) (r:=r-1) (by omega);have e:r-1+1=r:=by omega
  rw[e] at hph;simp only[hr0,cond_false,hw,if_neg h0];have h1:r-1<t.Rounds.toNat:=by omega
  have h2:2*p+s<bS t ((r-1:Nat):Int):=by omega
  rw[aMe hW hM h1 h2]
  by_cases hm:mat must (r-1) (2*p+s)= -2
  ·simp only[hm,decide_true,Bool.not_true,cond_false]
  ·simp only[hm,decide_false,Bool.not_false,cond_true,aMd hW hM h1 h2 hm]
omit ht hD hM hW
def tD(t:aF)(d:List Int)(must:List (List Int))(r:Nat):List aN:=(List.range (bS t r)).map λp:Nat=>⟨r,p,rS d must r (2*p),rS d must r (2*p+1)⟩
def cB(t:aF)(d:List Int)(must:List (List Int)):List aN:=(List.range t.Rounds.toNat).flatMap (tD t d must)
theorem aAt{α:Type}(f:Nat->List α)(n:Nat):(List.range (n+1)).flatMap f=(List.range n).flatMap f++f n:=by
 rw[List.range_succ,List.flatMap_append];simp
include ht
theorem bQn(r:Nat):(tD t d must r).length<=16:=by
 have:=qP ht (r:=(r:Int))
 simpa[tD] using this
theorem aIc:∀r,((List.range r).flatMap (tD t d must)).length<=16*r
 |0=>by simp
 | r+1=>by
  have h1:=aIc r;have h2:=bQn ht (d:=d) (must:=must) r;rw[aAt,List.length_append];omega
include hD hM
theorem bMz:qZ t ⟨d,must⟩=some (cB t d must):=by
 have h1:=ht.r1;have h5:=ht.r5;unfold qZ;have:=dD (S:=List aN) (λk r out=>eC t ⟨d,must⟩ k r out) t.Rounds.toNat (λ_ _=>some (cB t d must)) (λr out=>out=(List.range r).flatMap (tD t d must)) ?_ ?_ BIG [] (bI (by omega)) (by simp)
 ·exact this
 ·rintro k r out hr rfl ih;have hfl:=aIc ht (d:=d) (must:=must) r;have hpl:=qP ht (r:=(r:Int));have hlt:decide ((r:Int)<t.Rounds)=true:=decide_eq_true (by omega);have hin:hZ (eC t ⟨d,must⟩ k) r t ⟨d,must⟩ BIG 0 ((List.range r).flatMap (tD t d must))=nU (eC t ⟨d,must⟩ k) r t ⟨d,must⟩ ((List.range r).flatMap (tD t d must)++tD t d must r):=by
   have hP:=aIa ht (r:=(r:Int)) (by omega) (by omega);refine dD (S:=List aN) (λq p out=>hZ (eC t ⟨d,must⟩ k) r t ⟨d,must⟩ q p out) (bS t r) (λ_ _=>nU (eC t ⟨d,must⟩ k) r t ⟨d,must⟩ ((List.range r).flatMap (tD t d must)++tD t d must r))
    (λp out=>out=(List.range r).flatMap (tD t d must)++(List.range p).map λp:Nat=>(⟨r,p,rS d must r (2*p),rS d must r (2*p+1)⟩:aN)) ?_ ?_ BIG _ (bI (by omega)) (by simp)
   ·rintro q p out hp rfl ih2;simp only[hZ,hP,Option.bind_some,Int.ofNat_lt,hp,decide_true,cond_true,aZ (show p<9223372036854775807 by omega)];have e0:=bOn ht hD hM hr hp (s:=0) (by omega);have e1:=bOn ht hD hM hr hp (s:=1) (by omega);simp only[Int.natCast_zero,Int.natCast_one,Nat.add_zero] at e0 e1;rw[e0,Option.bind_some,e1,Option.bind_some,eE (by simp only[List.length_append,List.length_map,List.length_range,List.length_cons,List.length_nil];omega),Option.bind_some];refine ih2 _ ?_;rw[List.range_succ,List.map_append,List.append_assoc];rfl
   ·rintro q out rfl;have hlt:decide ((bS t r:Int)<(bS t r:Int))=false:=decide_eq_false (by omega);simp only[hZ,hP,Option.bind_some,hlt,cond_false,tD]
  simp only[eC,hlt,cond_true,hin,nU,wE,aZ (show r<9223372036854775807 by omega)];exact ih _ (aAt _ _).symm
 ·rintro k out rfl;have hlt:decide (((t.Rounds.toNat:Nat):Int)<t.Rounds)=false:=decide_eq_false (by omega);simp only[eC,hlt,cond_false,wD]
  rfl
include hW
theorem bLa{S:Type}(y:S->aA->aN->Option S)(f:List aN->S)(good:List aN->Prop)
  (hy:∀(out:List aN) (r p:Nat),r<t.Rounds.toNat->p<bS t r->out.length<=200->y (f out) ⟨r,p⟩ ⟨r,p,rS d must r (2*p),rS d must r (2*p+1)⟩=some (f (out++[⟨r,p,rS d must r (2*p),rS d must r (2*p+1)⟩]))):
  mM ⟨t,d,won⟩ y (f [])=some (f (cB t d must)):=by
 have h1:=ht.r1;have h5:=ht.r5;unfold mM;have:=dD (S:=S) (λk r out=>dA y ⟨t,d,won⟩ t.Rounds k r out) t.Rounds.toNat (λ_ _=>some (f (cB t d must))) (λr out=>out=f ((List.range r).flatMap (tD t d must))) ?_ ?_ BIG (f []) (bI (by omega)) (by simp)
 ·exact this
 ·rintro k r out hr rfl ih;have hfl:=aIc ht (d:=d) (must:=must) r;have hpl:=qP ht (r:=(r:Int));have hlt:decide ((r:Int)<t.Rounds)=true:=decide_eq_true (by omega);have hch:chk (decide (0<=w64 ((r:Int)+1)))=some ():=by
   rw[aZ (by omega)];unfold chk;rw[decide_eq_true (by omega)];rfl
  have hin:fK y (dA y ⟨t,d,won⟩ t.Rounds k) ⟨t,d,won⟩ r t.Rounds r (bS t r) BIG 0 (f ((List.range r).flatMap (tD t d must)))=
    lF y (dA y ⟨t,d,won⟩ t.Rounds k) ⟨t,d,won⟩ t.Rounds r (f ((List.range r).flatMap (tD t d must)++tD t d must r)):=by
   refine dD (S:=S) (λq p out=>fK y (dA y ⟨t,d,won⟩ t.Rounds k) ⟨t,d,won⟩ r t.Rounds r (bS t r) q p out) (bS t r) (λ_ _=>lF y (dA y ⟨t,d,won⟩ t.Rounds k) ⟨t,d,won⟩ t.Rounds r (f ((List.range r).flatMap (tD t d must)++tD t d must r)))
    (λp out=>out=f ((List.range r).flatMap (tD t d must)++(List.range p).map λp:Nat=>(⟨r,p,rS d must r (2*p),rS d must r (2*p+1)⟩:aN))) ?_ ?_ BIG _ (bI (by omega)) (by simp)
   ·rintro q p out hp rfl ih2;have e0:=bJf ht hD hM hW hr hp (s:=0) (by omega);have e1:=bJf ht hD hM hW hr hp (s:=1) (by omega);simp only[Int.natCast_zero,Int.natCast_one,Nat.add_zero] at e0 e1;simp only[fK,Int.ofNat_lt,hp,decide_true,cond_true,aZ (show p<9223372036854775807 by omega),e0,e1,Option.bind_some];rw[hy _ r p hr hp (by simp only[List.length_append,List.length_map,List.length_range,List.length_cons,List.length_nil];omega),Option.bind_some];refine ih2 _ ?_;rw[List.range_succ,List.map_append,List.append_assoc];rfl
   ·rintro q out rfl;have hlt:decide ((bS t r:Int)<(bS t r:Int))=false:=decide_eq_false (by omega);simp only[fK,hlt,cond_false,tD]
  simp only[dA,hlt,cond_true,hch,Option.bind_some,bJe ht (r:=(r:Int)) (by omega) (by omega),hin,lF,rX];rw[aZ (show r<9223372036854775807 by omega)];exact ih _ (congrArg f (aAt _ _)).symm
 ·rintro k out rfl;have hlt:decide (((t.Rounds.toNat:Nat):Int)<t.Rounds)=false:=decide_eq_false (by omega);simp only[dA,hlt,cond_false,rW]
  rfl
end
theorem bMr(t:aF)(l:List aB){r:Int}(h:eS t l=some r)(Q:Int->Prop)(hq:Q r):vL t l Q:=by
 unfold vL
 rcases aCd t l with⟨d,hg⟩|⟨e,he⟩
 ·rw[uO hg] at h;cases h;exact aEg hg λwon _=>hq
 ·rw[aDu he] at h;cases h;exact aHg he hq
theorem aKy{t:aF}{l:List aB}{d:List Int}(h:Good t l d){must:List (List Int)}(hd:cL t l=some (⟨d,must⟩,true))(hM:MustIs t must (fB d (Res l))):jI t l=some (cB t d must,0):=by
 unfold jI;rw[uO h,Option.bind_some];simp only[decide_true,Bool.not_true,cond_false,hd,Option.bind_some,bMz h.ht h.dok hM]
theorem bMp{t:aF}{l:List aB}{e:Int}(h:Stat t l e):jI t l=some ([],e):=by
 unfold jI;rw[aDu h,Option.bind_some];simp only[h.ne,Bool.not_false,cond_true]
theorem bMq(t:aF)(l:List aB){r:List aN×Int}(h:jI t l=some r)(Q:List aN×Int->Prop)(hq:Q r):vK t l Q:=by
 unfold vK
 rcases aCd t l with⟨d,hg⟩|⟨e,he⟩
 ·obtain⟨must,hd,hM⟩:=xQ hg;rw[aKy hg hd hM] at h;cases h;refine aEg hg λwon hW=>?_;simp only[decide_true,Bool.not_true,cond_false];refine⟨_,rfl,_,?_,hq⟩;refine bLa hg.ht hg.dok hM hW _ (λx=>x) (λ_=>True) λout r p hr hp hl=>?_;rw[eE (by simp;omega)];rfl
 ·rw[bMp he] at h;cases h;refine aHg he ?_;simp only[he.ne,Bool.not_false,cond_true];exact hq
theorem bXp{t:aF}{l:List aB}{e:Int}(h:Stat t l e){r p:Int}{Q:(Option aP×aA×Int)->Prop}(hq:Q (none,⟨r,p⟩,e)):uT t l r p Q:=by
 unfold uT;refine aHg h ?_;simp only[h.ne,cond_false];exact⟨_,rfl,hq⟩
theorem bVb{t:aF}{l:List aB}{d:List Int}(h:Good t l d){r p:Int}{Q:(Option aP×aA×Int)->Prop}(hq:∀won,WonIs won (fB d (Res l))->Q (some ⟨t,d,won⟩,⟨r,p⟩,bif kS t r p then 0 else 1)):uT t l r p Q:=by
 unfold uT;refine aEg h λwon hW=>?_;have:=hq won hW;simp only[decide_true,cond_true,bUi h.ht,Option.bind_some];refine⟨_,rfl,?_⟩;cases hm:kS t r p with
 |true=>rw[hm] at this;exact this
 |false=>rw[hm] at this;exact this
theorem aXv{t:aF}{l:List aB}{e:Int}(h:Stat t l e)(r p:Int):iJ t l r p=some e:=by
 unfold iJ;rw[aDu h,Option.bind_some];simp only[h.ne,Bool.not_false,cond_true]
theorem aIf{t:aF}{l:List aB}{d:List Int}(h:Good t l d)(r p:Int):iJ t l r p=some (bif kS t r p then 0 else 1):=by
 unfold iJ;rw[uO h,Option.bind_some];simp only[decide_true,Bool.not_true,cond_false,aUg h.ht,Option.bind_some];cases kS t r p<;>rfl
theorem aVx{t:aF}{r p:Int}(h:kS t r p=true):∃r' p':Nat,r=r'/\p=p'/\r'<t.Rounds.toNat/\p'<bS t r':=by
 simp only[kS,Bool.and_eq_true,gY] at h;refine⟨r.toNat,p.toNat,by omega,by omega,by omega,?_⟩;have e:((r.toNat:Nat):Int)=r:=by omega
 rw[e];omega
theorem bKa{t:aF}{l:List aB}{e:Int}(h:Stat t l e)(r p:Int):eX t l r p=some (0,e):=by
 unfold eX;rw[aXv h,Option.bind_some];simp only[h.ne,Bool.not_false,cond_true]
theorem bJz{t:aF}{l:List aB}{d:List Int}(h:Good t l d){r p:Int}(hm:kS t r p=false):eX t l r p=some (0,1):=by
 unfold eX;rw[aIf h,hm,Option.bind_some]
 rfl
theorem aRo{t:aF}{l:List aB}{d:List Int}(h:Good t l d){must:List (List Int)}(hd:cL t l=some (⟨d,must⟩,true))(hM:MustIs t must (fB d (Res l))){r p:Nat}(hm:kS t r p=true):
  eX t l r p=some (if mat must r p= -2 then(0,3) else(mat must r p,0)):=by
 obtain⟨r',p',e1,e2,hr,hp⟩:=aVx hm;have e1:r=r':=by omega
 have e2:p=p':=by omega
 subst e1;subst e2;have hi:=aYd hM hr hp;unfold eX;rw[aIf h,hm,Option.bind_some];simp only[cond_true,decide_true,Bool.not_true,cond_false,hd,Option.bind_some];rw[<-Option.bind_assoc,hi,Option.bind_some]
 by_cases h2:mat must r p= -2
 ·simp only[h2,decide_true,cond_true,if_true]
 ·simp only[h2,decide_false,cond_false,if_false];rw[<-Option.bind_assoc,hi,Option.bind_some]
theorem bKb(t:aF)(l:List aB)(r p:Int){o:Int×Int}(h:eX t l r p=some o)(Q:Int×Int->Prop)(hq:Q o):tL t l r p Q:=by
 unfold tL
 rcases aCd t l with⟨d,hg⟩|⟨e,he⟩
 ·refine bVb hg λwon hW=>?_;cases hm:kS t r p with
  | false=>
   rw[bJz hg hm] at h;cases h;exact hq
  | true=>
   obtain⟨r',p',rfl,rfl,hr,hp⟩:=aVx hm;obtain⟨must,hd,hM⟩:=xQ hg;rw[aRo hg hd hM hm] at h;cases h;simp only[cond_true,decide_true,Bool.not_true,cond_false];refine⟨_,rfl,?_⟩;simp only[aMe hW hM hr hp]
   by_cases h2:mat must r' p'= -2
   ·rw[if_pos h2] at hq;simp only[h2,decide_true,Bool.not_true,Bool.not_false,cond_true];exact hq
   ·rw[if_neg h2] at hq;simp only[h2,decide_false,Bool.not_true,Bool.not_false,cond_false,aMd hW hM hr hp h2];exact hq
 ·rw[bKa he] at h;cases h;refine bXp he ?_;simp only[he.ne,Bool.not_false,cond_true];exact hq
end Go.Am
end
section
namespace Go.Am
structure HB(S ever:List Int)(U:List aB):Prop where
 se:∀x∈S,x∈ever
 ue:∀u∈U,u.Player∈ever
 us:∀u∈U,u.Player∉S
 uu:∀u∈U,∀v∈U,u.Player=v.Player->u=v
def bCo(S:List Int)(U:List aB)(i:Nat)(x:Int):Prop:=x=S.getD i 0\/∃u∈U,u.Place=(i:Int)/\u.Player=x
theorem HB.next{S ever:List Int}{U:List aB}(h:HB S ever U){s:aB}(hp:s.Player∉ever):HB S (ever++[s.Player]) (U++[s]):=by
 refine⟨λx hx=>List.mem_append_left _ (h.se x hx),λu hu=>?_,λu hu=>?_,λu hu v hv e=>?_⟩
 ·rcases List.mem_append.1 hu with hu|hu
  ·exact List.mem_append_left _ (h.ue u hu)
  ·simp at hu;subst hu;simp
 ·rcases List.mem_append.1 hu with hu|hu
  ·exact h.us u hu
  ·simp at hu;subst hu;exactλhs=>hp (h.se _ hs)
 ·rcases List.mem_append.1 hu with hu|hu
  ·rcases List.mem_append.1 hv with hv|hv
   ·exact h.uu u hu v hv e
   ·simp at hv;subst hv;exact absurd (e▸h.ue _ ‹u∈U›) hp
  ·simp at hu;subst hu
   rcases List.mem_append.1 hv with hv|hv
   ·exact absurd (e▸h.ue v hv) hp
   ·simp at hv;exact hv.symm
theorem aXb{L:List aB}{S:List Int}{i:Nat}:∀{n:Nat} {now:Int} {ever:List Int} {U:List aB} {now':Int} {ever':List Int} {U':List aB},
  HB S ever U->bCo S U i now->jS L i n now ever U=some (now',ever',U')->HB S ever' U'/\bCo S U' i now'/\(∀u∈U,u∈U')
 |0,_,_,_,_,_,_,_,_,h=>by simp[jS] at h
 | n +1,now,ever,U,now',ever',U',hB,hH,h=>by
  unfold jS at h;cases hc:iP L i now with
  | nil=>
   rw[hc] at h;simp only[Option.some.injEq,Prod.mk.injEq] at h;obtain⟨rfl,rfl,rfl⟩:=h;exact⟨hB,hH,λu hu=>hu⟩
  | cons s cs=>
   cases cs with
   |cons s2 cs=>simp[hc] at h
   | nil=>
    have hs:s∈iP L i now:=by rw[hc];simp
    obtain⟨m1,m2,m3⟩:=uJ.1 hs;rw[hc] at h
    by_cases hp:s.Player∈ever
    ·simp[hp] at h
    ·simp only[hp,if_false] at h;obtain⟨r1,r2,r3⟩:=aXb (hB.next hp) (.inr ⟨s,by simp,m2,rfl⟩) h;exact⟨r1,r2,λu hu=>r3 u (List.mem_append_left _ hu)⟩
theorem aWj{L:List aB}{S:List Int}:∀{n i:Nat} {d ever:List Int} {U:List aB} {d':List Int} {U':List aB},i+n<=d.length->HB S ever U->(∀j,j<d.length->bCo S U j (d.getD j 0))->
  gP L n i d ever U=some (d',U')->∃ever',HB S ever' U'/\(∀j,j<d'.length->bCo S U' j (d'.getD j 0))
 | 0,i,d,ever,U,d',U',hn,hB,hH,he=>by
  simp only[gP,Option.some.injEq,Prod.mk.injEq] at he;obtain⟨rfl,rfl⟩:=he;exact⟨ever,hB,hH⟩
 | n +1,i,d,ever,U,d',U',hn,hB,hH,he=>by
  unfold gP at he;have hid:i<d.length:=by omega
  cases hs:jS L i (L.length+1) (d.getD i 0) ever U with
  |none=>rw[hs] at he;simp at he
  | some q=>
   obtain⟨now',ever',U1⟩:=q;rw[hs] at he;obtain⟨r1,r2,r3⟩:=aXb hB (hH i hid) hs;refine aWj (by rw[List.length_set];omega) r1 (λj hj=>?_) he;rw[List.length_set] at hj;rw[nI hid]
   split
   ·rename_i e;subst e;exact r2
   ·rcases hH j hj with h|⟨u,hu,h⟩
    ·exact .inl h
    ·exact .inr ⟨u,r3 u hu,h⟩
structure HD(t:aF)(l:List aB)(d:List Int):Prop where
 us:∀u∈dF l,u.Player∉t.Slots
 uu:∀u∈dF l,∀v∈dF l,u.Player=v.Player->u=v
 home:∀j,j<d.length->bCo t.Slots (dF l) j (d.getD j 0)
theorem bHh{t:aF}(ht:TreeOK t){l:List aB}(hs:∀s∈l,gR t s=true){d:List Int}(h:mG t l=some d):HD t l d:=by
 unfold mG at h;split at h
 ·rename_i d' U hr
  split at h
  ·rename_i hU
   cases h;have hL:=aUh hs;obtain⟨ever,hI⟩:=aMt hL (aLa (dF l) (aFe ht)) (by omega) hr;have hall:∀u,u∈U↔u∈dF l:=λu=>by
    refine⟨hI.us u,λhu=>Classical.byContradiction λhn=>?_⟩;have:=mV (l:=u::U) (m:=dF l) (List.nodup_cons.2 ⟨hn,hI.un⟩) λx hx=>by
     rcases List.mem_cons.1 hx with rfl|hx
     ·exact hu
     ·exact hI.us x hx
    simp only[List.length_cons] at this
    omega
   obtain⟨ever',hB,hH⟩:=aWj (S:=t.Slots) (by omega) ⟨λx hx=>hx,by simp,by simp,by simp⟩ (λj _=>.inl rfl) hr;refine⟨λu hu=>hB.us u ((hall u).2 hu),λu hu v hv=>hB.uu u ((hall u).2 hu) v ((hall v).2 hv),λj hj=>?_⟩
   rcases hH j hj with h|⟨u,hu,h⟩
   ·exact .inl h
   ·exact .inr ⟨u,(hall u).1 hu,h⟩
  ·cases h
 ·cases h
theorem HD.same{t:aF}(ht:TreeOK t){l l':List aB}{d d':List Int}(h:HD t l d)(h':HD t l' d')(hl:d.length=t.Slots.length)(hl':d'.length=t.Slots.length)(hsub:∀s∈l',s∈l){a b:Nat}(ha:a<d'.length)(hb:b<d.length)
  (e:d'.getD a 0=d.getD b 0)(hn:d.getD b 0≠-1):a=b:=by
 have hL:∀u∈dF l',u∈dF l:=λu hu=>by
  simp only[dF,List.mem_filter,qO] at hu|-;exact⟨hsub u hu.1,hu.2⟩
 have hSm:∀j,j<t.Slots.length->t.Slots.getD j 0∈t.Slots:=λj hj=>aLz hj
 rcases h'.home a ha with e1|⟨u,hu,e1,e2⟩
 ·rcases h.home b hb with e3|⟨v,hv,e3,e4⟩
  ·have hab:t.Slots.getD a 0=t.Slots.getD b 0:=by rw[<-e1,<-e3,e]
   have ha':a<t.Slots.length:=hl'▸ha;have hb':b<t.Slots.length:=hl▸hb;rw[aW ha',aW hb'] at hab;rw[e3,aW hb'] at hn
   rcases Nat.lt_trichotomy a b with hlt|rfl|hlt
   ·exact absurd (ht.dup b hb' a hlt hab) hn
   ·rfl
   ·exact absurd (hab▸ht.dup a ha' b hlt hab.symm) hn
  ·exact absurd (by rw[e4,<-e,e1];exact hSm a (hl'▸ha)) (h.us v hv)
 ·rcases h.home b hb with e3|⟨v,hv,e3,e4⟩
  ·exact absurd (by rw[e2,e,e3];exact hSm b (hl▸hb)) (h.us u (hL u hu))
  ·have:=h.uu u (hL u hu) v hv (by rw[e2,e4,e]);subst this
   omega
theorem Good.home{t:aF}{l:List aB}{d:List Int}(h:Good t l d):HD t l d:=bHh h.ht h.slips h.agr.1
def sZ(t:aF):List (Nat×Nat):=(List.range t.Rounds.toNat).flatMap λr:Nat=>(List.range (bS t r)).map λp:Nat=>(r,p)
def aAu(d:List Int)(must:List (List Int))(x:Nat×Nat):aN:=⟨x.1,x.2,rS d must x.1 (2*x.2),rS d must x.1 (2*x.2+1)⟩
theorem bKj(t:aF)(d:List Int)(must:List (List Int)):cB t d must=(sZ t).map (aAu d must):=by
 unfold cB sZ;rw[List.map_flatMap]
 congr 1
 funext r
 rw[List.map_map]
 rfl
theorem aGz{t:aF}{x:Nat×Nat}:x∈sZ t↔x.1<t.Rounds.toNat/\x.2<bS t x.1:=by
 simp only[sZ,List.mem_flatMap,List.mem_range,List.mem_map]
 constructor
 ·rintro⟨r,hr,p,hp,rfl⟩;exact⟨hr,hp⟩
 ·rintro⟨hr,hp⟩;exact⟨x.1,hr,x.2,hp,rfl⟩
theorem bKs(t:aF):(sZ t).Nodup:=by
 have key:∀n,((List.range n).flatMap λr:Nat=>(List.range (bS t r)).map λp=>(r,p)).Nodup:=by
  intro n
  induction n with
  |zero=>simp
  | succ n ih=>
   rw[aAt];refine List.nodup_append.2 ⟨ih,?_,λx hx y hy e=>?_⟩
   ·exact List.Pairwise.map _ (λa b hab e=>hab (congrArg Prod.snd e)) List.nodup_range
   ·simp only[List.mem_flatMap,List.mem_range,List.mem_map] at hx hy;obtain⟨r,hr,p,hp,rfl⟩:=hx;obtain⟨q,hq,rfl⟩:=hy;have:=congrArg Prod.fst e
    simp at this
    omega
 exact key _
end Go.Am
end
section
namespace Go.Am
theorem bYt{α:Type}{l l':List α}(hn:l.Nodup)(hn':l'.Nodup)(h:∀x,x∈l↔x∈l'):(l=[]↔l'=[])/\(∀x,l=[x]↔l'=[x]):=by
 have key:∀{l l':List α},l.Nodup->l'.Nodup->(∀x,x∈l↔x∈l')->(l=[]->l'=[])/\∀x,l=[x]->l'=[x]:=by
  intro l l' hn hn' h;refine⟨λe=>?_,λx e=>?_⟩
  ·subst e;cases l' with
   |nil=>rfl
   |cons a l'=>exact absurd ((h a).2 (by simp)) (by simp)
  ·subst e;cases l' with
   |nil=>exact absurd ((h x).1 (by simp)) (by simp)
   | cons a l'=>
    have ha:a=x:=by simpa using(h a).2 (by simp)
    subst ha;cases l' with
    |nil=>rfl
    | cons b l'=>
     have hb:b=a:=by simpa using(h b).2 (by simp)
     subst hb
     simp at hn'
 exact⟨⟨(key hn hn' h).1,(key hn' hn λx=>(h x).symm).1⟩,λx=>⟨(key hn hn' h).2 x,(key hn' hn λx=>(h x).symm).2 x⟩⟩
theorem bEg{α:Type}[DecidableEq α]{l l':List α}(hn:l.Nodup)(hn':l'.Nodup)(h:∀x,x∈l↔x∈l'):l.length=l'.length:=
 Nat.le_antisymm (mV hn λx hx=>(h x).1 hx) (mV hn' λx hx=>(h x).2 hx)
theorem bBd{L L':List aB}(hn:L.Nodup)(hn':L'.Nodup)(h:∀x,x∈L↔x∈L')(i:Int):∀(n:Nat) (now:Int) (ever:List Int) (U:List aB),jS L i n now ever U=jS L' i n now ever U
 |0,_,_,_=>rfl
 | n +1,now,ever,U=>by
  have hc:=bYt (l:=iP L i now) (l':=iP L' i now) (hn.filter _) (hn'.filter _) λx=>by simp only[uJ,h]
  unfold jS;cases e:iP L i now with
  |nil=>rw[hc.1.1 e]
  | cons s cs=>
   cases cs with
   | nil=>
    rw[(hc.2 s).1 e];simp only;rw[bBd hn hn' h i n]
   | cons s2 cs=>
    cases e':iP L' i now with
    |nil=>rw[hc.1.2 e'] at e;cases e
    | cons s' cs'=>
     cases cs' with
     |nil=>rw[(hc.2 s').2 e'] at e;cases e
     |cons s2' cs'=>rfl
theorem bAv{L L':List aB}(hn:L.Nodup)(hn':L'.Nodup)(h:∀x,x∈L↔x∈L'):∀(n i:Nat) (d ever:List Int) (U:List aB),gP L n i d ever U=gP L' n i d ever U
 |0,_,_,_,_=>rfl
 | n+1,i,d,ever,U=>by
  unfold gP;rw[bBd hn hn' h,bEg hn hn' h];cases jS L' i (L'.length+1) (d.getD i 0) ever U with
  |none=>rfl
  |some q=>exact bAv hn hn' h n _ _ _ _
theorem aBk(l:List aB):(dF l).Nodup:=(aJl l).filter _
theorem aWc{l:List aB}{x:aB}:x∈dF l↔x∈l/\x.Kind=5:=by simp[dF,qO,isL]
theorem bLm{t:aF}{l l':List aB}(h:∀x:aB,x.Kind=5->(x∈l↔x∈l')):mG t l=mG t l':=by
 have hm:∀x,x∈dF l↔x∈dF l':=λx=>by
  rw[aWc,aWc];exact⟨λ⟨a,b⟩=>⟨(h x b).1 a,b⟩,λ⟨a,b⟩=>⟨(h x b).2 a,b⟩⟩
 unfold mG aIr;rw[bAv (aBk l) (aBk l') hm,bEg (aBk l) (aBk l') hm]
section
variable{t:aF}{l:List aB}{d:List Int}(hg:Good t l d)
include hg
theorem Good.fn:Func (fB d (Res l)):=hg.agr.2.fn
theorem Good.rok{x:aB}(hx:Res l x):ROK t x:=aUi (hg.slips x hx.1) hx.2
theorem Good.down{q p:Nat}{v:Int}(h:fB d (Res l) ⟨q,p⟩ v):∃a,a<d.length/\v=d.getD a 0/\d.getD a 0≠-1/\cell a q=⟨q,p⟩/\q<t.Rounds.toNat/\∀q',q'<=q->fB d (Res l) (cell a q') v:=by
 have hD:=hg.dok;have h1:=hg.ht.r1
 rcases h with⟨i,hi,hb,hm,hv⟩|⟨x,hx,a,ha,he,hv,q',hq,hm⟩
 ·have hsl:sib i<d.length:=by rw[hD.len];exact aKt hg.ht (by rw[<-hD.len];exact hi)
  have hq0:q=0:=by simp only[cell,aA.mk.injEq] at hm;omega
  refine⟨sib i,hsl,hv,hD.sib_ne hg.ht hi hb,by rw[hq0] at hm|-;exact hm.symm,by omega,λq' hq'=>?_⟩;have:q'=0:=by omega
  subst this;exact .inl ⟨i,hi,hb,rfl,hv⟩
 ·have hr:=hg.rok hx;have hp:=hr.p0;have hr0:=hr.r0;have hr1:=hr.r1;have hqq:q=q':=by simp only[cell,aA.mk.injEq] at hm;omega
  subst hqq;exact⟨a,ha,hv,by omega,hm.symm,by omega,λq' hq'=>.inr ⟨x,hx,a,ha,he,hv,q',by omega,rfl⟩⟩
end
theorem aAe{l:List aB}{x:aB}(hx:x.Kind≠5)(y:aB):Res (l++[x]) y↔Res l y\/y=x:=by
 unfold Res;rw[List.mem_append,List.mem_singleton]
 constructor
 ·rintro⟨h|h,h2⟩
  ·exact .inl ⟨h,h2⟩
  ·exact .inr h
 ·rintro(⟨h,h2⟩|rfl)
  ·exact⟨.inl h,h2⟩
  ·exact⟨.inr rfl,hx⟩
section
variable{t:aF}{l:List aB}{d:List Int}(hg:Good t l d){x:aB}(hx:x.Kind≠5)(hs:gR t x=true)
include hg hx hs
theorem aLf{a:Nat}(ha:a<d.length)(he:d.getD a 0=x.Player)(m:aA)(v:Int):fB d (Res (l++[x])) m v↔fB d (Res l) m v\/clm d a x.Round.toNat m v:=by
 have h1:=aQe hg.dok (aUi hs hx) ha he m v
 constructor
 ·rintro(h|⟨y,hy,h⟩)
  ·exact .inl (.inl h)
  ·rcases(aAe hx y).1 hy with hy|rfl
   ·exact .inl (.inr ⟨y,hy,h⟩)
   ·exact .inr (h1.1 ⟨_,rfl,h⟩)
 ·rintro((h|⟨y,hy,h⟩)|h)
  ·exact .inl h
  ·exact .inr ⟨y,(aAe hx y).2 (.inl hy),h⟩
  ·exact .inr ⟨x,(aAe hx x).2 (.inr rfl),a,ha,he,h⟩
omit hg hs in
theorem aWk:mG t (l++[x])=mG t l:=bLm λy hy=>by
 rw[List.mem_append,List.mem_singleton];exact⟨λh=>h.resolve_right λe=>hx (e▸hy),.inl⟩
theorem bUu{a:Nat}(ha:a<d.length)(he:d.getD a 0=x.Player)(hc:cell a x.Round.toNat=⟨x.Round,x.Place⟩)(hco:wW (fB d (Res l)) (clm d a x.Round.toNat))(hno:∀y∈l,y.Kind≠5->y.Round=x.Round->y.Place=x.Place->y=x):AGR t (l++[x]) d:=by
 have hO:=hg.agr.2;refine⟨by rw[aWk hx];exact hg.agr.1,λy hy z hz ky kz e1 e2=>?_,λy hy=>?_,λm v w h1 h2=>?_⟩
 ·rcases(aAe hx y).1 ⟨hy,ky⟩ with hy'|rfl
  ·rcases(aAe hx z).1 ⟨hz,kz⟩ with hz'|rfl
   ·exact hO.two y hy'.1 z hz'.1 ky kz e1 e2
   ·exact hno y hy'.1 ky e1 e2
  ·rcases(aAe hx z).1 ⟨hz,kz⟩ with hz'|hz'
   ·exact(hno z hz'.1 kz e1.symm e2.symm).symm
   ·exact hz'.symm
 ·rcases(aAe hx y).1 hy with hy'|rfl
  ·exact hO.slot y hy'
  ·exact⟨a,ha,he,hc⟩
 ·rcases(aLf hg hx hs ha he m v).1 h1 with p1|p1<;>rcases(aLf hg hx hs ha he m w).1 h2 with p2|p2
  ·exact hO.fn m v w p1 p2
  ·exact hco m v w p1 p2
  ·exact(hco m w v p2 p1).symm
  ·rw[p1.1,p2.1]
theorem bGr{d':List Int}(hA:AGR t (l++[x]) d'):d'=d/\∃a,a<d.length/\d.getD a 0=x.Player/\cell a x.Round.toNat=⟨x.Round,x.Place⟩/\wW (fB d (Res l)) (clm d a x.Round.toNat):=by
 have h1:=hA.1;rw[aWk hx,hg.agr.1] at h1;cases h1;obtain⟨a,ha,he,hc⟩:=hA.2.slot x ((aAe hx x).2 (.inr rfl));refine⟨rfl,a,ha,he,hc,λm v w p1 p2=>hA.2.fn m v w ((aLf hg hx hs ha he m v).2 (.inl p1)) ((aLf hg hx hs ha he m w).2 (.inr p2))⟩
theorem Good.add{a:Nat}(hl:l.length<60)(ha:a<d.length)(he:d.getD a 0=x.Player)(hc:cell a x.Round.toNat=⟨x.Round,x.Place⟩)(hco:wW (fB d (Res l)) (clm d a x.Round.toNat))(hno:∀y∈l,y.Kind≠5->y.Round=x.Round->y.Place=x.Place->y=x):Good t (l++[x]) d:=
 ⟨hg.tree,by simp;omega,λs hm=>by
  rcases List.mem_append.1 hm with h|h
  ·exact hg.slips s h
  ·rw[List.mem_singleton.1 h];exact hs,bUu hg hx hs ha he hc hco hno⟩
theorem Stat.add(hl:l.length<60)(hno:¬∃a,a<d.length/\d.getD a 0=x.Player/\cell a x.Round.toNat=⟨x.Round,x.Place⟩/\wW (fB d (Res l)) (clm d a x.Round.toNat)):Stat t (l++[x]) 72:=
 .s72 hg.tree (by simp;omega) (λs hm=>by
  rcases List.mem_append.1 hm with h|h
  ·exact hg.slips s h
  ·rw[List.mem_singleton.1 h];exact hs) λd' hd=>hno (bGr hg hx hs hd).2
end
end Go.Am
end
section
namespace Go.Am
def mT(bad:Nat->Bool)(n:Nat):Nat:=((List.range n).find? bad).getD n
theorem bHa(bad:Nat->Bool)(n:Nat):mT bad n<=n:=by
 unfold mT;cases h:(List.range n).find? bad with
 |none=>simp
 |some k=>have:=List.mem_of_find?_eq_some h;simp at this;simp;omega
theorem aJg{bad:Nat->Bool}{n r:Nat}(hr:r<n):r<mT bad n↔∀q,q<=r->bad q=false:=by
 unfold mT;cases h:(List.range n).find? bad with
 | none=>
  rw[List.find?_eq_none] at h;simp only[Option.getD_none,hr,true_iff];intro q hq;have:=h q (by simp;omega)
  simpa using this
 | some k=>
  obtain⟨hk,us,bs,he,hb⟩:=List.find?_eq_some_iff_append.1 h;have hkn:k<n:=by have:=List.mem_of_find?_eq_some h;simpa using this
  have hlen:us.length=k:=by
   have h1:(List.range n)[us.length]?=some k:=by rw[he];simp
   rw[List.getElem?_eq_some_iff] at h1;obtain⟨_,h1⟩:=h1
   simpa using h1
  have has:∀q,q<k->q∈us:=λq hq=>by
   have h1:(List.range n)[q]?=some q:=by rw[List.getElem?_range (by omega)]
   rw[he,List.getElem?_append_left (by omega)] at h1;exact List.mem_of_getElem? h1
  simp only[Option.getD_some]
  constructor
  ·intro hrk q hq;have:=hb q (has q (by omega))
   simpa using this
  ·intro hall;refine Classical.byContradiction λhn=>?_;rw[hall k (by omega)] at hk;cases hk
theorem aGq{bad:Nat->Bool}{n:Nat}(h:mT bad n<n):bad (mT bad n)=true:=by
 unfold mT at h|-;cases e:(List.range n).find? bad with
 |none=>rw[e] at h;simp at h
 |some k=>simp only[Option.getD_some];exact List.find?_some e
theorem aMf{T:Type}(F:Nat->Int->T)(n:Nat)(bad:Nat->Bool)(out:Nat->T)(hstep:∀k i:Nat,i<n->F (k+1) (i:Int)=bif bad i then out i else F k ((i+1:Nat):Int))(hstop:∀k,F (k+1) (n:Int)=out n):∀k,n<k->F k 0=out (mT bad n):=by
 have:=λk h=>dD (S:=Unit) (λk i _=>F k i) n (λi _=>out (((List.range' i (n-i)).find? bad).getD n)) (λ_ _=>True) ?_ ?_ k () h trivial
 ·intro k h;have:=this k h
  simpa[mT,List.range_eq_range'] using this
 ·intro k i _ hi _ ih;have e:n-i=(n-(i+1))+1:=by omega
  rw[hstep k i hi,ih () trivial,e,List.range'_succ,List.find?_cons];cases bad i<;>simp
 ·intro k _ _;rw[hstop k];simp
section
variable{t:aF}(d:List Int)(must:List (List Int))(a:Nat)
def aSo(r:Nat):Bool:=!decide (mat must r (a/2^(r+1))= -2)&&!decide (mat must r (a/2^(r+1))=d.getD a 0)
def bQo(r:Nat):Bool:=!decide (mat must r (a/2^(r+1))=d.getD a 0)
def mU(t:aF):Nat:=mT (aSo d must a) t.Rounds.toNat
def bYi(t:aF):Nat:=mT (bQo d must a) t.Rounds.toNat
end
section
variable{t:aF}(ht:TreeOK t){d:List Int}(hD:DOK t d){must:List (List Int)}{P:pZ}(hM:MustIs t must P)
include ht hD hM
theorem bSf{a q:Nat}(ha:a<d.length)(hq:q<t.Rounds.toNat)(v:Int):(mat must q (a/2^(q+1))=v/\v≠-2)↔P (cell a q) v:=hM.mem q _ v hq (yN ht (hD.len▸ha) hq)
theorem bQp{a q:Nat}(ha:a<d.length)(hq:q<t.Rounds.toNat):aSo d must a q=false↔∀v,P (cell a q) v->v=d.getD a 0:=by
 have hm:=bSf ht hD hM ha hq;unfold aSo;rw[Bool.and_eq_false_iff,Bool.not_eq_false',Bool.not_eq_false',decide_eq_true_eq,decide_eq_true_eq]
 constructor
 ·rintro(h|h) v hv
  ·have:=(hm v).2 hv;exact absurd (this.1.symm.trans h) this.2
  ·have:=(hm v).2 hv;exact this.1.symm.trans h
 ·intro h
  by_cases h2:mat must q (a/2^(q+1))= -2
  ·exact .inl h2
  ·exact .inr (h _ ((hm _).1 ⟨rfl,h2⟩))
end
def Srt(l:List Int):Prop:=l.Pairwise (·<=·)
structure SinkI(l out:List Int)(k:Nat):Prop where
 lt:k<out.length
 perm:out.Perm l
 srt:∀i j,i<j->j<out.length->j≠k->i≠k->out.getD i 0<=out.getD j 0
 up:∀j,k<j->j<out.length->out.getD k 0<=out.getD j 0
theorem SinkI.done{l out:List Int}{k:Nat}(h:SinkI l out k)(hd:k=0\/out.getD (k-1) 0<=out.getD k 0):Srt out/\out.Perm l:=by
 refine⟨?_,h.perm⟩;unfold Srt;rw[List.pairwise_iff_getElem];intro i j hi hj hij;rw[<-aW hi 0,<-aW hj 0]
 by_cases hjk:j=k
 ·subst hjk
  rcases hd with h0|h0
  ·omega
  ·by_cases hik:i=j-1
   ·subst hik;exact h0
   ·have:=h.srt i (j-1) (by omega) (by omega) (by omega) (by omega)
    omega
 ·by_cases hik:i=k
  ·subst hik;exact h.up j hij hj
  ·exact h.srt i j hij hj hjk hik
theorem bPr{l:List Int}{i j:Nat}(hi:i<l.length)(hj:j<l.length):((l.set i (l.getD j 0)).set j (l.getD i 0)).Perm l:=by
 rw[aW hi,aW hj]
 by_cases hij:i=j
 ·subst hij;rw[List.set_set];rw[List.set_getElem_self]
 ·exact List.set_set_perm hi hj
theorem SinkI.next{l out:List Int}{k:Nat}(h:SinkI l out k)(hk:0<k)(hlt:out.getD k 0<out.getD (k-1) 0):SinkI l ((out.set k (out.getD (k-1) 0)).set (k-1) (out.getD k 0)) (k-1):=by
 have hkl:=h.lt;have hg:∀j,((out.set k (out.getD (k-1) 0)).set (k-1) (out.getD k 0)).getD j 0=if j=k-1 then out.getD k 0 else if j=k then out.getD (k-1) 0 else out.getD j 0:=by
  intro j;rw[nI (by rw[List.length_set];omega),nI hkl]
 refine⟨by simp;omega,(bPr hkl (by omega)).trans h.perm,λi j hij hj hjk hik=>?_,λj hj1 hj=>?_⟩
 ·simp only[List.length_set] at hj;rw[hg,hg,if_neg hik,if_neg hjk]
  by_cases hi:i=k
  ·subst hi;rw[if_pos rfl,if_neg (by omega)];exact h.srt (i-1) j (by omega) hj (by omega) (by omega)
  ·rw[if_neg hi]
   by_cases hj':j=k
   ·subst hj';rw[if_pos rfl];exact h.srt i (j-1) (by omega) (by omega) (by omega) (by omega)
   ·rw[if_neg hj'];exact h.srt i j hij hj hj' hi
 ·simp only[List.length_set] at hj;rw[hg,hg,if_pos rfl,if_neg (by omega)]
  by_cases hj':j=k
  ·subst hj';rw[if_pos rfl];omega
  ·rw[if_neg hj'];exact h.up j (by omega) hj
theorem SinkI.start{out:List Int}(hs:Srt out)(x:Int):SinkI (out++[x]) (out++[x]) out.length:=by
 unfold Srt at hs;rw[List.pairwise_iff_getElem] at hs;refine⟨by simp,.refl _,λi j hij hj hjk hik=>?_,λj h1 h2=>by simp at h2;omega⟩;simp only[List.length_append,List.length_singleton] at hj;have hj':j<out.length:=by omega
 have hi':i<out.length:=by omega
 rw[aW (by simp;omega),aW (by simp;omega),List.getElem_append_left hi',List.getElem_append_left hj'];exact hs i j hi' hj' hij
end Go.Am
end
section
namespace Go.Am
section
variable{t:aF}{l:List aB}{d:List Int}(hg:Good t l d)
include hg
end
end Go.Am
end
section
namespace Go.Am
section
variable{t:aF}(ht:TreeOK t){d:List Int}(hD:DOK t d){must:List (List Int)}{P:pZ}(hM:MustIs t must P){won:List (aA×Int)}(hW:WonIs won P)
include ht hD hM
theorem bEr{a:Nat}(ha:a<d.length):wS t ⟨d,must⟩ a=some (mU d must a t:Int):=by
 have h1:=ht.r1;have h5:=ht.r5;unfold wS;refine aMf (λk i=>pA a t ⟨d,must⟩ k i) t.Rounds.toNat (aSo d must a) (λi=>some (i:Int)) (λk i hi=>?_) (λk=>?_) BIG (bI (by omega))
 ·have hlt:decide ((i:Int)<t.Rounds)=true:=decide_eq_true (by omega);have hw:w64 ((i:Int)+1)=((i+1:Nat):Int):=aZ (by omega);have hu:IntKind.u64.wrap ((i+1:Nat):Int)=((i+1:Nat):Int):=aAp (by omega) (by omega);have hch:chk (decide (0<=((i+1:Nat):Int)))=some ():=by unfold chk;rw[decide_eq_true (by omega)];rfl
  have hmin:min ((i+1:Nat):Int).toNat 64=i+1:=by omega
  have hml:=hM.len;have hrl:=hM.row i hi;have hpin:=yN ht (hD.len▸ha) hi;have hql:i<must.length:=by omega
  have hi1:idx must (i:Int)=some (must.getD i []):=by rw[aY hql,aW hql]
  have hi2:idx (must.getD i []) ((a/2^(i+1):Nat):Int)=some (mat must i (a/2^(i+1))):=by
   have hlt':a/2^(i+1)<(must.getD i []).length:=by omega
   rw[aY hlt'];exact congrArg some (aW hlt' (-2)).symm
  simp only[pA,hlt,cond_true,hw,hu,hch,hmin,aGo,Option.bind_some,hi1,hi2,aY ha,dJ,xM];rw[<-aW ha 0];unfold aSo;cases decide (mat must i (a/2^(i+1))= -2)<;>cases decide (mat must i (a/2^(i+1))=d.getD a 0)<;>rfl
 ·have hlt:decide (((t.Rounds.toNat:Nat):Int)<t.Rounds)=false:=decide_eq_false (by omega);simp only[pA,hlt,cond_false,Option.bind_some,xM]
include hW
theorem bNa{a:Nat}(ha:a<d.length):oC ⟨t,d,won⟩ a=some (mU d must a t:Int):=by
 have h1:=ht.r1;have h5:=ht.r5;have e:t.Rounds=((t.Rounds.toNat:Nat):Int):=by omega
 unfold oC;refine aMf (λk i=>jY ⟨t,d,won⟩ a t.Rounds k i) t.Rounds.toNat (aSo d must a) (λi=>some (i:Int)) (λk i hi=>?_) (λk=>?_) BIG (bI (by omega))
 ·have hlt:decide ((i:Int)<t.Rounds)=true:=decide_eq_true (by omega);have hpin:=yN ht (hD.len▸ha) hi;have hh:=aMe hW hM hi hpin;simp only[jY,hlt,cond_true,aMo (show i<=5 by omega),Option.bind_some,aZ (show i<9223372036854775807 by omega),aY ha];have hcell:cell a i=⟨(i:Int),((a/2^(i+1):Nat):Int)⟩:=rfl;rw[<-aW ha 0,hcell,hh];unfold aSo
  by_cases h2:mat must i (a/2^(i+1))= -2
  ·simp only[h2,decide_true,Bool.not_true,cond_false,Option.bind_some,Bool.false_and]
  ·simp only[h2,decide_false,Bool.not_false,cond_true,Option.bind_some,Bool.true_and,aMd hW hM hi hpin h2]
 ·have hlt:decide (((t.Rounds.toNat:Nat):Int)<t.Rounds)=false:=decide_eq_false (by omega);simp only[jY,hlt,cond_false,vX];rw[<-e]
theorem bDy{a:Nat}(ha:a<d.length):aGk ⟨t,d,won⟩ a=some (bYi d must a t:Int):=by
 have h1:=ht.r1;have h5:=ht.r5;have e:t.Rounds=((t.Rounds.toNat:Nat):Int):=by omega
 have hrng:=hD.rng a ha;unfold aGk;refine aMf (λk i=>nR ⟨t,d,won⟩ a t.Rounds k i) t.Rounds.toNat (bQo d must a) (λi=>some (i:Int)) (λk i hi=>?_) (λk=>?_) BIG (bI (by omega))
 ·have hlt:decide ((i:Int)<t.Rounds)=true:=decide_eq_true (by omega);have hpin:=yN ht (hD.len▸ha) hi;have hh:=aMe hW hM hi hpin;simp only[nR,hlt,cond_true,aMo (show i<=5 by omega),Option.bind_some,aZ (show i<9223372036854775807 by omega),aY ha];have hcell:cell a i=⟨(i:Int),((a/2^(i+1):Nat):Int)⟩:=rfl;rw[<-aW ha 0,hcell,hh];unfold bQo
  by_cases h2:mat must i (a/2^(i+1))= -2
  ·have h3:decide (mat must i (a/2^(i+1))=d.getD a 0)=false:=decide_eq_false (by omega);simp only[h2] at h3;simp only[h2,h3,decide_true,Bool.not_true,Bool.not_false,cond_true,Option.bind_some]
  ·simp only[h2,decide_false,Bool.not_false,Bool.not_true,cond_false,Option.bind_some,aMd hW hM hi hpin h2]
 ·have hlt:decide (((t.Rounds.toNat:Nat):Int)<t.Rounds)=false:=decide_eq_false (by omega);simp only[nR,hlt,cond_false,aCg];rw[<-e]
end
section
variable{t:aF}{l:List aB}{d:List Int}(hg:Good t l d){must:List (List Int)}(hd:cL t l=some (⟨d,must⟩,true))(hM:MustIs t must (fB d (Res l)))
include hg hM
end
theorem bWg{α:Type}(A:Option Int)(B:Option (aJ×Bool))(F:aJ->Option α)(z:Int->α){d:aJ}(hA:A=some 0)(hB:B=some (d,true)):
  (A.bind λr2=>bif !decide (r2=0) then some (z r2) else(B.bind λr3=>F r3.1))=F d:=by subst hA;subst hB;rfl
end Go.Am
end
