/- Several texts, one behind the other. -/
import Derived.Test.YtdebnakalmnnpaaGreatDoorAmX12
section
section
namespace Go.Am
abbrev qT:=Nat->Nat×Nat×Value
def aIn[Mode](P:Program)(n:Nat)(β:qT)(ops:List Oper)(l:List Oper)(S:VS)(Q:Exit->VS->Prop):Prop:=
 ∀ρ:Rho,ρ.β=β->TrL P n ops.toArray l (S.at ρ) λe st=>∃(S':VS) (ρ':Rho),ρ'.β=β/\Q e S'/\Ent st (S'.at ρ')
def TrV[Mode](P:Program)(n:Nat)(β:qT)(c:Code)(S:VS)(Q:Exit->VS->Prop):Prop:=
 ∀ρ:Rho,ρ.β=β->Tr P n c (S.at ρ) λe st=>∃(S':VS) (ρ':Rho),ρ'.β=β/\Q e S'/\Ent st (S'.at ρ')
def LeV[Mode](β:qT)(S S':VS):Prop:=∀ρ:Rho,ρ.β=β->∃ρ':Rho,ρ'.β=β/\Ent (S.at ρ) (S'.at ρ')
theorem LeV.refl[Mode](β:qT)(S:VS):LeV β S S:=λρ h=>⟨ρ,h,Ent.refl _⟩
def aKv[Mode](P:Program)(n:Nat)(β:qT)(o:Oper)(S:VS)(K:VS->Prop):Prop:=
 ∀ρ:Rho,ρ.β=β->Step P n o (S.at ρ) λst=>∃(S':VS) (ρ':Rho),ρ'.β=β/\K S'/\Ent st (S'.at ρ')
def bQe(h:Nat)(m:VO):List (Nat×VO)->(List (Nat×VO)->Prop)->Prop
 |[],K=>K [(h,m)]
 |(k,x)::l,K=>bif Nat.beq k h then K ((k,m)::l) else bQe h m l λl'=>K ((k,x)::l')
def bOw(h:Nat):List (Nat×VO)->(List (Nat×VO)->Prop)->Prop
 |[],K=>K []
 |(k,x)::l,K=>bif Nat.beq k h then K l else bOw h l λl'=>K ((k,x)::l')
def bBc:List (Nat×Option VO)->List (Nat×VO)->(List (Nat×VO)->Prop)->Prop
 |[],l,K=>K l
 |(h,some m)::c,l,K=>bQe h m l λl=>bBc c l K
 |(h,none)::c,l,K=>bOw h l λl=>bBc c l K
theorem bUe{h:Nat}{m:VO}:∀{l:List (Nat×VO)} {K:List (Nat×VO)->Prop},bQe h m l K->K (fD h m l)
 |[],_,hK=>hK
 | (k,x)::l,K,hK=>by
  simp only[bQe] at hK;simp only[fD];cases hb:Nat.beq k h with
  |true=>rw[hb] at hK;exact hK
  |false=>rw[hb] at hK;exact bUe (K:=λl'=>K ((k,x)::l')) hK
theorem bSe{h:Nat}:∀{l:List (Nat×VO)} {K:List (Nat×VO)->Prop},bOw h l K->K (fV h l)
 |[],_,hK=>hK
 | (k,x)::l,K,hK=>by
  simp only[bOw] at hK;simp only[fV];cases hb:Nat.beq k h with
  |true=>rw[hb] at hK;exact hK
  |false=>rw[hb] at hK;exact bSe (K:=λl'=>K ((k,x)::l')) hK
theorem aYa:∀{c:List (Nat×Option VO)} {l:List (Nat×VO)} {K:List (Nat×VO)->Prop},bBc c l K->K (chg c l)
 |[],_,_,h=>h
 | (h,some m)::c,l,K,hK=>by
  have:=aYa (bUe (K:=λl=>bBc c l K) hK);exact this
 | (h,none)::c,l,K,hK=>by
  have:=aYa (bSe (K:=λl=>bBc c l K) hK);exact this
def tO(d:Option Nat)(e:Eff)(S:VS)(K:VS->Prop):Prop:=match S,e with
 | ⟨env,objs⟩,⟨v,ch,_,_⟩=>bBc ch objs λobjs=>match d with
  |some d=>K ⟨(d,v)::env,objs⟩
  |none=>K ⟨env,objs⟩
theorem bGi{d:Option Nat}{e:Eff}{S:VS}{K:VS->Prop}(h:tO d e S K):K (S.app d e):=by
 obtain⟨env,objs⟩:=S;obtain⟨v,ch,us,nw⟩:=e;cases d with
 |some d=>exact aYa (K:=λobjs=>K ⟨(d,v)::env,objs⟩) h
 |none=>exact aYa (K:=λobjs=>K ⟨env,objs⟩) h
def aDe(S:VS):List Nat->Prop->Prop
 |[],p=>p
 |h::l,p=>bif lW h S||Nat.ble 100000 h then False else aDe S l p
theorem aSi{S:VS}:∀{l:List Nat} {p:Prop},aDe S l p->p/\∀h∈l,lW h S=false/\Nat.ble 100000 h=false
 |[],_,h=>⟨h,by simp⟩
 | k::l,p,h=>by
  obtain⟨hb,h⟩:=cnf h;simp only[Bool.or_eq_false_iff] at hb;obtain⟨hp,hl⟩:=aSi h;exact⟨hp,λx hx=>by
   rcases List.mem_cons.1 hx with rfl|hx
   ·exact hb
   ·exact hl x hx⟩
def aOk:List Oper->Nat->Option Nat
 |[],_=>none
 |o::_,0=>o.dst
 |_::l,i+1=>aOk l i
theorem aWj:∀{l:List Oper} {i:Nat},aOk l i=(l[i]?).bind (·.dst)
 |[],_=>by simp[aOk]
 |_::_,0=>by simp[aOk]
 |_::l,i+1=>by simp[aOk,aWj (l:=l)]
def yN(n:Nat):List Oper->Bool
 |[]=>true
 |o::l=>(match o.dst with|some d=>Nat.ble (d+1) n|none=>true)&&yN n l
theorem aYe{n:Nat}:∀{l:List Oper},yN n l=true->∀o∈l,∀d,o.dst=some d->d<n
 |[],_,o,h=>by cases h
 | x::l,h,o,ho=>by
  simp only[yN,Bool.and_eq_true] at h
  rcases List.mem_cons.1 ho with rfl|ho
  ·intro d hd;have h1:=h.1;rw[hd] at h1;exact Nat.le_of_ble_eq_true h1
  ·exact aYe h.2 o ho
structure XP where
 ow:List Nat:=[]
 nd:List Nat:=[]
 lt:List (Nat×List Nat):=[]
 lr:List (Nat×List Nat):=[]
def fG(i j:Nat):List Oper->Nat
 |[]=>0
 | o::l=>match o.guard with
  |some (q,_)=>bif Nat.beq q j||Nat.ble i q then fG i j l+1 else 0
  |none=>0
def cFk(X:XP)(o:Oper):Bool:=match o.dst,o.op with
 |none,_=>true
 |_,.mapUpdate .. =>true
 |some d,_=>aV d X.nd
def aQv(X:XP):Nat->List Oper->Bool
 |m+1,o::l=>cFk X o||aQv X m l
 |_,_=>false
def gF:Nat->List Oper->List Nat
 |m+1,o::l=>o.dst.getD 0::gF m l
 |_,_=>[]
def aNq:Nat->List (Nat×AV)->List (Nat×AV)
 |0,l=>l
 |_+1,[]=>[]
 |m+1,_::l=>aNq m l
def bAm(ds:List Nat):Nat->List (Nat×AV)->Bool
 |m+1,p::l=>aV p.1 ds&&bAm ds m l
 |_,_=>true
def tN:List Nat->List (Nat×AV)->List (Nat×AV)
 |[],l=>l
 |d::ds,l=>(d,.any)::tN ds l
def GN(S:VS)(m t:Nat)(ds:List Nat)(x:Bool)(S':VS):Prop:=aNq m S'.env=S.env/\bAm (t::ds) m S'.env=true/\lk S'.env t=.b x/\S'.objs=S.objs
structure JG(S:VS)(m t:Nat)(ds:List Nat)(A:(VS->Prop)->Prop)(B:VS->Prop):Prop where
 h:∃x:Bool,A (GN S m t ds x)/\B ⟨(t,.b x)::tN ds S.env,S.objs⟩
def ckd:List (Nat×Bool)->Nat->Option Bool
 |[],_=>none
 |(k,b)::l,s=>bif Nat.beq k s then some b else ckd l s
def aTt(t:Nat)(ds:List Nat):List (Nat×Bool)->Bool
 |[]=>true
 |p::l=>(!(aV p.1 ds)&&!(Nat.beq t p.1))&&aTt t ds l
section
variable{P:Program}(T:TT P)(n:Nat)(β:qT)(X:XP)(ops:List Oper)
def opK[Mode](cur:List (Nat×Bool))(o:Oper)(S:VS)(K:VS->Prop):Prop:=match cur,o.op,o.dst with
 | _::_,.pick (.tmp s) x y,some d=>match ckd cur s with
  |some true=>aAb S x λe=>tO (some d) e S K
  |some false=>aAb S y λe=>tO (some d) e S K
  |none=>xop T n X.ow S o λe=>aDe S e.nw (tO o.dst e S K)
 |_,_,_=>xop T n X.ow S o λe=>aDe S e.nw (tO o.dst e S K)
def bAj[Mode](cur:List (Nat×Bool))(o:Oper)(S:VS)(K:VS->Prop):Prop:=
 bif aV (o.dst.getD 0) X.nd then(match cur with|[]=>aKv P n β o S K|_=>False) else bif (ckd cur (o.dst.getD 0)).isSome then False else opK T n X cur o S K
def aKo[Mode](cur:List (Nat×Bool))(o:Oper)(S:VS)(K:VS->Prop):Prop:=match lkL X.lt (o.dst.getD 0),cur with
 |[],_=>bAj T n β X cur o S K
 |h::hs,[]=>bWs (h::hs) S λS=>bAj T n β X [] o S K
 |_,_=>False
def yA(cur:List (Nat×Bool))(o:Oper)(S:VS)(K:VS->Prop):Prop:=match S,o.dst with
 |⟨env,objs⟩,some d=>bif (ckd cur d).isSome then False else K ⟨(d,.tup [])::env,objs⟩
 |_,none=>False
abbrev RL:=Nat->Nat->Nat->List (Nat×Bool)->VS->(VS->Prop)->Prop
def bQj [Mode](o:Oper)(l:List Oper)(ih:RL):RL:=λi sk lim cur S K=>match sk,lim with
 |sk+1,lim=>ih (i+1) sk lim cur S K
 |0,0=>K S
 | 0, lim+1=>match o.guard with
  |none=>aKo T n β X cur o S λS=>ih (i+1) 0 lim cur S K
  | some (j,g)=>match aOk ops j with
   | some s=>bif Nat.ble (s+1) n then(match ckd cur s with
    |some c=>bif (bif g then c else !c) then aKo T n β X cur o S λS=>ih (i+1) 0 lim cur S K else yA cur o S λS=>ih (i+1) 0 lim cur S K
    | none=>match lk S.env s with
     | .d (.lit (.bool c))=>bif aQv X (fG i j (o::l)) (o::l) then
       OB c λc=>bif (bif g then c else !c) then aKo T n β X ((s,c)::cur) o S λS=>ih (i+1) 0 lim ((s,c)::cur) S K else yA ((s,c)::cur) o S λS=>ih (i+1) 0 lim ((s,c)::cur) S K
      else bif Nat.ble (fG i j l+2) (lim+1)&&aTt (((gF (fG i j l+2) (o::l)).getLast?).getD 0) (gF (fG i j l+1) (o::l)) cur then
       JG S (fG i j l+2) (((gF (fG i j l+2) (o::l)).getLast?).getD 0) (gF (fG i j l+1) (o::l))
        (λN=>OB c λc=>bif (bif g then c else !c) then aKo T n β X ((s,c)::cur) o S λS=>ih (i+1) 0 (fG i j l+1) ((s,c)::cur) S N else yA ((s,c)::cur) o S λS=>ih (i+1) 0 (fG i j l+1) ((s,c)::cur) S N)
        (λS=>ih (i+1) (fG i j l+1) (lim-(fG i j l+1)) cur S K)
      else False
     | .tup []=>yA cur o S λS=>ih (i+1) 0 lim cur S K
     |_=>False) else False
   |none=>False
def aPb[Mode](l:List Oper):RL:=List.rec (motive:=λ_=>RL) (λ_ _ _ _ S K=>K S) (λo l ih=>bQj T n β X ops o l ih) l
end
section
variable{P:Program}{T:TT P}{n:Nat}{β:qT}{X:XP}{ops:List Oper}
def mS(cur:List (Nat×Bool))(S:VS):Prop:=∀s b,ckd cur s=some b->lk S.env s=.b b
theorem aDa{S:VS}{ρ:Rho}{s:Nat}{v:AV}(h:lk S.env s=v):(S.at ρ).env s=ρ.av v:=by rw[<-h];rfl
theorem cBy[Mode]{o:Oper}{S:VS}{K:VS->Prop}(h:cA P n o S λe=>aDe S e.nw (tO o.dst e S K)):aKv P n β o S (λS'=>K S'/\∀s,(o.dst=none\/∃d,o.dst=some d/\Nat.beq d s=false)->lk S'.env s=lk S.env s):=by
 obtain⟨e,hK,hS⟩:=h.h;obtain⟨h1,h2⟩:=aSi hK;intro ρ hρ;refine dJ (hS S ⟨λ_ _=>rfl,λ_ _=>rfl⟩ h2 ρ) ?_;rintro st ⟨ρ',hβ,he⟩;refine⟨_,ρ',hβ.trans hρ,⟨bGi h1,λs hs=>?_⟩,he⟩;simp only[VS.app]
 rcases hs with hs|⟨d,hs,hd⟩
 ·rw[hs]
 ·rw[hs];simp[lk,hd]
theorem cFw[Mode]{cur:List (Nat×Bool)}{o:Oper}{S:VS}{K:VS->Prop}(hc:mS cur S)(hd:∀d,o.dst=some d->d<n)(h:opK T n X cur o S K):cA P n o S λe=>aDe S e.nw (tO o.dst e S K):=by
 unfold opK at h;split at h
 ·rename_i p cl s x y d hop hdst
  have hs:∀b,ckd (p::cl) s=some b->lk S.env s=.b b:=λb=>hc s b;obtain⟨dst,op,ty,pos,af,gd⟩:=o;simp only at hop hdst;subst hop;subst hdst;split at h
  ·rename_i hb
   have hv:S.ev (.tmp s)=.d (.lit (.bool true)):=hs _ hb;exact aMt (K:=λe=>aDe S e.nw (tO (some d) e S K)) (hd d rfl) (by
    unfold aPr;rw[hv];refine⟨?_⟩;simp only;unfold aAb at h|-;cases hk:cD x with
    |false=>rw[hk] at h;exact h
    | true=>
     rw[hk] at h;simp only[cond_true] at h|-;have:=aAx (K:=λv=>tO (some d) (.p v) S K) h
     generalize S.ev x=v at this
     unfold frc;split<;>first|exact this|(unfold aNw;split<;>exact this))
  ·rename_i hb
   have hv:S.ev (.tmp s)=.d (.lit (.bool false)):=hs _ hb;exact aMt (K:=λe=>aDe S e.nw (tO (some d) e S K)) (hd d rfl) (by
    unfold aPr;rw[hv];refine⟨?_⟩;simp only;unfold aAb at h|-;cases hk:cD y with
    |false=>rw[hk] at h;exact h
    | true=>
     rw[hk] at h;simp only[cond_true] at h|-;have:=aAx (K:=λv=>tO (some d) (.p v) S K) h
     generalize S.ev y=v at this
     unfold frc;split<;>first|exact this|(unfold aNw;split<;>exact this))
  ·exact bFq hd h
 ·exact bFq hd h
theorem bNs[Mode]{cur:List (Nat×Bool)}{o:Oper}{S:VS}{K:VS->Prop}(hc:mS cur S)(hd:∀d,o.dst=some d->d<n)(h:bAj T n β X cur o S K):aKv P n β o S (λS'=>K S'/\mS cur S'):=by
 unfold bAj at h;cases hm:aV (o.dst.getD 0) X.nd with
 | true=>
  rw[hm] at h;cases cur with
  | nil=>
   intro ρ hρ;refine dJ (h ρ hρ) ?_;rintro st ⟨S',ρ',h1,h2,h3⟩;exact⟨S',ρ',h1,⟨h2,λs b hb=>by cases hb⟩,h3⟩
  |cons=>exact h.elim
 | false=>
  rw[hm] at h;simp only[cond_false] at h;obtain⟨hs,h⟩:=cnf h;intro ρ hρ;refine dJ (cBy (β:=β) (cFw hc hd h) ρ hρ) ?_;rintro st ⟨S',ρ',h1,⟨h2,h3⟩,h4⟩;refine⟨S',ρ',h1,⟨h2,λs b hb=>?_⟩,h4⟩;rw[h3 s ?_]
  ·exact hc s b hb
  ·cases hdst:o.dst with
   |none=>exact .inl rfl
   | some d=>
    refine .inr ⟨d,rfl,?_⟩;cases hds:Nat.beq d s with
    |false=>rfl
    | true=>
     have:=Nat.eq_of_beq_eq_true hds;subst this;rw[hdst] at hs;simp only[Option.getD_some,hb,Option.isSome_some] at hs;cases hs
theorem cCb[Mode]{cur:List (Nat×Bool)}{o:Oper}{S:VS}{K:VS->Prop}(hc:mS cur S)(hd:∀d,o.dst=some d->d<n)(h:aKo T n β X cur o S K):aKv P n β o S (λS'=>K S'/\mS cur S'):=by
 unfold aKo at h;split at h
 ·exact bNs hc hd h
 ·rename_i k hs _
  have h1:=bNs (λs b hb=>by cases hb) hd (bTc (K:=λS=>bAj T n β X [] o S K) h);exactλρ hρ A M w0 a w hR=>h1 ρ hρ A M w0 a w (bHz ρ A M w0 n a w hR)
 ·exact h.elim
theorem bNe{cur:List (Nat×Bool)}{o:Oper}{S:VS}{K:VS->Prop}(hc:mS cur S)(h:yA cur o S K):∃d,o.dst=some d/\K ⟨(d,.tup [])::S.env,S.objs⟩/\mS cur ⟨(d,.tup [])::S.env,S.objs⟩:=by
 obtain⟨env,objs⟩:=S;unfold yA at h;split at h
 ·rename_i e ob d heq hd
  cases heq;obtain⟨hs,h⟩:=cnf h;refine⟨d,hd,h,λs b hb=>?_⟩;cases hds:Nat.beq d s with
  | true=>
   have:=Nat.eq_of_beq_eq_true hds;subst this;rw[hb] at hs;cases hs
  |false=>simp only[lk,hds,cond_false];exact hc s b hb
 ·exact h.elim
theorem bDj:∀{m:Nat} {l:List (Nat×AV)} {ds:List Nat} {k:Nat},bAm ds m l=true->aV k ds=false->lk l k=lk (aNq m l) k
 |0,l,_,_,_,_=>by simp[aNq]
 |m+1,[],_,_,_,_=>by simp[aNq]
 | m+1,p::l,ds,k,h,hk=>by
  simp only[bAm,Bool.and_eq_true] at h;have:Nat.beq p.1 k=false:=by
   cases hb:Nat.beq p.1 k with
   |false=>rfl
   |true=>have:=Nat.eq_of_beq_eq_true hb;rw[this] at h;rw[hk] at h;cases h.1
  simp only[lk,this,cond_false,aNq];exact bDj h.2 hk
theorem bMw:∀{ds:List Nat} {l:List (Nat×AV)} {k:Nat},lk (tN ds l) k=.any\/(aV k ds=false/\lk (tN ds l) k=lk l k)
 |[],l,k=>.inr ⟨rfl,rfl⟩
 | d::ds,l,k=>by
  simp only[tN,lk,aV];cases hb:Nat.beq d k with
  |true=>left;rfl
  |false=>simpa using bMw
theorem cDo[Mode]{S S':VS}{m t:Nat}{ds:List Nat}{x:Bool}(h:GN S m t ds x S'):LeV β S' ⟨(t,.b x)::tN ds S.env,S.objs⟩:=by
 obtain⟨h1,h2,h3,h4⟩:=h;intro ρ hρ;refine⟨ρ,hρ,?_⟩;have:Ent ⟨λk=>ρ.av (lk S'.env k),S'.objs.map λp=>ρ.mo p.1 p.2⟩ ⟨λk=>ρ.av (lk ((t,.b x)::tN ds S.env) k),S'.objs.map λp=>ρ.mo p.1 p.2⟩:=aTq λk=>by
  simp only[lk];cases hb:Nat.beq t k with
  | true=>
   have:=Nat.eq_of_beq_eq_true hb;subst this
   right;simp only[cond_true];rw[h3]
  | false=>
   simp only[cond_false]
   rcases bMw (ds:=ds) (l:=S.env) (k:=k) with h|⟨hm,h⟩
   ·left;rw[h];rfl
   ·right
    have hm':aV k (t::ds)=false:=by simp only[aV,hb,cond_false];exact hm
    rw[h,bDj h2 hm',h1]
 unfold VS.at;rw[<-h4];exact this
theorem bYj[Mode]{l:List Oper}{S S':VS}{Q:Exit->VS->Prop}(h:LeV β S S')(hc:aIn P n β ops l S' Q):aIn P n β ops l S Q:=λρ hρ=>by
 obtain⟨ρ',hβ,he⟩:=h ρ hρ;exact fY he (hc ρ' hβ)
theorem aHv{cur:List (Nat×Bool)}{S:VS}{s:Nat}{c:Bool}(h:mS cur S)(hs:lk S.env s=.b c):mS ((s,c)::cur) S:=λk b hb=>by
 simp only[ckd] at hb;cases hk:Nat.beq s k with
 | true=>
  have:=Nat.eq_of_beq_eq_true hk;subst this;rw[hk] at hb;simp at hb;subst hb;exact hs
 |false=>rw[hk] at hb;exact h k b hb
theorem bMq{t:Nat}{ds:List Nat}:∀{cur:List (Nat×Bool)},aTt t ds cur=true->∀s b,ckd cur s=some b->aV s ds=false/\Nat.beq t s=false
 |[],_,s,b,h=>by cases h
 | p::l,hf,s,b,h=>by
  simp only[aTt,Bool.and_eq_true,Bool.not_eq_true'] at hf;simp only[ckd] at h;cases hb:Nat.beq p.1 s with
  | true=>
   have:=Nat.eq_of_beq_eq_true hb;subst this;exact hf.1
  |false=>rw[hb] at h;exact bMq hf.2 s b h
theorem aYb{cur:List (Nat×Bool)}{S:VS}{ds:List Nat}{t:Nat}{x:Bool}(h:mS cur S)(hf:aTt t ds cur=true):mS cur ⟨(t,.b x)::tN ds S.env,S.objs⟩:=λs b hb=>by
 obtain⟨h1,h2⟩:=bMq hf s b hb;simp only[lk,h2,cond_false];have:∀{ds:List Nat} {l:List (Nat×AV)},aV s ds=false->lk (tN ds l) s=lk l s:=by
  intro ds
  induction ds with
  |nil=>intro l _;rfl
  | cons d ds ih=>
   intro l hm;simp only[aV] at hm;cases hb2:Nat.beq d s with
   |true=>rw[hb2] at hm;cases hm
   |false=>rw[hb2] at hm;simp only[tN,lk,hb2,cond_false];exact ih (by simpa using hm)
 rw[this h1];exact h s b hb
theorem aSy[Mode]:∀{l:List Oper} {i sk lim:Nat} {cur:List (Nat×Bool)} {S:VS} {K:VS->Prop} {Q:Exit->VS->Prop},yN n l=true->mS cur S->(∀S',K S'->aIn P n β ops (l.drop (sk+lim)) S' Q)->aPb T n β X ops l i sk lim cur S K->aIn P n β ops (l.drop sk) S Q
 | [],i,sk,lim,cur,S,K,Q,_,_,hQ,h=>by
  have:=hQ S h
  simpa using this
 | o::l,i,sk+1,lim,cur,S,K,Q,hd,hc,hQ,h=>by
  have hdl:yN n l=true:=by simp only[yN,Bool.and_eq_true] at hd;exact hd.2
  show aIn P n β ops (l.drop sk) S Q;exact aSy (l:=l) (sk:=sk) (lim:=lim) hdl hc (λS' hK=>by have:=hQ S' hK;rwa[show sk+1+lim=(sk+lim)+1 by omega,List.drop_succ_cons] at this) h
 |o::l,i,0,0,cur,S,K,Q,_,_,hQ,h=>hQ S h
 | o :: l,i,0,lim+1,cur,S,K,Q,hd,hc,hQ,h=>by
  have hdo:=aYe hd o (by simp);have hdl:yN n l=true:=by simp only[yN,Bool.and_eq_true] at hd;exact hd.2
  have hQ':∀S',K S'->aIn P n β ops (l.drop (0+lim)) S' Q:=λS' hK=>by
   have:=hQ S' hK
   rwa[show 0+(lim+1)=(0+lim)+1 by omega,List.drop_succ_cons] at this
  have take:∀{cur:List (Nat×Bool)} {N:VS->Prop} {lim:Nat},mS cur S->(∀S',N S'->aIn P n β ops (l.drop (0+lim)) S' Q)->aKo T n β X cur o S (λS=>aPb T n β X ops l (i+1) 0 lim cur S N)->∀ρ:Rho,ρ.β=β->Step P n o (S.at ρ) (λst'=>TrL P n ops.toArray l st' (λe st=>∃(S':VS) (ρ':Rho),ρ'.β=β/\Q e S'/\Ent st (S'.at ρ'))):=by
   intro cur N lim hc hN hst ρ hρ;refine dJ (cCb hc hdo hst ρ hρ) ?_;rintro st' ⟨S',ρ',hβ,⟨hr,hc'⟩,he⟩;have:=aSy (Q:=Q) hdl hc' hN hr ρ' hβ;simp only[List.drop_zero] at this;exact fY he this
  have pass:∀{cur:List (Nat×Bool)} {N:VS->Prop} {lim:Nat},mS cur S->(∀S',N S'->aIn P n β ops (l.drop (0+lim)) S' Q)->yA cur o S (λS=>aPb T n β X ops l (i+1) 0 lim cur S N)->∃d,o.dst=some d/\∀ρ:Rho,ρ.β=β->TrL P n ops.toArray l ((S.at ρ).set d (.tup [])) (λe st=>∃(S':VS) (ρ':Rho),ρ'.β=β/\Q e S'/\Ent st (S'.at ρ')):=by
   intro cur N lim hc hN hp;obtain⟨d,ho,hr,hc'⟩:=bNe hc hp;refine⟨d,ho,λρ hρ=>?_⟩;have:=aSy (Q:=Q) hdl hc' hN hr ρ hρ;simp only[List.drop_zero] at this;have e:(S.at ρ).set d (.tup [])=(VS.mk ((d,.tup [])::S.env) S.objs).at ρ:=qP S d (.tup []);rw[e];exact this
  show aIn P n β ops (o::l) S Q
  change bQj T n β X ops o l (aPb T n β X ops l) i 0 (lim+1) cur S K at h
  simp only[bQj] at h;cases hg:o.guard with
  | none=>
   rw[hg] at h;exactλρ hρ=>bJ hg (take hc hQ' h ρ hρ) λst' hst=>hst
  | some p=>
   obtain⟨j,g⟩:=p;rw[hg] at h;simp only at h;split at h
   ·rename_i s hs
    rw[aWj] at hs;have hj:(ops.toArray[j]?).bind (·.dst)=some s:=by simpa using hs
    obtain⟨hsn,h⟩:=jD h;have hsn:=Nat.le_of_ble_eq_true hsn;have ask:∀{cur:List (Nat×Bool)} {N:VS->Prop} {lim:Nat} {c:Bool},mS cur S->lk S.env s=.b c->(∀S',N S'->aIn P n β ops (l.drop (0+lim)) S' Q)->
      (bif (bif g then c else !c) then aKo T n β X cur o S (λS=>aPb T n β X ops l (i+1) 0 lim cur S N) else yA cur o S (λS=>aPb T n β X ops l (i+1) 0 lim cur S N))->aIn P n β ops (o::l) S Q:=by
     intro cur N lim c hc hlk hN h;cases hcg:(bif g then c else !c) with
     | true=>
      rw[hcg] at h;exactλρ hρ=>bCu hg hj hsn (aDa hlk) (by cases g<;>cases c<;>simp_all) (take hc hN h ρ hρ) λst' hst=>hst
     | false=>
      rw[hcg] at h;obtain⟨d,ho,h⟩:=pass hc hN h;exactλρ hρ=>aMs hg ho (hdo d ho) hj hsn (aDa hlk) (by cases g<;>cases c<;>simp_all) (h ρ hρ)
    split at h
    ·rename_i c hcc
     exact ask hc (hc s c hcc) hQ' h
    ·split at h
     ·rename_i c hlk
      cases he:aQv X (fG i j (o::l)) (o::l) with
      | true=>
       rw[he] at h;simp only[cond_true] at h;exact ask (aHv hc hlk) hlk hQ' (bBz h)
      | false=>
       rw[he] at h;simp only[cond_false] at h;obtain⟨hb,h⟩:=jD h;simp only[Bool.and_eq_true] at hb;have hm:=Nat.le_of_ble_eq_true hb.1;obtain⟨x,hA,hB⟩:=h.h;have hA:=bBz hA;refine ask (aHv hc hlk) hlk ?_ hA;intro S' hN;refine bYj (cDo hN) ?_;have:=aSy (Q:=Q) hdl (aYb hc hb.2) (λS2 hK=>by
        have:=hQ' S2 hK
        rwa[show 0+lim=fG i j l+1+(lim-(fG i j l+1)) by omega] at this) hB
       rwa[Nat.zero_add]
     ·rename_i hlk
      obtain⟨d,ho,h⟩:=pass hc hQ' h;exactλρ hρ=>bKc hg ho (hdo d ho) hj hsn (aDa hlk) (h ρ hρ)
     ·exact h.elim
   ·exact h.elim
end
end Go.Am
end
section
namespace Go.Am
def tG(c:List (Nat×Option VO)):List Nat:=c.map (·.1)
def cOb:List (Nat×Option VO)->(Nat->Option VO)->Nat->Option VO
 |[],f=>f
 |(k,m)::c,f=>cOb c λh=>bif Nat.beq k h then m else f h
theorem bAy{h:Nat}:∀{c:List (Nat×Option VO)} {f:Nat->Option VO},aV h (tG c)=false->cOb c f h=f h
 |[],_,_=>rfl
 | (k,m)::c,f,hk=>by
  simp only[tG,List.map_cons,aV] at hk;cases hb:Nat.beq k h with
  |true=>rw[hb] at hk;cases hk
  | false=>
   rw[hb] at hk;simp only[cOb];rw[bAy (by simpa[tG] using hk)]
   simp[hb]
theorem bGl{h:Nat}:∀{c:List (Nat×Option VO)} {f g:Nat->Option VO},(aV h (tG c)=true\/f h=g h)->cOb c f h=cOb c g h
 | [],f,g,hk=>by
  rcases hk with hk|hk
  ·cases hk
  ·exact hk
 | (k,m)::c,f,g,hk=>by
  simp only[cOb];refine bGl ?_;simp only[tG,List.map_cons,aV] at hk;cases hb:Nat.beq k h with
  |true=>right;simp
  | false=>
   rw[hb] at hk
   rcases hk with hk|hk
   ·left;simpa[tG] using hk
   ·right;simpa using hk
def fT(l:List (Nat×VO)):Prop:=(l.map (·.1)).Nodup
theorem bNa{h:Nat}:∀{l:List (Nat×VO)},h∉l.map (·.1)->ob l h=none
 |[],_=>rfl
 | (k,x)::l,hk=>by
  simp only[List.map_cons,List.mem_cons,not_or] at hk;have:Nat.beq k h=false:=by
   cases hb:Nat.beq k h with
   |false=>rfl
   |true=>exact absurd (Nat.eq_of_beq_eq_true hb).symm hk.1
  simp only[ob,this,cond_false];exact bNa hk.2
theorem bNf{h k:Nat}{m:VO}:∀{l:List (Nat×VO)},ob (fD h m l) k=bif Nat.beq h k then some m else ob l k
 |[]=>by simp[fD,ob]
 | (j,x)::l=>by
  simp only[fD];cases hb:Nat.beq j h with
  | true=>
   have:=Nat.eq_of_beq_eq_true hb;subst this;simp only[cond_true,ob];cases Nat.beq j k<;>rfl
  | false=>
   simp only[cond_false,ob,bNf (l:=l)];cases hc:Nat.beq j k with
   | true=>
    have:=Nat.eq_of_beq_eq_true hc;subst this;have:Nat.beq h j=false:=by
     cases hd:Nat.beq h j with
     |false=>rfl
     |true=>have:=Nat.eq_of_beq_eq_true hd;subst this;simp at hb
    simp[this]
   |false=>simp
theorem bEg{h:Nat}{m:VO}:∀{l:List (Nat×VO)},∀k∈(fD h m l).map (·.1),k=h\/k∈l.map (·.1)
 |[],k,hk=>by simp[fD] at hk;exact .inl hk
 | (j,x)::l,k,hk=>by
  simp only[fD] at hk;cases hb:Nat.beq j h with
  |true=>rw[hb] at hk;right;simpa using hk
  | false=>
   rw[hb] at hk;simp only[cond_false,List.map_cons,List.mem_cons] at hk|-
   rcases hk with hk|hk
   ·exact .inr (.inl hk)
   ·rcases bEg k hk with h1|h1
    ·exact .inl h1
    ·exact .inr (.inr h1)
theorem bCk{h:Nat}{m:VO}:∀{l:List (Nat×VO)},fT l->fT (fD h m l)
 |[],_=>by simp[fT,fD]
 | (j,x)::l,hl=>by
  simp only[fT,List.map_cons,List.nodup_cons] at hl;simp only[fD];cases hb:Nat.beq j h with
  |true=>simpa[fT] using hl
  | false=>
   simp only[cond_false,fT,List.map_cons,List.nodup_cons];refine⟨λhj=>?_,bCk hl.2⟩
   rcases bEg j hj with h1|h1
   ·subst h1;simp at hb
   ·exact hl.1 h1
theorem bGz{h:Nat}:∀{l:List (Nat×VO)},((fV h l).map (·.1)).Sublist (l.map (·.1))
 |[]=>.slnil
 | (j,x)::l=>by
  simp only[fV];cases Nat.beq j h with
  |true=>simp
  |false=>simpa using bGz (l:=l)
theorem bMh{h:Nat}{l:List (Nat×VO)}(hl:fT l):fT (fV h l):=List.Nodup.sublist bGz hl
theorem bMg{h k:Nat}:∀{l:List (Nat×VO)},fT l->ob (fV h l) k=bif Nat.beq h k then none else ob l k
 |[],_=>by simp[fV,ob]
 | (j,x)::l,hl=>by
  simp only[fT,List.map_cons,List.nodup_cons] at hl;simp only[fV];cases hb:Nat.beq j h with
  | true=>
   have:=Nat.eq_of_beq_eq_true hb;subst this;simp only[cond_true,ob];cases hc:Nat.beq j k with
   |true=>have:=Nat.eq_of_beq_eq_true hc;subst this;simp[bNa hl.1]
   |false=>simp
  | false=>
   simp only[cond_false,ob,bMg (l:=l) hl.2];cases hc:Nat.beq j k with
   | true=>
    have:=Nat.eq_of_beq_eq_true hc;subst this;have:Nat.beq h j=false:=by
     cases hd:Nat.beq h j with
     |false=>rfl
     |true=>have:=Nat.eq_of_beq_eq_true hd;subst this;simp at hb
    simp[this]
   |false=>simp
theorem aCv:∀{c:List (Nat×Option VO)} {l:List (Nat×VO)},fT l->fT (chg c l)
 |[],_,h=>h
 |(_,some _)::c,_,h=>by simp only[chg];exact aCv (bCk h)
 |(_,none)::c,_,h=>by simp only[chg];exact aCv (bMh h)
theorem bGv:∀{c:List (Nat×Option VO)} {l:List (Nat×VO)},fT l->∀h,ob (chg c l) h=cOb c (ob l) h
 |[],_,_,_=>rfl
 | (k,some m)::c,l,hl,h=>by
  simp only[chg,cOb];rw[bGv (bCk hl) h];exact congrArg (λf=>cOb c f h) (funext λq=>bNf)
 | (k,none)::c,l,hl,h=>by
  simp only[chg,cOb];rw[bGv (bMh hl) h];exact congrArg (λf=>cOb c f h) (funext λq=>bMg hl)
theorem aLe{h:Nat}{m:VO}:∀{l:List (Nat×VO)},ob l h=some m->(h,m)∈l
 |[],h=>by cases h
 | (k,x)::l,hm=>by
  simp only[ob] at hm;cases hb:Nat.beq k h with
  |true=>rw[hb] at hm;have:=Nat.eq_of_beq_eq_true hb;subst this;simp at hm;subst hm;simp
  |false=>rw[hb] at hm;exact List.mem_cons_of_mem _ (aLe (by simpa using hm))
theorem bIf{h:Nat}{m:VO}:∀{l:List (Nat×VO)},fT l->(h,m)∈l->ob l h=some m
 | (k,x)::l,hl,hm=>by
  simp only[fT,List.map_cons,List.nodup_cons] at hl;simp only[ob]
  rcases List.mem_cons.1 hm with e|hm
  ·cases e;simp
  ·have:Nat.beq k h=false:=by
    cases hb:Nat.beq k h with
    |false=>rfl
    |true=>have:=Nat.eq_of_beq_eq_true hb;subst this;exact absurd (List.mem_map.2 ⟨_,hm,rfl⟩) hl.1
   simp only[this,cond_false];exact bIf hl.2 hm
theorem bPv{l l':List (Nat×VO)}(h:fT l)(h':fT l')(he:∀k,ob l k=ob l' k):l.Perm l':=by
 have nd:∀{l:List (Nat×VO)},fT l->l.Nodup:=by
  intro l
  induction l with
  |nil=>intro _;exact .nil
  | cons p l ih=>
   intro h;simp only[fT,List.map_cons,List.nodup_cons] at h;exact List.nodup_cons.2 ⟨λhm=>h.1 (List.mem_map.2 ⟨p,hm,rfl⟩),ih h.2⟩
 refine(List.perm_ext_iff_of_nodup (nd h) (nd h')).2 λ⟨k,m⟩=>⟨λhm=>aLe ((he k).symm.trans (bIf h hm)),λhm=>aLe ((he k).trans (bIf h' hm))⟩
def aEi[Mode](P:Program)(n:Nat)(ops:List Oper)(o:Oper)(S:VS)(e:Eff):Prop:=match o.guard with
 |none=>mT P n o S e
 |some (j,g)=>∃s,(ops[j]?).bind (·.dst)=some s/\s<n/\((∃c,lk S.env s=.b c/\((c=g/\mT P n o S e)\/(c=!g/\e=.p (.tup [])/\∃d,o.dst=some d/\d<n)))\/(lk S.env s=.tup []/\e=.p (.tup [])/\∃d,o.dst=some d/\d<n))
def vQ[Mode](P:Program)(n:Nat)(ops:List Oper):List Oper->VS->List Eff->VS->Prop
 |[],S,[],S'=>S=S'
 |o::l,S,e::es,S'=>aEi P n ops o S e/\(∀h∈e.nw,lW h S=false/\Nat.ble 100000 h=false)/\vQ P n ops l (S.app o.dst e) es S'
 |_,_,_,_=>False
def cGj:Operand->Option Nat
 | .tmp t=>some t
 |_=>none
def gdS(ops:List Oper)(o:Oper):List Nat:=match o.guard with
 |some (j,_)=>((ops[j]?).bind (·.dst)).toList
 |none=>[]
def rdO(ops:List Oper)(o:Oper):List Nat:=o.op.operands.toList.filterMap cGj++gdS ops o
theorem aYr[Mode]{P:Program}{n:Nat}{ops:List Oper}{o:Oper}{S S2:VS}{e:Eff}(h:aEi P n ops o S e)(he:∀k∈rdO ops o,lk S2.env k=lk S.env k)(ho:∀k∈e.us,ob S2.objs k=ob S.objs k):aEi P n ops o S2 e:=by
 have ev:∀x∈o.op.operands.toList,S2.ev x=S.ev x:=λx hx=>by
  cases x with
  |tmp t=>exact he t (List.mem_append.2 (.inl (List.mem_filterMap.2 ⟨.tmp t,hx,rfl⟩)))
  |_=>rfl
 have sem:mT P n o S e->mT P n o S2 e:=λh S' hA hn ρ=>h S' ⟨λx hx=>(hA.ev x hx).trans (ev x hx),λk hk=>(hA.ob k hk).trans (ho k hk)⟩ hn ρ;unfold aEi at h|-;split at h
 ·rename_i hg;exact sem h
 ·rename_i j g hg
  obtain⟨s,hs,hsn,h⟩:=h;have hk:lk S2.env s=lk S.env s:=he s (List.mem_append.2 (.inr (by simp[gdS,hg,hs])));refine⟨s,hs,hsn,?_⟩
  rcases h with⟨c,hc,h⟩|h
  ·left
   refine⟨c,hk.trans hc,?_⟩
   rcases h with⟨h1,h2⟩|h
   ·exact .inl ⟨h1,sem h2⟩
   ·exact .inr h
  ·right;exact⟨hk.trans h.1,h.2⟩
end Go.Am
end
section
namespace Go.Am
def stD(D:Nat->Bool):Nat->List Oper->List Eff->VS->VS
 |k,o::l,e::es,S=>stD D (k+1) l es (bif D k then S.app o.dst e else S)
 |_,_,_,S=>S
theorem aAd{S:VS}{dst:Option Nat}{e:Eff}{q:Nat}:lk (S.app dst e).env q=match dst with|some d=>bif Nat.beq d q then e.v else lk S.env q|none=>lk S.env q:=by
 cases dst<;>rfl
theorem bAg{D D':Nat->Bool}{q:Nat}:∀{l:List Oper} {es:List Eff} {k:Nat} {S S':VS},(∀j o,l[j]?=some o->o.dst=some q->D (k+j)=D' (k+j))->lk S.env q=lk S'.env q->lk (stD D k l es S).env q=lk (stD D' k l es S').env q
 |[],_,_,_,_,_,h=>by simpa[stD] using h
 |_::_,[],_,_,_,_,h=>by simpa[stD] using h
 | o :: l,e::es,k,S,S',hD,h=>by
  simp only[stD];refine bAg (λj o' hj ho=>?_) ?_
  ·have:=hD (j+1) o' (by simpa using hj) ho
   rwa[show k+1+j=k+(j+1) by omega]
  ·by_cases hq:o.dst=some q
   ·have:=hD 0 o rfl hq;simp only[Nat.add_zero] at this;rw[this];cases D' k with
    |true=>simp only[cond_true,aAd,hq,Nat.beq_refl,cond_true]
    |false=>exact h
   ·have keep:∀S:VS,∀b:Bool,lk (bif b then S.app o.dst e else S).env q=lk S.env q:=λS b=>by
     cases b with
     |false=>rfl
     | true=>
      simp only[cond_true,aAd];cases hd:o.dst with
      |none=>rfl
      | some d=>
       have:Nat.beq d q=false:=by
        cases hb:Nat.beq d q with
        |false=>rfl
        |true=>have:=Nat.eq_of_beq_eq_true hb;subst this;exact absurd hd hq
       simp only[this,cond_false]
    rw[keep S,keep S'];exact h
theorem bNr{D:Nat->Bool}{q:Nat}:∀{l:List Oper} {es:List Eff} {k i:Nat} {S:VS} {o:Oper} {e:Eff},l[i]?=some o->es[i]?=some e->o.dst=some q->D (k+i)=true->(∀j o',j≠i->l[j]?=some o'->o'.dst≠some q)->lk (stD D k l es S).env q=e.v
 |[],_,_,i,_,_,_,h,_,_,_,_=>by simp at h
 |_::_,[],_,i,_,_,_,_,h,_,_,_=>by simp at h
 | o::l,e::es,k,0,S,o1,e1,h1,h2,hd,hD,hu=>by
  simp at h1 h2;subst h1;subst h2
  simp only[Nat.add_zero] at hD;simp only[stD,hD,cond_true];have:=bAg (D:=D) (D':=λ_=>false) (q:=q) (l:=l) (es:=es) (k:=k+1) (S:=S.app o.dst e) (S':=S.app o.dst e) (λj o' hj ho=>absurd ho (hu (j+1) o' (by omega) (by simpa using hj))) rfl;rw[this];have e0:∀(l:List Oper) (es:List Eff) (k:Nat) (S:VS),stD (λ_=>false) k l es S=S:=by
   intro l
   induction l with
   |nil=>intros;simp[stD]
   |cons o l ih=>intro es k S;cases es<;>simp[stD,ih]
  rw[e0,aAd,hd];simp
 | o::l,e::es,k,i+1,S,o1,e1,h1,h2,hd,hD,hu=>by
  simp only[stD];exact bNr (by simpa using h1) (by simpa using h2) hd (by rwa[show k+1+i=k+(i+1) by omega]) λj o' hj ho=>hu (j+1) o' (by omega) (by simpa using ho)
theorem bJv{D:Nat->Bool}:∀{l:List Oper} {es:List Eff} {k:Nat} {S:VS},fT S.objs->fT (stD D k l es S).objs
 |[],_,_,_,h=>by simpa[stD] using h
 |_::_,[],_,_,h=>by simpa[stD] using h
 | o::l,e::es,k,S,h=>by
  simp only[stD];refine bJv ?_;cases D k with
  |false=>exact h
  |true=>exact aCv h
theorem aQw{S:VS}{dst:Option Nat}{e:Eff}(h:fT S.objs)(q:Nat):ob (S.app dst e).objs q=cOb e.ch (ob S.objs) q:=bGv h q
theorem bAh{D D':Nat->Bool}{q:Nat}:∀{l:List Oper} {es:List Eff} {k:Nat} {S S':VS},fT S.objs->fT S'.objs->(∀j e,es[j]?=some e->aV q (tG e.ch)=true->D (k+j)=D' (k+j))->ob S.objs q=ob S'.objs q->ob (stD D k l es S).objs q=ob (stD D' k l es S').objs q
 |[],_,_,_,_,_,_,_,h=>by simpa[stD] using h
 |_::_,[],_,_,_,_,_,_,h=>by simpa[stD] using h
 | o ::l,e::es,k,S,S',h1,h2,hD,h=>by
  simp only[stD];refine bAh ?_ ?_ (λj e' hj ho=>?_) ?_
  ·cases D k with
   |false=>exact h1
   |true=>exact aCv h1
  ·cases D' k with
   |false=>exact h2
   |true=>exact aCv h2
  ·have:=hD (j+1) e' (by simpa using hj) ho
   rwa[show k+1+j=k+(j+1) by omega]
  ·cases hq:aV q (tG e.ch) with
   | true=>
    have:=hD 0 e rfl hq;simp only[Nat.add_zero] at this;rw[this];cases D' k with
    |true=>simp only[cond_true];rw[aQw h1,aQw h2];exact bGl (.inl hq)
    |false=>exact h
   | false=>
    have keep:∀S:VS,fT S.objs->∀b:Bool,ob (bif b then S.app o.dst e else S).objs q=ob S.objs q:=λS hS b=>by
     cases b with
     |false=>rfl
     |true=>simp only[cond_true];rw[aQw hS];exact bAy hq
    rw[keep S h1,keep S' h2];exact h
theorem bCr(l:List Oper):∀(es:List Eff) (k:Nat) (S:VS),stD (λ_=>false) k l es S=S:=by
 induction l with
 |nil=>intros;simp[stD]
 |cons o l ih=>intro es k S;cases es<;>simp[stD,ih]
theorem bNq{D:Nat->Bool}{q:Nat}:∀{l:List Oper} {es:List Eff} {k i:Nat} {S:VS} {o:Oper} {e:Eff},fT S.objs->l[i]?=some o->es[i]?=some e->aV q (tG e.ch)=true->D (k+i)=true->(∀j e',i<j->es[j]?=some e'->aV q (tG e'.ch)=true->D (k+j)=false)->∀f,ob (stD D k l es S).objs q=cOb e.ch f q
 |[],_,_,i,_,_,_,_,h,_,_,_,_=>by simp at h
 |_::_,[],_,i,_,_,_,_,_,h,_,_,_=>by simp at h
 | o::l,e::es,k,0,S,o1,e1,hS,h1,h2,hq,hD,hu=>λf=>by
  simp at h1 h2;subst h1;subst h2
  simp only[Nat.add_zero] at hD;simp only[stD,hD,cond_true];have:=bAh (D:=D) (D':=λ_=>false) (q:=q) (l:=l) (es:=es) (k:=k+1) (S:=S.app o.dst e) (S':=S.app o.dst e) (aCv hS) (aCv hS) (λj e' hj ho=>by
   have:=hu (j+1) e' (by omega) (by simpa using hj) ho
   rwa[show k+1+j=k+(j+1) by omega]) rfl
  rw[this,bCr,aQw hS];exact bGl (.inl hq)
 | o::l,e::es,k,i+1,S,o1,e1,hS,h1,h2,hq,hD,hu=>λf=>by
  simp only[stD];refine bNq ?_ (by simpa using h1) (by simpa using h2) hq (by rwa[show k+1+i=k+(i+1) by omega]) (λj e' hj he ho=>?_) f
  ·cases D k with
   |false=>exact hS
   |true=>exact aCv hS
  ·have:=hu (j+1) e' (by omega) (by simpa using he) ho
   rwa[show k+1+j=k+(j+1) by omega]
theorem bNp{D:Nat->Bool}{h:Nat}:∀{l:List Oper} {es:List Eff} {k:Nat} {S:VS},lW h S=false->(∀j e,es[j]?=some e->D (k+j)=true->aDh h e=false)->lW h (stD D k l es S)=false
 |[],_,_,_,h,_=>by simpa[stD] using h
 |_::_,[],_,_,h,_=>by simpa[stD] using h
 | o::l,e::es,k,S,hS,hD=>by
  simp only[stD];refine bNp ?_ λj e' hj hd=>hD (j+1) e' (by simpa using hj) (by rwa[show k+(j+1)=k+1+j by omega]);cases hk:D k with
  |false=>exact hS
  |true=>exact bAt hS (hD 0 e rfl (by simpa using hk))
theorem aTl{D D':Nat->Bool}:∀{l:List Oper} {es:List Eff} {k:Nat} {S:VS},(∀j,j<l.length->D (k+j)=D' (k+j))->stD D k l es S=stD D' k l es S
 |[],_,_,_,_=>by simp[stD]
 |_::_,[],_,_,_=>by simp[stD]
 | o::l,e::es,k,S,h=>by
  have:=h 0 (by simp);simp only[Nat.add_zero] at this;simp only[stD,this];exact aTl λj hj=>by
   have:=h (j+1) (by simpa using hj)
   rwa[show k+(j+1)=k+1+j by omega] at this
theorem bDe[Mode]{P:Program}{n:Nat}{ops:List Oper}:∀{l:List Oper} {es:List Eff} {S S1:VS} {k:Nat},vQ P n ops l S es S1->es.length=l.length/\S1=stD (λ_=>true) k l es S/\∀(i:Nat) (o:Oper) (e:Eff),l[i]?=some o->es[i]?=some e->aEi P n ops o (stD (λj=>Nat.blt j (k+i)) k l es S) e/\∀h∈e.nw,lW h (stD (λj=>Nat.blt j (k+i)) k l es S)=false/\Nat.ble 100000 h=false
 |[],[],S,S1,k,h=>⟨rfl,by simpa[vQ,stD] using h.symm,λi o e hi=>by simp at hi⟩
 | o ::l,e::es,S,S1,k,h=>by
  obtain⟨h1,h2,h3⟩:=h;obtain⟨a,b,c⟩:=bDe (k:=k+1) h3;refine⟨by simp[a],by simp only[stD,cond_true];exact b,λi o' e' hi he=>?_⟩;cases i with
  | zero=>
   simp at hi he;subst hi;subst he
   have:stD (λj=>Nat.blt j (k+0)) k (o::l) (e::es) S=S:=by
    have:stD (λj=>Nat.blt j (k+0)) k (o::l) (e::es) S=stD (λ_=>false) k (o::l) (e::es) S:=aTl λj _=>by
     cases hb:Nat.blt (k+j) (k+0) with
     |false=>rfl
     |true=>have:=Nat.le_of_ble_eq_true hb;omega
    rw[this,bCr]
   rw[this];exact⟨h1,h2⟩
  | succ i=>
   have:=c i o' e' (by simpa using hi) (by simpa using he);simp only[stD,show Nat.blt k (k+(i+1))=true from Nat.ble_eq_true_of_le (by omega),cond_true]
   rwa[show k+(i+1)=k+1+i by omega]
 |[],_::_,_,_,_,h=>h.elim
 |_::_,[],_,_,_,h=>h.elim
theorem aWp{l:List Oper}(hb:zX l=true):∀i,i<l.length->∀j,aV j ((cL l l.length).getD i [])=true->j<i:=by
 intro i
 induction i using Nat.strongRecOn with
 | _ i ih=>
  intro hi j hj;rw[jG,zC l _ i hi] at hj;obtain⟨e,he,hj⟩:=aVq hj;have hei:=bAv hb hi e he
  rcases hj with rfl|hj
  ·exact hei
  ·rw[zC l i e hei] at hj;have:=ih e hei (by omega) j (jG.2 (by rwa[zC l _ e (by omega)]))
   omega
theorem cCz[Mode]{P:Program}{n id:Nat}{β:qT}{l:List Oper}{S S1:VS}{es:List Eff}(hm:P.follows .mixedOrders=true)(hb:zX l=true)(hd:yN n l=true)(hch:vQ P n l l S es S1)(ho:fT S.objs)
  (H0:∀(i j:Nat) (o o':Oper) (q:Nat),i≠j->l[i]?=some o->l[j]?=some o'->o.dst=some q->o'.dst≠some q)
  (H1:∀(i j:Nat) (o o':Oper) (q:Nat),i≠j->l[i]?=some o->l[j]?=some o'->q∈rdO l o->o'.dst=some q->aV j ((cL l l.length).getD i [])=true\/aV i ((cL l l.length).getD j [])=true)
  (H2:∀(i j:Nat) (e e':Eff),i≠j->es[i]?=some e->es[j]?=some e'->aV j ((cL l l.length).getD i [])=false->aV i ((cL l l.length).getD j [])=false->∀h,aV h (tG e'.ch)=true->h∉e.us/\aV h (tG e.ch)=false)
  (H3:∀(i j:Nat) (e e':Eff),i≠j->es[i]?=some e->es[j]?=some e'->aV i ((cL l l.length).getD j [])=false->∀h∈e.nw,aDh h e'=false)
  (H4:∀(i:Nat) (e:Eff),es[i]?=some e->∀h∈e.nw,lW h S=false)(ρ:Rho)(hρ:ρ.β=β):Tr P n (.region id l.toArray true) (S.at ρ) λe st=>e=.normal/\∃ρ':Rho,ρ'.β=β/\Ent st (S1.at ρ'):=by
 obtain⟨hlen,hS1,hget⟩:=bDe (k:=0) hch;refine aPm l.length (λD st=>∃ρ':Rho,ρ'.β=β/\st=(stD D 0 l es S).at ρ') hm hb ?_ (Nat.ble_eq_true_of_le (Nat.le_refl _))
  ((List.range l.length).map λi=>((cL l l.length).getD i [],(List.range l.length).filter λj=>aV i ((cL l l.length).getD j []))) ?_ ⟨ρ,hρ,by rw[bCr]⟩ ?_ ?_ ?_
 ·simp only[wL,List.all_eq_true,List.mem_range];intro i hi;rw[show Nat.blt i l.length=true from Nat.ble_eq_true_of_le hi];rfl
 ·simp only[aPt,List.all_eq_true,List.mem_range];intro i hi;have:((List.range l.length).map λi=>((cL l l.length).getD i [],(List.range l.length).filter λj=>aV i ((cL l l.length).getD j []))).getD i ([],[])=((cL l l.length).getD i [],(List.range l.length).filter λj=>aV i ((cL l l.length).getD j [])):=by
   simp[List.getD,hi]
  rw[this];simp only[Bool.and_eq_true,List.all_eq_true,List.mem_filter,List.mem_range];exact⟨λj hj=>jG.2 hj,λj hj=>⟨Nat.ble_eq_true_of_le hj.1,hj.2⟩⟩
 ·rintro D D' st' hD ⟨ρ',h1,rfl⟩;exact⟨ρ',h1,by rw[aTl (D:=D') (D':=D) λj hj=>by rw[Nat.zero_add];exact hD j hj]⟩
 ·rintro i o hi D st' ⟨ρ',hβ,rfl⟩ hDi hK;have hi':l[i]?=some o:=by rwa[List.take_length] at hi
  have hil:i<l.length:=(List.getElem?_eq_some_iff.1 hi').1;obtain⟨e,he⟩:∃e,es[i]?=some e:=⟨_,List.getElem?_eq_getElem (by omega)⟩;obtain⟨hg,hfr⟩:=hget i o e hi' he;simp only[Nat.zero_add] at hg hfr;have hyn:((List.range l.length).map λi=>((cL l l.length).getD i [],(List.range l.length).filter λj=>aV i ((cL l l.length).getD j []))).getD i ([],[])=((cL l l.length).getD i [],(List.range l.length).filter λj=>aV i ((cL l l.length).getD j [])):=by
   simp[List.getD,hil]
  rw [hyn] at hK;have hyes:∀j,aV j ((cL l l.length).getD i [])=true->D j=true:=hK.y;have hno:∀j,j<l.length->aV i ((cL l l.length).getD j [])=true->D j=false:=λj hj hm=>hK.n j (jG.2 (List.mem_filter.2 ⟨List.mem_range.2 hj,hm⟩));have ord:∀j,j<l.length->j≠i->(aV j ((cL l l.length).getD i [])=true\/aV i ((cL l l.length).getD j [])=true)->D j=Nat.blt j i:=by
   intro j hj hji hor
   rcases hor with h|h
   ·rw[hyes j h,show Nat.blt j i=true from Nat.ble_eq_true_of_le (aWp hb i hil j h)]
   ·rw[hno j hj h];have:=aWp hb j hj i h;cases hbl:Nat.blt j i with
    |false=>rfl
    |true=>have:=Nat.le_of_ble_eq_true hbl;omega
  have hbii:Nat.blt i i=false:=by
   cases hbl:Nat.blt i i with
   |false=>rfl
   |true=>have:=Nat.le_of_ble_eq_true hbl;omega
  have hesl:∀j (e':Eff),es[j]?=some e'->j<l.length:=λj e' h=>by have:=(List.getElem?_eq_some_iff.1 h).1;omega
  have hg':aEi P n l o (stD D 0 l es S) e:=by
   refine aYr hg (λq hq=>?_) λh hh=>?_
   ·refine bAg (λj o' hj hd'=>?_) rfl;rw[Nat.zero_add]
    by_cases hji:j=i
    ·subst hji;rw[hDi,hbii]
    ·exact ord j (List.getElem?_eq_some_iff.1 hj).1 hji (H1 i j o o' q (Ne.symm hji) hi' hj hq hd')
   ·refine bAh ho ho (λj e' hj hk=>?_) rfl;rw[Nat.zero_add]
    by_cases hji:j=i
    ·subst hji;rw[hDi,hbii]
    ·refine ord j (hesl j e' hj) hji ?_;cases h1:aV j ((cL l l.length).getD i []) with
     |true=>exact .inl rfl
     | false=>
      cases h2:aV i ((cL l l.length).getD j []) with
      |true=>exact .inr rfl
      |false=>exact absurd hh (H2 i j e e' (Ne.symm hji) he hj h1 h2 h hk).1
  have hfresh:∀h∈e.nw,lW h (stD D 0 l es S)=false/\Nat.ble 100000 h=false:=λh hh=>by
   refine⟨bNp (H4 i e he h hh) λj e' hj hDj=>?_,(hfr h hh).2⟩;rw[Nat.zero_add] at hDj;have hji:j≠i:=λe0=>by subst e0;rw[hDi] at hDj;cases hDj
   refine H3 i j e e' (Ne.symm hji) he hj ?_ h hh;cases h2:aV i ((cL l l.length).getD j []) with
   |false=>rfl
   |true=>rw[hno j (hesl j e' hj) h2] at hDj;cases hDj
  have after:∀ρ2:Rho,Ent (((stD D 0 l es S).app o.dst e).at ρ2) ((stD (λj=>Nat.beq j i||D j) 0 l es S).at ρ2):=by
   intro ρ2;have henv:∀q,lk ((stD D 0 l es S).app o.dst e).env q=lk (stD (λj=>Nat.beq j i||D j) 0 l es S).env q:=by
    intro q;rw[aAd];have off:o.dst≠some q->lk (stD D 0 l es S).env q=lk (stD (λj=>Nat.beq j i||D j) 0 l es S).env q:=λhq=>by
     refine bAg (λj o' hj hd'=>?_) rfl;rw[Nat.zero_add];have hji:j≠i:=λe0=>by subst e0;rw[hi'] at hj;cases hj;exact hq hd'
     have:Nat.beq j i=false:=by
      cases hbj:Nat.beq j i with
      |false=>rfl
      |true=>exact absurd (Nat.eq_of_beq_eq_true hbj) hji
     rw[this,Bool.false_or]
    cases hdst:o.dst with
    |none=>exact off (by rw[hdst];simp)
    | some d=>
     cases hbq:Nat.beq d q with
     | true=>
      have:=Nat.eq_of_beq_eq_true hbq;subst this;simp only[hbq,cond_true];exact(bNr hi' he hdst (by simp) λj o' hj ho'=>H0 i j o o' d (Ne.symm hj) hi' ho' hdst).symm
     | false=>
      simp only[hbq,cond_false];exact off (by rw[hdst];intro e0;cases e0;simp at hbq)
   have hok1:fT (stD D 0 l es S).objs:=bJv ho;have hobj:((stD D 0 l es S).app o.dst e).objs.Perm (stD (λj=>Nat.beq j i||D j) 0 l es S).objs:=by
    refine bPv (aCv hok1) (bJv ho) λq=>?_;rw[aQw hok1];cases hq:aV q (tG e.ch) with
    | true=>
     refine(bNq ho hi' he hq (by simp) (λj e' hij hj hk=>?_) _).symm;rw[Nat.zero_add];have hji:j≠i:=by omega
     have:Nat.beq j i=false:=by
      cases hbj:Nat.beq j i with
      |false=>rfl
      |true=>exact absurd (Nat.eq_of_beq_eq_true hbj) hji
     rw[this,Bool.false_or];have h1:aV j ((cL l l.length).getD i [])=false:=by
      cases h1:aV j ((cL l l.length).getD i []) with
      |false=>rfl
      |true=>have:=aWp hb i hil j h1;omega
     cases h2:aV i ((cL l l.length).getD j []) with
     |true=>exact hno j (hesl j e' hj) h2
     | false=>
      have:=(H2 i j e e' (Ne.symm hji) he hj h1 h2 q hk).2;rw[hq] at this;cases this
    | false=>
     rw[bAy hq];refine bAh ho ho (λj e' hj hk=>?_) rfl;rw[Nat.zero_add];have hji:j≠i:=λe0=>by subst e0;rw[he] at hj;cases hj;rw[hq] at hk;cases hk
     have:Nat.beq j i=false:=by
      cases hbj:Nat.beq j i with
      |false=>rfl
      |true=>exact absurd (Nat.eq_of_beq_eq_true hbj) hji
     rw[this,Bool.false_or]
   have e1:(λq=>ρ2.av (lk ((stD D 0 l es S).app o.dst e).env q))=λq=>ρ2.av (lk (stD (λj=>Nat.beq j i||D j) 0 l es S).env q):=funext λq=>by rw[henv q]
   unfold VS.at;rw[e1];exact aEk (hobj.map _)
  have hdo:=aYe hd o (List.mem_of_getElem? hi');have run:mT P n o (stD D 0 l es S) e->Step P n o ((stD D 0 l es S).at ρ') (λs=>∃st3,(∃ρ'':Rho,ρ''.β=β/\st3=(stD (λj=>Nat.beq j i||D j) 0 l es S).at ρ'')/\Ent s st3):=λhs=>
   dJ (hs _ ⟨λ_ _=>rfl,λ_ _=>rfl⟩ hfresh ρ') λs ⟨ρ2,h2,hent⟩=>⟨_,⟨ρ2,h2.trans hβ,rfl⟩,hent.trans (after ρ2)⟩
  have skip:e=.p (.tup [])->∀d,o.dst=some d->∃st3,(∃ρ'':Rho,ρ''.β=β/\st3=(stD (λj=>Nat.beq j i||D j) 0 l es S).at ρ'')/\Ent (((stD D 0 l es S).at ρ').set d (.tup [])) st3:=λhep d hdst=>by
   refine⟨_,⟨ρ',hβ,rfl⟩,?_⟩;have a:=after ρ';have e2:((stD D 0 l es S).at ρ').set d (.tup [])=((stD D 0 l es S).app o.dst e).at ρ':=by
    rw[hep,hdst];exact qP _ d (.tup [])
   rw[e2];exact a
  unfold aEi at hg';split at hg'
  ·rename_i hgd
   exact .inl ⟨λ_ _ _ _ _ _=>by simp[Region.wanted,hgd],run hg'⟩
  ·rename_i j g hgd
   obtain⟨s,hs,hsn,hg'⟩:=hg';have hj:(l.toArray[j]?).bind (·.dst)=some s:=by simpa using hs
   rcases hg' with⟨c,hc,⟨hcg,h⟩|⟨hcg,hep,d,hdst,hdn⟩⟩|⟨hc,hep,d,hdst,hdn⟩
   ·subst hcg;exact .inl ⟨λA M w0 a w hR=>by simp[Region.wanted,hgd,zW hR hj hsn (aDa hc)],run h⟩
   ·exact .inr ⟨λA M w0 a w hR=>by simp[Region.wanted,hgd,zW hR hj hsn (aDa hc),hcg],d,hdst,hdn,skip hep d hdst⟩
   ·refine .inr ⟨λA M w0 a w hR=>?_,d,hdst,hdn,skip hep d hdst⟩;have h:=hR.env s;rw[aDa hc] at h;have hlt:s<a.tmps.size:=by rw[hR.size];exact hsn
    rw[Array.getD_eq_getD_getElem?,Array.getElem?_eq_getElem hlt,Option.getD_some] at h;have hy:yielded l.toArray a.tmps j=none:=by
     simp only[yielded,hj,Option.bind_some,Array.getElem?_eq_getElem hlt]
     generalize a.tmps[s]=u at h
     cases h;rfl
    simp[Region.wanted,hgd,hy]
 ·rintro st' ⟨ρ',hβ,rfl⟩;rw[List.drop_length];refine cCj ⟨rfl,ρ',hβ,?_⟩;rw[hS1];exact Ent.refl _
end Go.Am
end
end
section
namespace Go.Am
def hdD:D->List Nat
 | .hv _ h _=>[h]
 |_=>[]
def hd0:AV->List Nat
 | .d x=>hdD x
 | .agg xs=>xs.flatMap hdD
 | .bp h _ _=>[h]
 | .ep v _ _ _=>match v with
  | .map (some h)=>[h]
  |_=>[]
 |_=>[]
def hd1:AV->List Nat
 | .tup vs=>vs.flatMap hd0
 | .fn _ vs=>vs.flatMap hd0
 | .mf _ vs=>vs.flatMap hd0
 |x=>hd0 x
def hdA:AV->List Nat
 | .tup vs=>vs.flatMap hd1
 | .fn _ vs=>vs.flatMap hd1
 | .mf _ vs=>vs.flatMap hd1
 |x=>hd0 x
theorem aFx{α:Type}{p:α->Bool}{f:α->List Nat}{h:Nat}(hp:∀x,p x=true->h∈f x):∀{l:List α},l.any p=true->h∈l.flatMap f
 |[],hl=>by simp at hl
 | x::l,hl=>by
  simp only[List.any_cons,Bool.or_eq_true] at hl;rw[List.flatMap_cons]
  rcases hl with hl|hl
  ·exact List.mem_append.2 (.inl (hp x hl))
  ·exact List.mem_append.2 (.inr (aFx hp hl))
theorem bZh{h:Nat}{x:D}(hx:aBp h x=true):h∈hdD x:=by
 cases x with
 |hv q k j=>have:=Nat.eq_of_beq_eq_true (show Nat.beq k h=true from hx);subst this;simp[hdD]
 |_=>simp[aBp] at hx
theorem aCy{h:Nat}{x:AV}(hx:yW h x=true):h∈hd0 x:=by
 cases x with
 |d x=>exact bZh hx
 |agg xs=>exact aFx (λx=>bZh (x:=x)) hx
 |bp k o j=>have:=Nat.eq_of_beq_eq_true (show Nat.beq k h=true from hx);subst this;simp[hd0]
 | ep v k i c=>
  cases v with
  | map r=>cases r with
   |none=>simp[yW] at hx
   |some k=>have:=Nat.eq_of_beq_eq_true (show Nat.beq k h=true from hx);subst this;simp[hd0]
  |_=>simp[yW] at hx
 |_=>simp[yW] at hx
theorem bPb{h:Nat}{x:AV}(hx:aSl h x=true):h∈hd1 x:=by
 cases x with
 |tup vs=>exact aFx (λx=>aCy (x:=x)) hx
 |fn f vs=>exact aFx (λx=>aCy (x:=x)) hx
 |mf f vs=>exact aFx (λx=>aCy (x:=x)) hx
 |any=>simp[aSl,yW] at hx
 |d x=>exact aCy (x:=.d x) hx
 |agg x=>exact aCy (x:=.agg x) hx
 |cp x=>simp[aSl,yW] at hx
 |bp b o j=>exact aCy (x:=.bp b o j) hx
 |ep v k i c=>exact aCy (x:=.ep v k i c) hx
 |fl=>simp[aSl,yW] at hx
theorem cFj{h:Nat}{x:AV}(hx:qX h x=true):h∈hdA x:=by
 cases x with
 |tup vs=>exact aFx (λx=>bPb (x:=x)) hx
 |fn f vs=>exact aFx (λx=>bPb (x:=x)) hx
 |mf f vs=>exact aFx (λx=>bPb (x:=x)) hx
 |any=>simp[qX,yW] at hx
 |d x=>exact aCy (x:=.d x) hx
 |agg x=>exact aCy (x:=.agg x) hx
 |cp x=>simp[qX,yW] at hx
 |bp b o j=>exact aCy (x:=.bp b o j) hx
 |ep v k i c=>exact aCy (x:=.ep v k i c) hx
 |fl=>simp[qX,yW] at hx
def aQt{α:Type}(f:Nat->α->Bool):Nat->List α->Bool
 |_,[]=>true
 |k,x::l=>f k x&&aQt f (k+1) l
theorem aLo{α:Type}{f:Nat->α->Bool}:∀{l:List α} {k i:Nat} {x:α},aQt f k l=true->l[i]?=some x->f (k+i) x=true
 |[],_,_,_,_,h=>by simp at h
 | y::l,k,0,x,h,hx=>by
  simp only[aQt,Bool.and_eq_true] at h
  simp at hx;subst hx;exact h.1
 | y::l,k,i+1,x,h,hx=>by
  simp only[aQt,Bool.and_eq_true] at h;have:=aLo h.2 (i:=i) (by simpa using hx)
  rwa[show k+(i+1)=k+1+i by omega]
def bQt:Option Nat->Option Nat->Bool
 |some a,some b=>Nat.beq a b
 |_,_=>false
def bQv(l:List Oper):Bool:=
 zX l&&aQt (λi o=>aQt (λj o'=>Nat.beq i j||(!(bQt o.dst o'.dst)&&(match o'.dst with
  |some q=>!(aV q (rdO l o))||(aV j ((cL l l.length).getD i [])||aV i ((cL l l.length).getD j []))
  |none=>true))) 0 l) 0 l
def cDa(pr:List (List Nat))(S0:VS)(bs:List Eff):Bool:=
  aQt (λi e=>(e.nw.all λh=>!(lW h S0))&&aQt (λj e'=>Nat.beq i j||
    ((e'.ch.isEmpty||(aV j (pr.getD i [])||(aV i (pr.getD j [])||(tG e'.ch).all λh=>!(aV h e.us)&&!(aV h (tG e.ch)))))&&
     (e.nw.isEmpty||(aV i (pr.getD j [])||e.nw.all λh=>!(aDh h e'))))) 0 bs) 0 bs
def BdX(k0:List Nat)(e b:Eff):Prop:=e=b\/(e.ch=[]/\e.nw=[]/\b.ch=[]/\b.nw=[]/\(∀h∈e.us,aV h b.us=true)/\∀h,qX h e.v=true->aV h k0=true)
def Bds(k0:List Nat):List Eff->List Eff->Prop
 |[],[]=>True
 |e::es,b::bs=>BdX k0 e b/\Bds k0 es bs
 |_,_=>False
theorem Bds.get{k0:List Nat}:∀{es bs:List Eff},Bds k0 es bs->∀{i:Nat} {e:Eff},es[i]?=some e->∃b,bs[i]?=some b/\BdX k0 e b
 |[],[],_,i,e,h=>by simp at h
 |e0::es,b0::bs,h,0,e,he=>by simp at he;subst he;exact⟨b0,rfl,h.1⟩
 | e0::es,b0::bs,h,i+1,e,he=>by
  obtain⟨b,hb,hbd⟩:=h.2.get (i:=i) (by simpa using he);exact⟨b,by simpa using hb,hbd⟩
 |[],_::_,h,_,_,_=>h.elim
 |_::_,[],h,_,_,_=>h.elim
theorem Bds.append{k0:List Nat}:∀{es bs es' bs':List Eff},Bds k0 es bs->Bds k0 es' bs'->Bds k0 (es++es') (bs++bs')
 |[],[],_,_,_,h=>h
 |_::_,_::_,_,_,h,h'=>⟨h.1,h.2.append h'⟩
 |[],_::_,_,_,h,_=>h.elim
 |_::_,[],_,_,h,_=>h.elim
theorem aFk{α:Type}{l:List α}(h:l.isEmpty=true):l=[]:=by cases l with|nil=>rfl|cons=>simp at h
theorem cCy[Mode]{P:Program}{n id:Nat}{β:qT}{l:List Oper}{S S1:VS}{es bs:List Eff}(hm:P.follows .mixedOrders=true)(hd:yN n l=true)(hch:vQ P n l l S es S1)(ho:fT S.objs)(h1:bQv l=true)(h2:cDa (cL l l.length) S bs=true)
  (hbd:Bds (S.objs.map (·.1)) es bs)(ρ:Rho)(hρ:ρ.β=β):Tr P n (.region id l.toArray true) (S.at ρ) λe st=>e=.normal/\∃ρ':Rho,ρ'.β=β/\Ent st (S1.at ρ'):=by
 simp only[bQv,Bool.and_eq_true] at h1;have pair:∀(i j:Nat) (o o':Oper),i≠j->l[i]?=some o->l[j]?=some o'->(!(bQt o.dst o'.dst)&&(match o'.dst with|some q=>!(aV q (rdO l o))||(aV j ((cL l l.length).getD i [])||aV i ((cL l l.length).getD j []))|none=>true))=true:=λi j o o' hij hi hj=>by
  have a:=aLo h1.2 hi;simp only[Nat.zero_add] at a;have a:=aLo a hj;simp only[Nat.zero_add,Bool.or_eq_true (Nat.beq i j)] at a
  rcases a with a|a
  ·exact absurd (Nat.eq_of_beq_eq_true a) hij
  ·exact a
 have n0:∀(i:Nat) (b:Eff),bs[i]?=some b->∀h∈b.nw,lW h S=false:=λi b hb h hh=>by
  have a:=aLo h2 hb;simp only[Bool.and_eq_true] at a
  simpa using List.all_eq_true.1 a.1 h hh
 have pr2:∀(i j:Nat) (b b':Eff),i≠j->bs[i]?=some b->bs[j]?=some b'->((b'.ch.isEmpty||(aV j ((cL l l.length).getD i [])||(aV i ((cL l l.length).getD j [])||(tG b'.ch).all λh=>!(aV h b.us)&&!(aV h (tG b.ch)))))&&(b.nw.isEmpty||(aV i ((cL l l.length).getD j [])||b.nw.all λh=>!(aDh h b'))))=true:=λi j b b' hij hi hj=>by
  have a:=aLo h2 hi;simp only[Bool.and_eq_true] at a;have a:=aLo a.2 hj;simp only[Nat.zero_add,Bool.or_eq_true (Nat.beq i j)] at a
  rcases a with a|a
  ·exact absurd (Nat.eq_of_beq_eq_true a) hij
  ·exact a
 refine cCz hm h1.1 hd hch ho (λi j o o' q hij hi hj hq hq'=>?_) (λi j o o' q hij hi hj hr hq=>?_) (λi j e e' hij hi hj hp1 hp2 h hh=>?_) (λi j e e' hij hi hj hp h hh=>?_) (λi e hi h hh=>?_) ρ hρ
 ·have a:=pair i j o o' hij hi hj;rw[hq,hq'] at a
  simp[bQt] at a
 ·have a:=pair i j o o' hij hi hj;rw[hq] at a;simp only[Bool.and_eq_true,Bool.or_eq_true,Bool.not_eq_true',jG.2 hr] at a
  rcases a.2 with a|a
  ·cases a
  ·exact a
 ·obtain⟨b,hb,hbe⟩:=hbd.get hi;obtain⟨b',hb',hbe'⟩:=hbd.get hj;have a:=pr2 i j b b' hij hb hb';have e2:e'=b':=by
   rcases hbe' with h0|⟨h0,_⟩
   ·exact h0
   ·rw[h0] at hh;cases hh
  subst e2;simp only[Bool.and_eq_true,hp1,hp2,Bool.false_or] at a;have a1:=a.1;cases hem:e'.ch.isEmpty with
  |true=>rw[aFk hem] at hh;cases hh
  | false=>
   rw[hem,Bool.false_or] at a1;have:=List.all_eq_true.1 a1 h (jG.1 hh);simp only[Bool.and_eq_true,Bool.not_eq_true'] at this
   rcases hbe with rfl|⟨h3,_,_,_,h4,_⟩
   ·exact⟨λhu=>(by rw[jG.2 hu] at this;cases this.1),this.2⟩
   ·refine⟨λhu=>?_,by rw[h3];rfl⟩;rw[h4 h hu] at this;cases this.1
 ·obtain⟨b,hb,hbe⟩:=hbd.get hi;obtain⟨b',hb',hbe'⟩:=hbd.get hj;have e1:e=b:=by
   rcases hbe with h0|⟨_,h0,_⟩
   ·exact h0
   ·rw[h0] at hh;cases hh
  subst e1;have a:=(pr2 i j e b' hij hb hb');simp only[Bool.and_eq_true,hp,Bool.false_or] at a;have a2:=a.2;have hocc:aDh h b'=false:=by
   cases hem:e.nw.isEmpty with
   |true=>rw[aFk hem] at hh;cases hh
   | false=>
    rw[hem,Bool.false_or] at a2
    simpa using List.all_eq_true.1 a2 h hh
  rcases hbe' with rfl|⟨h3,_,_,_,_,h5⟩
  ·exact hocc
  ·have h0:=n0 i e hb h hh;cases hv:qX h e'.v with
   |false=>simp[aDh,hv,h3]
   | true=>
    have hk:=jG.1 (h5 h hv);obtain⟨p,hp1,hp2⟩:=List.mem_map.1 hk;simp only[lW,Bool.or_eq_false_iff] at h0;have:=List.any_eq_false.1 h0.2 p hp1
    simp[hp2] at this
 ·obtain⟨b,hb,hbe⟩:=hbd.get hi
  rcases hbe with rfl|⟨_,h0,_⟩
  ·exact n0 i e hb h hh
  ·rw[h0] at hh;cases hh
structure JO(c:Bool)(S:VS)(m t:Nat)(ds:List Nat)(A:(VS->Prop)->Prop)(B:VS->Prop):Prop where
 h:c=true/\∃x:Bool,A (GN S m t ds x)/\B ⟨(t,.b x)::tN ds S.env,S.objs⟩
structure ODr(c:Bool)(K:Prop):Prop where
 h:c=true/\K
def aOj(ops:List Oper)(ds:List Nat):List Oper->Bool
 |[]=>true
 |o::l=>(rdO ops o).all (λq=>!(aV q ds))&&aOj ops ds l
def okG(k0 U:List Nat)(b:Eff):Bool:=b.ch.isEmpty&&(b.nw.isEmpty&&(b.us.all (λh=>aV h U)&&(hdA b.v).all λh=>aV h k0))
def bPa(U:List Nat):Nat->List Eff
 |0=>[]
 |m+1=>⟨.any,[],U,[]⟩::bPa U m
section
variable{P:Program}(T:TT P)(n:Nat)(X:XP)(ops:List Oper)(k0:List Nat)
def opO[Mode](cur:List (Nat×Bool))(o:Oper)(S:VS)(K:Eff->VS->Prop):Prop:=match cur,o.op,o.dst with
 | _::_,.pick (.tmp s) x y,some d=>match ckd cur s with
  |some true=>aAb S x λe=>tO (some d) e S (K e)
  |some false=>aAb S y λe=>tO (some d) e S (K e)
  |none=>xop T n X.ow S o λe=>aDe S e.nw (tO o.dst e S (K e))
 |_,_,_=>xop T n X.ow S o λe=>aDe S e.nw (tO o.dst e S (K e))
def aPl[Mode](cur:List (Nat×Bool))(o:Oper)(S:VS)(K:Eff->VS->Prop):Prop:=
 bif (ckd cur (o.dst.getD 0)).isSome then False else opO T n X cur o S λe S=>bif e.nw.all (λh=>!(aV h k0)) then K e S else False
abbrev RO:=Nat->Nat->Nat->List (Nat×Bool)->VS->List Eff->(List Eff->VS->Prop)->Prop
def bQk [Mode](o:Oper)(l:List Oper)(ih:RO):RO:=λi sk lim cur S acc K=>match sk,lim with
 |sk+1,lim=>ih (i+1) sk lim cur S acc K
 |0,0=>K acc S
 | 0, lim +1=>match o.guard with
  |none=>aPl T n X k0 cur o S λe S=>ih (i+1) 0 lim cur S (acc++[e]) K
  | some (j,g)=>match aOk ops j with
   | some s=>bif Nat.ble (s+1) n then(match ckd cur s with
    |some c=>bif (bif g then c else !c) then aPl T n X k0 cur o S λe S=>ih (i+1) 0 lim cur S (acc++[e]) K else yA cur o S λS=>ih (i+1) 0 lim cur S (acc++[.p (.tup [])]) K
    | none=>match lk S.env s with
     | .d (.lit (.bool c))=>bif aQv X (fG i j (o::l)) (o::l) then
       OB c λc=>bif (bif g then c else !c) then aPl T n X k0 ((s,c)::cur) o S λe S=>ih (i+1) 0 lim ((s,c)::cur) S (acc++[e]) K else yA ((s,c)::cur) o S λS=>ih (i+1) 0 lim ((s,c)::cur) S (acc++[.p (.tup [])]) K
      else bif Nat.ble (fG i j l+2) (lim+1)&&aTt (((gF (fG i j l+2) (o::l)).getLast?).getD 0) (gF (fG i j l+1) (o::l)) cur then
       JO (aOj ops (gF (fG i j l+1) (o::l)) (l.drop (fG i j l+1))) S (fG i j l+2) (((gF (fG i j l+2) (o::l)).getLast?).getD 0) (gF (fG i j l+1) (o::l))
        (λN=>OB c λc=>bif (bif g then c else !c) then aPl T n X k0 ((s,c)::cur) o S λe S'=>ih (i+1) 0 (fG i j l+1) ((s,c)::cur) S' [e] λbs S'=>bs.all (okG k0 (S.objs.map (·.1)))=true/\N S'
         else yA ((s,c)::cur) o S λS'=>ih (i+1) 0 (fG i j l+1) ((s,c)::cur) S' [.p (.tup [])] λbs S'=>bs.all (okG k0 (S.objs.map (·.1)))=true/\N S')
        (λS'=>ih (i+1) (fG i j l+1) (lim-(fG i j l+1)) cur S' (acc++bPa (S.objs.map (·.1)) (fG i j l+2)) K)
      else False
     | .tup []=>yA cur o S λS=>ih (i+1) 0 lim cur S (acc++[.p (.tup [])]) K
     |_=>False) else False
   |none=>False
def aWt[Mode](l:List Oper):RO:=List.rec (motive:=λ_=>RO) (λ_ _ _ _ S acc K=>K acc S) (λo l ih=>bQk T n X ops k0 o l ih) l
end
section
variable{P:Program}{T:TT P}{n:Nat}{X:XP}{ops:List Oper}{k0:List Nat}
theorem cFx[Mode]{cur:List (Nat×Bool)}{o:Oper}{S:VS}{K:Eff->VS->Prop}(hc:mS cur S)(hd:∀d,o.dst=some d->d<n)(h:opO T n X cur o S K):cA P n o S λe=>aDe S e.nw (tO o.dst e S (K e)):=by
 unfold opO at h;split at h
 ·rename_i p cl s x y d hop hdst
  have hs:∀b,ckd (p::cl) s=some b->lk S.env s=.b b:=λb=>hc s b;obtain⟨dst,op,ty,pos,af,gd⟩:=o;simp only at hop hdst;subst hop;subst hdst;split at h
  ·rename_i hb
   have hv:S.ev (.tmp s)=.d (.lit (.bool true)):=hs _ hb;exact aMt (K:=λe=>aDe S e.nw (tO (some d) e S (K e))) (hd d rfl) (by
    unfold aPr;rw[hv];refine⟨?_⟩;simp only;unfold aAb at h|-;cases hk:cD x with
    |false=>rw[hk] at h;exact h
    | true=>
     rw[hk] at h;simp only[cond_true] at h|-;have:=aAx (K:=λv=>tO (some d) (.p v) S (K (.p v))) h
     generalize S.ev x=v at this
     unfold frc;split<;>first|exact this|(unfold aNw;split<;>exact this))
  ·rename_i hb
   have hv:S.ev (.tmp s)=.d (.lit (.bool false)):=hs _ hb;exact aMt (K:=λe=>aDe S e.nw (tO (some d) e S (K e))) (hd d rfl) (by
    unfold aPr;rw[hv];refine⟨?_⟩;simp only;unfold aAb at h|-;cases hk:cD y with
    |false=>rw[hk] at h;exact h
    | true=>
     rw[hk] at h;simp only[cond_true] at h|-;have:=aAx (K:=λv=>tO (some d) (.p v) S (K (.p v))) h
     generalize S.ev y=v at this
     unfold frc;split<;>first|exact this|(unfold aNw;split<;>exact this))
  ·exact bFq hd h
 ·exact bFq hd h
theorem cAi{cur:List (Nat×Bool)}{S:VS}{o:Oper}{e:Eff}(hc:mS cur S)(hs:(ckd cur (o.dst.getD 0)).isSome=false):mS cur (S.app o.dst e):=λs b hb=>by
 rw[aAd];cases hdst:o.dst with
 |none=>exact hc s b hb
 | some d=>
  cases hds:Nat.beq d s with
  | true=>
   have:=Nat.eq_of_beq_eq_true hds;subst this;rw[hdst] at hs;simp only[Option.getD_some,hb,Option.isSome_some] at hs;cases hs
  |false=>simp only[hds,cond_false];exact hc s b hb
theorem bNt[Mode]{cur:List (Nat×Bool)}{o:Oper}{S:VS}{K:Eff->VS->Prop}(hc:mS cur S)(hd:∀d,o.dst=some d->d<n)(h:aPl T n X k0 cur o S K):
  ∃e,mT P n o S e/\(∀h∈e.nw,lW h S=false/\Nat.ble 100000 h=false)/\(∀h∈e.nw,aV h k0=false)/\K e (S.app o.dst e)/\mS cur (S.app o.dst e):=by
 unfold aPl at h;obtain⟨hs,h⟩:=cnf h;obtain⟨e,hK,hS⟩:=(cFx hc hd h).h;obtain⟨h1,h2⟩:=aSi hK;have h1:=bGi h1;obtain⟨h3,h1⟩:=jD h1;exact⟨e,hS,h2,λk hk=>by simpa using List.all_eq_true.1 h3 k hk,h1,cAi hc hs⟩
def Sub(A B:VS):Prop:=A.objs=B.objs/\∀k,lk B.env k=.any\/lk A.env k=lk B.env k
theorem Sub.lev[Mode]{β:qT}{A B:VS}(h:Sub A B):LeV β A B:=λρ hρ=>⟨ρ,hρ,by
 have:Ent ⟨λk=>ρ.av (lk A.env k),A.objs.map λp=>ρ.mo p.1 p.2⟩ ⟨λk=>ρ.av (lk B.env k),A.objs.map λp=>ρ.mo p.1 p.2⟩:=aTq λk=>by
  rcases h.2 k with h|h
  ·left;rw[h];rfl
  ·right;rw[h]
 unfold VS.at;rw[<-h.1];exact this⟩
theorem Sub.trans{A B C:VS}(h:Sub A B)(h2:Sub B C):Sub A C:=⟨h.1.trans h2.1,λk=>by
 rcases h2.2 k with h3|h3
 ·exact .inl h3
 ·rcases h.2 k with h4|h4
  ·exact .inl (h3.symm.trans h4)
  ·exact .inr (h4.trans h3)⟩
theorem Sub.refl(A:VS):Sub A A:=⟨rfl,λ_=>.inr rfl⟩
structure Dif(k0 ds:List Nat)(A B:VS):Prop where
 ob:A.objs=B.objs
 off:∀k,aV k ds=false->lk A.env k=lk B.env k
 sub:∀k,lk B.env k=.any\/lk A.env k=lk B.env k
 occ:∀h,aV h k0=false->B.env.any (λp=>qX h p.2)=false->A.env.any (λp=>qX h p.2)=false
theorem cAq{ds:List Nat}{A B:VS}(h:Dif k0 ds A B)(dst:Option Nat)(e:Eff):Dif k0 ds (A.app dst e) (B.app dst e):=by
 refine⟨by simp only[VS.app,h.ob],λk hk=>?_,λk=>?_,λk hk hB=>?_⟩
 ·rw[aAd,aAd];cases dst with
  |none=>exact h.off k hk
  |some d=>simp only;rw[h.off k hk]
 ·rw[aAd,aAd];cases dst with
  |none=>exact h.sub k
  | some d=>
   simp only;cases Nat.beq d k with
   |true=>exact .inr rfl
   |false=>exact h.sub k
 ·cases dst with
  |none=>exact h.occ k hk hB
  | some d=>
   simp only[VS.app,List.any_cons,Bool.or_eq_false_iff] at hB|-;exact⟨hB.1,h.occ k hk hB.2⟩
theorem bDd[Mode]{ds:List Nat}:∀{l:List Oper} {es:List Eff} {A B B':VS},Dif k0 ds A B->aOj ops ds l=true->(∀e∈es,∀h∈e.nw,aV h k0=false)->vQ P n ops l B es B'->∃A',vQ P n ops l A es A'/\Dif k0 ds A' B'
 |[],[],A,B,B',h,_,_,hc=>⟨A,rfl,by have e:B=B':=hc;subst e;exact h⟩
 | o::l,e::es,A,B,B',h,hr,hn,hc=>by
  obtain⟨h1,h2,h3⟩:=hc;simp only[aOj,Bool.and_eq_true] at hr;obtain⟨A',h4,h5⟩:=bDd (cAq h o.dst e) hr.2 (λe' he=>hn e' (List.mem_cons_of_mem _ he)) h3;refine⟨A',⟨aYr h1 (λk hk=>h.off k ?_) λk _=>by rw[h.ob],λk hk=>⟨?_,(h2 k hk).2⟩,h4⟩,h5⟩
  ·simpa using List.all_eq_true.1 hr.1 k hk
  ·have:=(h2 k hk).1;simp only[lW,Bool.or_eq_false_iff] at this|-;exact⟨h.occ k (hn e (by simp) k hk) this.1,by rw[h.ob];exact this.2⟩
 |[],_::_,_,_,_,_,_,_,hc=>hc.elim
 |_::_,[],_,_,_,_,_,_,hc=>hc.elim
theorem aRc[Mode]:∀{l l2:List Oper} {es es2:List Eff} {S S1 S2:VS},vQ P n ops l S es S1->vQ P n ops l2 S1 es2 S2->vQ P n ops (l++l2) S (es++es2) S2
 |[],l2,[],es2,S,S1,S2,h,h2=>by have e:S=S1:=h;subst e;exact h2
 |o::l,l2,e::es,es2,S,S1,S2,h,h2=>⟨h.1,h.2.1,aRc h.2.2 h2⟩
 |[],_,_::_,_,_,_,_,h,_=>h.elim
 |_::_,_,[],_,_,_,_,h,_=>h.elim
theorem bGt[Mode]{k:Nat}:∀{l:List Oper} {es:List Eff} {S S1:VS},(∀o∈l,o.dst≠some k)->vQ P n ops l S es S1->lk S1.env k=lk S.env k
 |[],[],S,S1,_,h=>by have e:S=S1:=h;subst e;rfl
 | o ::l,e::es,S,S1,hd,h=>by
  rw[bGt (λo' ho=>hd o' (List.mem_cons_of_mem _ ho)) h.2.2,aAd];have:=hd o (by simp);cases hdst:o.dst with
  |none=>rfl
  | some d=>
   have:Nat.beq d k=false:=by
    cases hb:Nat.beq d k with
    |false=>rfl
    |true=>have:=Nat.eq_of_beq_eq_true hb;subst this;exact absurd hdst (by assumption)
   simp only[this,cond_false]
 |[],_::_,_,_,_,h=>h.elim
 |_::_,[],_,_,_,h=>h.elim
theorem bDg[Mode]{k:Nat}:∀{l:List Oper} {es:List Eff} {S S1:VS},(∀e∈es,qX k e.v=false)->S.env.any (λp=>qX k p.2)=false->vQ P n ops l S es S1->S1.env.any (λp=>qX k p.2)=false
 |[],[],S,S1,_,ho,h=>by have e:S=S1:=h;subst e;exact ho
 | o::l,e::es,S,S1,hd,ho,h=>by
  refine bDg (λe' he=>hd e' (List.mem_cons_of_mem _ he)) ?_ h.2.2;cases hdst:o.dst with
  |none=>exact ho
  |some d=>simp only[VS.app,List.any_cons,Bool.or_eq_false_iff];exact⟨hd e (by simp),ho⟩
 |[],_::_,_,_,_,_,h=>h.elim
 |_::_,[],_,_,_,_,h=>h.elim
theorem aYf{k:Nat}:∀{m:Nat} {l:List Oper},aV k (gF (m+1) l)=true->aV k (gF m l)=true\/(gF (m+1) l).getLast?.getD 0=k
 |_,[],h=>by simp[gF,aV] at h
 | 0,o::l,h=>by
  right
  have:gF 1 (o::l)=[o.dst.getD 0]:=by cases l<;>rfl
  rw[this] at h|-;simp only[aV] at h;cases hb:Nat.beq (o.dst.getD 0) k with
  |true=>simpa using Nat.eq_of_beq_eq_true hb
  |false=>rw[hb] at h;cases h
 | m +1,o::l,h=>by
  have e:gF (m+1+1) (o::l)=o.dst.getD 0::gF (m+1) l:=rfl;have e2:gF (m+1) (o::l)=o.dst.getD 0::gF m l:=rfl;rw[e] at h|-;rw[e2];simp only[aV] at h|-;cases hb:Nat.beq (o.dst.getD 0) k with
  |true=>left;rfl
  | false=>
   rw[hb] at h;simp only[cond_false] at h|-
   rcases aYf h with h1|h1
   ·exact .inl h1
   ·right
    rw[List.getLast?_cons];cases hx:gF (m+1) l with
    |nil=>rw[hx] at h;cases h
    |cons a x=>rw[hx] at h1;simpa[List.getLast?_cons] using h1
theorem aYg{k:Nat}:∀{m:Nat} {l:List Oper},aV k (gF m l)=false->∀o∈l.take m,o.dst≠some k
 |0,_,_,o,h=>by simp at h
 |_+1,[],_,o,h=>by simp at h
 | m+1,x::l,hm,o,h=>by
  simp only[gF,aV] at hm;cases hb:Nat.beq (x.dst.getD 0) k with
  |true=>rw[hb] at hm;cases hm
  | false=>
   rw[hb] at hm;rw[List.take_succ_cons] at h
   rcases List.mem_cons.1 h with rfl|h
   ·intro e;rw[e] at hb;simp at hb
   ·exact aYg (by simpa using hm) o h
theorem bDz{ds:List Nat}:∀{m:Nat} {l:List Oper},aOj ops ds l=true->aOj ops ds (l.take m)=true
 |0,_,_=>by simp[aOj]
 |_+1,[],_=>by simp[aOj]
 | m+1,x::l,h=>by
  simp only[aOj,Bool.and_eq_true,List.take_succ_cons] at h|-;exact⟨h.1,bDz h.2⟩
theorem cDv{U:List Nat}{e b:Eff}(h:okG k0 U b=true)(hb:BdX k0 e b):BdX k0 e ⟨.any,[],U,[]⟩/\e.nw=[]/\∀k,aV k k0=false->qX k e.v=false:=by
 simp only[okG,Bool.and_eq_true] at h;obtain⟨h1,h2,h3,h4⟩:=h;have h1:=aFk h1;have h2:=aFk h2;have hU:∀h∈b.us,aV h U=true:=λk hk=>List.all_eq_true.1 h3 k hk;have fin:e.ch=[]->e.nw=[]->(∀h∈e.us,aV h U=true)->(∀h,qX h e.v=true->aV h k0=true)->BdX k0 e ⟨.any,[],U,[]⟩/\e.nw=[]/\∀k,aV k k0=false->qX k e.v=false:=λa b c d=>
  ⟨.inr ⟨a,b,rfl,rfl,c,d⟩,b,λk hk=>by
   cases ho:qX k e.v with
   |false=>rfl
   |true=>rw[d k ho] at hk;cases hk⟩
 rcases hb with rfl|⟨a1,a2,_,_,a3,a4⟩
 ·exact fin h1 h2 hU λk hk=>List.all_eq_true.1 h4 k (cFj hk)
 ·exact fin a1 a2 (λk hk=>hU k (jG.1 (a3 k hk))) a4
theorem bMr{U:List Nat}:∀{es bs:List Eff},Bds k0 es bs->bs.all (okG k0 U)=true->Bds k0 es (bPa U es.length)/\(∀e∈es,e.nw=[]/\∀k,aV k k0=false->qX k e.v=false)
 |[],[],_,_=>⟨trivial,by simp⟩
 | e::es,b::bs,h,hb=>by
  simp only[List.all_cons,Bool.and_eq_true] at hb;obtain⟨h1,h2,h3⟩:=cDv hb.1 h.1;obtain⟨h4,h5⟩:=bMr h.2 hb.2;refine⟨⟨h1,h4⟩,λe' he=>?_⟩
  rcases List.mem_cons.1 he with rfl|he
  ·exact⟨h2,h3⟩
  ·exact h5 e' he
 |[],_::_,h,_=>h.elim
 |_::_,[],h,_=>h.elim
theorem bDf[Mode]:∀{l:List Oper} {es:List Eff} {S S1:VS},vQ P n ops l S es S1->es.length=l.length
 |[],[],_,_,_=>rfl
 |o::l,e::es,S,S1,h=>by simp[bDf h.2.2]
 |[],_::_,_,_,h=>h.elim
 |_::_,[],_,_,h=>h.elim
theorem bGg{h:Nat}:∀{ds:List Nat} {l:List (Nat×AV)},(tN ds l).any (λp=>qX h p.2)=l.any λp=>qX h p.2
 |[],_=>rfl
 |d::ds,l=>by simp only[tN,List.any_cons,bGg (ds:=ds)];simp[qX,yW]
theorem aUv{k:Nat}:∀{ds:List Nat} {l:List (Nat×AV)},aV k ds=false->lk (tN ds l) k=lk l k
 |[],_,_=>rfl
 | d::ds,l,h=>by
  simp only[aV] at h;cases hb:Nat.beq d k with
  |true=>rw[hb] at h;cases h
  |false=>rw[hb] at h;simp only[tN,lk,hb,cond_false];exact aUv (by simpa using h)
def bOd[Mode](P:Program)(n:Nat)(ops:List Oper)(k0:List Nat)(l:List Oper)(S:VS)(acc:List Eff)(K:List Eff->VS->Prop):Prop:=
 ∃(es bs:List Eff) (A S':VS),vQ P n ops l S es A/\Bds k0 es bs/\(∀e∈es,∀h∈e.nw,aV h k0=false)/\Sub A S'/\K (acc++bs) S'
theorem aZx [Mode]:∀{l:List Oper} {i sk lim:Nat} {cur:List (Nat×Bool)} {S:VS} {acc:List Eff} {K:List Eff->VS->Prop},yN n l=true->mS cur S->sk+lim<=l.length->aWt T n X ops k0 l i sk lim cur S acc K->bOd P n ops k0 ((l.drop sk).take lim) S acc K
 | [],i,sk,lim,cur,S,acc,K,_,_,hle,h=>by
  refine⟨[],[],S,S,?_,trivial,by simp,Sub.refl S,by rw[List.append_nil];exact h⟩
  simp[vQ]
 | o::l,i,sk+1,lim,cur,S,acc,K,hd,hc,hle,h=>by
  have hdl:yN n l=true:=by simp only[yN,Bool.and_eq_true] at hd;exact hd.2
  rw[List.drop_succ_cons];exact aZx hdl hc (by simp at hle;omega) h
 |o::l,i,0,0,cur,S,acc,K,_,_,hle,h=>⟨[],[],S,S,rfl,trivial,by simp,Sub.refl S,by rw[List.append_nil];exact h⟩
 | o :: l, i, 0,lim+1,cur,S,acc,K,hd,hc,hle,h=>by
  have hdo:=aYe hd o (by simp);have hdl:yN n l=true:=by simp only[yN,Bool.and_eq_true] at hd;exact hd.2
  have hle':lim<=l.length:=by simp at hle;omega
  have fin:∀{cur:List (Nat×Bool)} {lim:Nat} {acc:List Eff} {N:List Eff->VS->Prop} {e:Eff},lim<=l.length->aEi P n ops o S e->(∀h∈e.nw,lW h S=false/\Nat.ble 100000 h=false)->(∀h∈e.nw,aV h k0=false)->mS cur (S.app o.dst e)->
    aWt T n X ops k0 l (i+1) 0 lim cur (S.app o.dst e) (acc++[e]) N->bOd P n ops k0 ((o::l).take (lim+1)) S acc N:=by
   intro cur lim acc N e hl hg hn hn0 hc h;obtain⟨es,bs,A,S',h1,h2,h3,h4,h5⟩:=aZx hdl hc (by omega) h;refine⟨e::es,e::bs,A,S',?_,⟨.inl rfl,h2⟩,λe' he=>?_,h4,by simpa using h5⟩
   ·rw[List.take_succ_cons];exact⟨hg,hn,by simpa using h1⟩
   ·rcases List.mem_cons.1 he with rfl|he
    ·exact hn0
    ·exact h3 e' he
  simp only[List.drop_zero]
  change bQk T n X ops k0 o l (aWt T n X ops k0 l) i 0 (lim+1) cur S acc K at h
  simp only[bQk] at h;cases hg:o.guard with
  | none=>
   rw[hg] at h;obtain⟨e,h1,h2,h3,h4,h5⟩:=bNt hc hdo h;exact fin hle' (by unfold aEi;rw[hg];exact h1) h2 h3 h5 h4
  | some p =>
   obtain⟨j,g⟩:=p;rw[hg] at h;simp only at h;split at h
   ·rename_i s hs
    rw [aWj] at hs;obtain⟨hsn,h⟩:=jD h;have hsn:=Nat.le_of_ble_eq_true hsn;have skip:∀{cur:List (Nat×Bool)} {lim:Nat} {acc:List Eff} {N:List Eff->VS->Prop},mS cur S->lim<=l.length->(∀d,o.dst=some d->d<n->aEi P n ops o S (.p (.tup [])))->
      yA cur o S (λS=>aWt T n X ops k0 l (i+1) 0 lim cur S (acc++[.p (.tup [])]) N)->bOd P n ops k0 ((o::l).take (lim+1)) S acc N:=by
     intro cur lim acc N hc hl hG hp;obtain⟨d,ho,hr,hc'⟩:=bNe hc hp;have e:S.app o.dst (.p (.tup []))=⟨(d,.tup [])::S.env,S.objs⟩:=by rw[ho];rfl
     exact fin hl (hG d ho (hdo d ho)) (by simp) (by simp) (e▸hc') (e▸hr)
    have ask:∀{cur:List (Nat×Bool)} {lim:Nat} {acc:List Eff} {N:List Eff->VS->Prop} {c:Bool},mS cur S->lim<=l.length->lk S.env s=.b c->
      (bif (bif g then c else !c) then aPl T n X k0 cur o S (λe S=>aWt T n X ops k0 l (i+1) 0 lim cur S (acc++[e]) N) else yA cur o S (λS=>aWt T n X ops k0 l (i+1) 0 lim cur S (acc++[.p (.tup [])]) N))->bOd P n ops k0 ((o::l).take (lim+1)) S acc N:=by
     intro cur lim acc N c hc hl hlk h;cases hcg:(bif g then c else !c) with
     | true=>
      rw[hcg] at h;obtain⟨e,h1,h2,h3,h4,h5⟩:=bNt hc hdo h;refine fin hl ?_ h2 h3 h5 h4;unfold aEi;rw[hg];exact⟨s,hs,hsn,.inl ⟨c,hlk,.inl ⟨by cases g<;>cases c<;>simp_all,h1⟩⟩⟩
     | false=>
      rw[hcg] at h;refine skip hc hl (λd ho hdn=>?_) h;unfold aEi;rw[hg];exact⟨s,hs,hsn,.inl ⟨c,hlk,.inr ⟨by cases g<;>cases c<;>simp_all,rfl,d,ho,hdn⟩⟩⟩
    split at h
    ·rename_i c hcc
     exact ask hc hle' (hc s c hcc) h
    ·split at h
     ·rename_i c hlk
      cases he:aQv X (fG i j (o::l)) (o::l) with
      | true=>
       rw[he] at h;simp only[cond_true] at h;exact ask (aHv hc hlk) hle' hlk (bBz h)
      | false =>
       rw[he] at h;simp only[cond_false] at h;obtain⟨hb,h⟩:=jD h;simp only[Bool.and_eq_true] at hb;obtain⟨hb1,hb2⟩:=hb;have hm:=Nat.le_of_ble_eq_true hb1;obtain⟨hb3,x,hA,hB⟩:=h.h;have hA:=bBz hA;have hA:=ask (acc:=[]) (aHv hc hlk) (by omega) hlk hA;obtain⟨es1,bs1,A1,S1,a1,a2,a3,a4,a5,a6⟩:=hA;obtain⟨es2,bs2,B2,S2,b1,b2,b3,b4,b5⟩:=aZx hdl (aYb hc hb2) (by omega) hB;simp only[List.nil_append] at a5;obtain⟨c1,c2⟩:=bMr a2 a5;have hlen:es1.length=fG i j l+2:=by rw[bDf a1,List.length_take,List.length_cons];omega
       rw[hlen] at c1;have off:∀k,aV k (gF (fG i j l+2) (o::l))=false->lk A1.env k=lk S.env k:=λk hk=>bGt (aYg hk) a1;have hobj:A1.objs=S.objs:=a4.1.trans a6.2.2.2;have htx:lk A1.env (((gF (fG i j l+2) (o::l)).getLast?).getD 0)=.b x:=by
        rcases a4.2 (((gF (fG i j l+2) (o::l)).getLast?).getD 0) with h|h
        ·rw[a6.2.2.1] at h;cases h
        ·rw[h,a6.2.2.1]
       have hdif:Dif k0 (gF (fG i j l+1) (o::l)) A1 ⟨((((gF (fG i j l+2) (o::l)).getLast?).getD 0),.b x)::tN (gF (fG i j l+1) (o::l)) S.env,S.objs⟩:=by
        have key:∀k,aV k (gF (fG i j l+1) (o::l))=false->lk A1.env k=lk (((((gF (fG i j l+2) (o::l)).getLast?).getD 0),.b x)::tN (gF (fG i j l+1) (o::l)) S.env) k:=by
         intro k hk;simp only[lk];cases hb:Nat.beq (((gF (fG i j l+2) (o::l)).getLast?).getD 0) k with
         |true=>have:=Nat.eq_of_beq_eq_true hb;subst this;exact htx
         | false=>
          simp only[cond_false];rw[aUv hk];refine off k ?_;cases hx:aV k (gF (fG i j l+2) (o::l)) with
          |false=>rfl
          | true=>
           rcases aYf hx with h|h
           ·rw[hk] at h;cases h
           ·rw[h] at hb;simp at hb
        refine⟨hobj,key,λk=>?_,λk hk hB=>?_⟩
        ·cases hk:aV k (gF (fG i j l+1) (o::l)) with
         |false=>exact .inr (key k hk)
         | true=>
          cases hb:Nat.beq (((gF (fG i j l+2) (o::l)).getLast?).getD 0) k with
          |true=>have:=Nat.eq_of_beq_eq_true hb;subst this;right;simp only[lk,Nat.beq_refl,cond_true];exact htx
          | false=>
           simp only[lk,hb,cond_false];have:∀{ds:List Nat} {l:List (Nat×AV)},aV k ds=true->lk (tN ds l) k=.any:=by
            intro ds
            induction ds with
            |nil=>intro l h;cases h
            | cons d ds ih=>
             intro l h;simp only[aV] at h;simp only[tN,lk];cases hb:Nat.beq d k with
             |true=>rfl
             |false=>rw[hb] at h;exact ih (by simpa using h)
           exact .inl (this hk)
        ·refine bDg (λe he=>(c2 e he).2 k hk) ?_ a1;simp only[List.any_cons,bGg,Bool.or_eq_false_iff] at hB;exact hB.2
       obtain⟨A',d1,d2⟩:=bDd hdif (bDz hb3) b3 b1;refine⟨es1++es2,bPa (S.objs.map (·.1)) (fG i j l+2)++bs2,A',S2,?_,c1.append b2,λe he=>?_,(Sub.trans ⟨d2.ob,d2.sub⟩ b4),by simpa using b5⟩
       ·have e1:(o::l).take (lim+1)=(o::l).take (fG i j l+1+1)++(l.drop (fG i j l+1)).take (lim-(fG i j l+1)):=by
         rw[List.take_succ_cons,List.take_succ_cons,List.cons_append,<-List.take_add,show fG i j l+1+(lim-(fG i j l+1))=lim by omega]
        rw[e1];exact aRc a1 d1
       ·rcases List.mem_append.1 he with he|he
        ·rw[(c2 e he).1];simp
        ·exact b3 e he
     ·rename_i hlk
      refine skip hc hle' (λd ho hdn=>?_) h;unfold aEi;rw[hg];exact⟨s,hs,hsn,.inr ⟨hlk,rfl,d,ho,hdn⟩⟩
     ·exact h.elim
   ·exact h.elim
end
def aXm:List (Nat×VO)->Bool
 |[]=>true
 |p::l=>(!(aV p.1 (l.map (·.1))))&&aXm l
theorem bGh:∀{l:List (Nat×VO)},aXm l=true->fT l
 |[],_=>List.nodup_nil
 | p::l,h=>by
  simp only[aXm,Bool.and_eq_true,Bool.not_eq_true'] at h;refine List.nodup_cons.2 ⟨λhm=>?_,bGh h.2⟩;rw[jG.2 hm] at h;cases h.1
def aEt:Code->Bool
 | .exit _=>false| .ret=>false| .goto _=>false| .refuse _=>false| .loop _=>false
 | .seq a b=>aEt a&&aEt b
 | .cond _ a b=>aEt a||aEt b
 | .block _ _=>true
 | .scope c=>aEt c
 |_=>true
def zS:Code->Bool
 | .exit _=>true| .ret=>true| .goto _=>true| .refuse _=>true
 | .seq a b=>zS a||zS b
 | .cond _ a b=>zS a||zS b
 | .block _ c=>zS c
 | .loop c=>zS c
 | .scope c=>zS c
 | .rangeFunc .. =>true
 |_=>false
def bPi:Code->Bool
 | .cond _ a b=>(aEt a&&aEt b)&&!(zS a||zS b)
 |_=>false
structure JN(S:VS)(A B:VS->Prop):Prop where
 h:∃mid,A mid/\B mid
structure OLp[Mode]{P:Program}(T:TT P)(n:Nat)(β:qT)(X:XP)(c:Code)(S:VS)(Q:Exit->VS->Prop):Prop where
 h:TrV P n β (.loop c) S Q
section
variable{P:Program}(T:TT P)(n:Nat)(β:qT)(X:XP)
def bJe[Mode](ops:Array Oper)(draw:Bool)(S:VS)(Q:Exit->VS->Prop):Prop:=bif draw then ODr (yN n ops.toList&&(bQv ops.toList&&aXm S.objs)) (aWt T n X ops.toList (S.objs.map (·.1)) ops.toList 0 0 ops.toList.length [] S [] λbs S'=>cDa (cL ops.toList ops.toList.length) S bs=true/\Q .normal S') else bif yN n ops.toList then aPb T n β X ops.toList ops.toList 0 0 ops.toList.length [] S λS=>Q .normal S else False
abbrev RC:=VS->(Exit->VS->Prop)->Prop
def rgC[Mode](id:Nat)(ops:Array Oper)(draw:Bool):RC:=λS Q=>match lkL X.lr id with
 |[]=>bJe T n β X ops draw S Q
 |h::hs=>bWs (h::hs) S λS=>bJe T n β X ops draw S Q
def sqC[Mode](j:Bool)(ix iy:RC):RC:=λS Q=>bif j then JN S (λmid=>ix S λe S'=>match e with| .normal=>LeV β S' mid|e=>Q e S') (λmid=>iy mid Q)
 else ix S λe S'=>match e with| .normal=>iy S' Q|e=>Q e S'
def cnC(c:Operand)(ix iy:RC):RC:=λS Q=>match S.ev c with
 | .d (.lit (.bool b))=>OB b λb=>match b with|true=>ix S Q|false=>iy S Q
 |_=>False
def blC(id:Nat)(ic:RC):RC:=λS Q=>ic S λe S'=>match e with
 | .normal=>Q .normal S'
 | .exit i=>bif Nat.beq i id then Q .normal S' else Q (.exit i) S'
 |e=>Q e S'
def scC(ic:RC):RC:=λS Q=>ic S λe S'=>match e with| .goto _=>False|e=>Q e S'
def aGz[Mode](c:Code):RC:=Code.rec (motive:=λ_=>RC) (λS Q=>Q .normal S) (λid ops draw=>rgC T n β X id ops draw) (λx _ ix iy=>sqC β (bPi x) ix iy) (λc _ _ ix iy=>cnC c ix iy) (λid _ ic=>blC id ic)
 (λc _ S Q=>OLp T n β X c S Q) (λf ps a b _ _ S Q=>TrV P n β (.rangeFunc f ps a b) S Q) (λid S Q=>Q (.exit id) S) (λ_ ic=>scC ic) (λ_ S Q=>Q .normal S) (λl S Q=>TrV P n β (.goto l) S Q) (λS Q=>Q .ret S) (λw S Q=>TrV P n β (.refuse w) S Q) c
end
section
variable{P:Program}{T:TT P}{n:Nat}{β:qT}{X:XP}
theorem aUg[Mode]{c:Code}{S S':VS}{Q:Exit->VS->Prop}(h:LeV β S S')(hc:TrV P n β c S' Q):TrV P n β c S Q:=λρ hρ=>by
 obtain⟨ρ',hβ,he⟩:=h ρ hρ;exact kA he (hc ρ' hβ)
theorem bNz[Mode]{x y:Code}{S:VS}{Q:Exit->VS->Prop}{N:VS->Prop}(h:TrV P n β x S λe S'=>match e with| .normal=>N S'|e=>Q e S')(h2:∀S',N S'->TrV P n β y S' Q):TrV P n β (.seq x y) S Q:=
 λρ hρ=>aZ (rL (h ρ hρ) λe st ⟨S',ρ',h1,hq,he⟩=>by
  cases e with
  |normal=>exact kA he (h2 S' hq ρ' h1)
  |_=>exact⟨S',ρ',h1,hq,he⟩)
theorem bUj[Mode]{id:Nat}{ops:Array Oper}{draw:Bool}{S:VS}{Q:Exit->VS->Prop}(h:bJe T n β X ops draw S Q):TrV P n β (.region id ops draw) S Q:=by
 unfold bJe at h;cases draw with
 | true=>
  obtain⟨hb,h⟩:=h.h;simp only[Bool.and_eq_true] at hb;obtain⟨l⟩:=ops;obtain⟨es,bs,A,S',h1,h2,_,h4,h5,h6⟩:=aZx hb.1 (λs b hb=>by cases hb) (by simp) h;simp only[List.drop_zero,List.take_length] at h1;refineλρ hρ=>rL (cCy T.mix hb.1 h1 (bGh hb.2.2) hb.2.1 (by simpa using h5) h2 ρ hρ) ?_;rintro e st ⟨rfl,ρ',hβ,he⟩;obtain⟨ρ'',hβ',he'⟩:=h4.lev ρ' hβ;exact⟨S',ρ'',hβ',h6,he.trans he'⟩
 | false=>
  obtain⟨hd,h⟩:=jD h;obtain⟨l⟩:=ops;have:=aSy (l:=l) (ops:=l) (Q:=Q) hd (λs b hb=>by cases hb) (λS' hS ρ hρ A M w0 a w hR=>by
   rw[show l.drop (0+l.length)=[] by simp];exact wpListIn_nil ⟨_,⟨S',ρ,hρ,hS,Ent.refl _⟩,hR⟩) h
  exactλρ hρ=>aO (this ρ hρ)
theorem wY[Mode]:∀{c:Code} {S:VS} {Q:Exit->VS->Prop},aGz T n β X c S Q->TrV P n β c S Q
 | .skip,S,Q,h=>λρ hρ=>bYg ⟨S,ρ,hρ,h,Ent.refl _⟩
 | .label _,S,Q,h=>λρ hρ=>bYe ⟨S,ρ,hρ,h,Ent.refl _⟩
 | .ret,S,Q,h=>λρ hρ=>cW ⟨S,ρ,hρ,h,Ent.refl _⟩
 | .exit id,S,Q,h=>λρ hρ=>dS ⟨S,ρ,hρ,h,Ent.refl _⟩
 | .region id ops draw,S,Q,h=>by
  have h:rgC T n β X id ops draw S Q:=h;unfold rgC at h;split at h
  ·exact bUj h
  ·rename_i k hs _
   have h1:=bUj (id:=id) (bTc (K:=λS=>bJe T n β X ops draw S Q) h);exact aUg (λρ hρ=>⟨ρ,hρ,bHz ρ⟩) h1
 | .seq x y,S,Q,h=>by
  have h:sqC β (bPi x) (aGz T n β X x) (aGz T n β X y) S Q:=h;unfold sqC at h;cases hj:bPi x with
  | true=>
   rw[hj] at h;obtain⟨mid,h1,h2⟩:=h.h;exact bNz (N:=λS'=>LeV β S' mid) (wY h1) λS' hl=>aUg hl (wY h2)
  | false=>
   rw[hj] at h;exact bNz (N:=λS'=>aGz T n β X y S' Q) (wY h) λS' hl=>wY hl
 | .cond c x y,S,Q,h=>by
  have h:cnC c (aGz T n β X x) (aGz T n β X y) S Q:=h;unfold cnC at h;split at h
  ·rename_i b hb
   have h:=bBz h;exactλρ hρ=>rA (b:=b) (by rw[uF,hb];rfl) (λhb=>by subst hb;exact wY h ρ hρ) (λhb=>by subst hb;exact wY h ρ hρ)
  ·exact h.elim
 | .block id c,S,Q,h=>by
  have h:blC id (aGz T n β X c) S Q:=h;unfold blC at h;intro ρ hρ;refine aWx (N:=λst=>∃(S':VS) (ρ':Rho),ρ'.β=β/\Q .normal S'/\Ent st (S'.at ρ')) (rL (wY h ρ hρ) ?_) λ_ h=>h;rintro e st ⟨S',ρ',h1,hq,he⟩;cases e with
  |normal=>exact⟨S',ρ',h1,hq,he⟩
  | exit i=>
   simp only at hq;cases hb:Nat.beq i id with
   | true=>
    rw[hb] at hq;exact .inl ⟨Nat.eq_of_beq_eq_true hb,S',ρ',h1,hq,he⟩
   | false=>
    rw[hb] at hq;exact .inr ⟨λe=>(by subst e;simp at hb),S',ρ',h1,hq,he⟩
  |_=>exact⟨S',ρ',h1,hq,he⟩
 | .scope c,S,Q,h=>by
  have h:scC (aGz T n β X c) S Q:=h;unfold scC at h;refineλρ hρ=>rL (bYf (Q:=λe st=>∃(S':VS) (ρ':Rho),ρ'.β=β/\(match(generalizing:=false) e with| .goto _=>False|e=>Q e S')/\Ent st (S'.at ρ')) (λl st ⟨S',ρ',_,hq,_⟩=>hq) (wY h ρ hρ)) ?_;rintro e st ⟨S',ρ',h1,hq,he⟩;cases e with
  |goto l=>exact hq.elim
  |_=>exact⟨S',ρ',h1,hq,he⟩
 | .loop c,S,Q,h=>h.h
 | .rangeFunc ..,S,Q,h=>h
 | .goto _,S,Q,h=>h
 | .refuse _,S,Q,h=>h
end
end Go.Am
end
