/- Walks by reckoning: rows of operations, and code. -/
import Derived.Test.YtiohgpipanopaaaGreatAmX12
namespace Go.Am
abbrev yW:=Nat->Nat×Nat×Value
def aGf(P:Program)(n:Nat)(β:yW)(ops:List Oper)(l:List Oper)(S:VS)(Q:Exit->VS->Prop):Prop:=
 ∀ρ:Rho,ρ.β=β->TrL P n ops.toArray l (S.at ρ) λe st=>∃(S':VS) (ρ':Rho),ρ'.β=β/\Q e S'/\Ent st (S'.at ρ')
def TrV(P:Program)(n:Nat)(β:yW)(c:Code)(S:VS)(Q:Exit->VS->Prop):Prop:=
 ∀ρ:Rho,ρ.β=β->Tr P n c (S.at ρ) λe st=>∃(S':VS) (ρ':Rho),ρ'.β=β/\Q e S'/\Ent st (S'.at ρ')
def LeV(β:yW)(S S':VS):Prop:=∀ρ:Rho,ρ.β=β->∃ρ':Rho,ρ'.β=β/\Ent (S.at ρ) (S'.at ρ')
theorem LeV.refl(β:yW)(S:VS):LeV β S S:=λρ h=>⟨ρ,h,Ent.refl _⟩
def bJy(P:Program)(n:Nat)(β:yW)(o:Oper)(S:VS)(K:VS->Prop):Prop:=
 ∀ρ:Rho,ρ.β=β->Step P n o (S.at ρ) λst=>∃(S':VS) (ρ':Rho),ρ'.β=β/\K S'/\Ent st (S'.at ρ')
def bLp(h:Nat)(m:VO):List (Nat×VO)->(List (Nat×VO)->Prop)->Prop
 |[],K=>K [(h,m)]
 |(k,x)::l,K=>bif Nat.beq k h then K ((k,m)::l) else bLp h m l λl'=>K ((k,x)::l')
def bKk(h:Nat):List (Nat×VO)->(List (Nat×VO)->Prop)->Prop
 |[],K=>K []
 |(k,x)::l,K=>bif Nat.beq k h then K l else bKk h l λl'=>K ((k,x)::l')
def aXw:List (Nat×Option VO)->List (Nat×VO)->(List (Nat×VO)->Prop)->Prop
 |[],l,K=>K l
 |(h,some m)::c,l,K=>bLp h m l λl=>aXw c l K
 |(h,none)::c,l,K=>bKk h l λl=>aXw c l K
theorem bPb{h:Nat}{m:VO}:∀{l:List (Nat×VO)} {K:List (Nat×VO)->Prop},bLp h m l K->K (nB h m l)
 |[],_,hK=>hK
 | (k,x)::l,K,hK=>by
  simp only[bLp] at hK;simp only[nB];cases hb:Nat.beq k h with
  |true=>rw[hb] at hK;exact hK
  |false=>rw[hb] at hK;exact bPb (K:=λl'=>K ((k,x)::l')) hK
theorem bNh{h:Nat}:∀{l:List (Nat×VO)} {K:List (Nat×VO)->Prop},bKk h l K->K (sW h l)
 |[],_,hK=>hK
 | (k,x)::l,K,hK=>by
  simp only[bKk] at hK;simp only[sW];cases hb:Nat.beq k h with
  |true=>rw[hb] at hK;exact hK
  |false=>rw[hb] at hK;exact bNh (K:=λl'=>K ((k,x)::l')) hK
theorem aUw:∀{c:List (Nat×Option VO)} {l:List (Nat×VO)} {K:List (Nat×VO)->Prop},aXw c l K->K (chg c l)
 |[],_,_,h=>h
 | (h,some m)::c,l,K,hK=>by
  have:=aUw (bPb (K:=λl=>aXw c l K) hK);exact this
 | (h,none)::c,l,K,hK=>by
  have:=aUw (bNh (K:=λl=>aXw c l K) hK);exact this
def tI(d:Option Nat)(e:Eff)(S:VS)(K:VS->Prop):Prop:=match S,e with
 | ⟨env,objs⟩,⟨v,ch,_,_⟩=>aXw ch objs λobjs=>match d with
  |some d=>K ⟨(d,v)::env,objs⟩
  |none=>K ⟨env,objs⟩
theorem bMv{d:Option Nat}{e:Eff}{S:VS}{K:VS->Prop}(h:tI d e S K):K (S.app d e):=by
 obtain⟨env,objs⟩:=S;obtain⟨v,ch,us,nw⟩:=e;cases d with
 |some d=>exact aUw (K:=λobjs=>K ⟨(d,v)::env,objs⟩) h
 |none=>exact aUw (K:=λobjs=>K ⟨env,objs⟩) h
def aCv(S:VS):List Nat->Prop->Prop
 |[],p=>p
 |h::l,p=>bif pI h S||Nat.ble 100000 h then False else aCv S l p
theorem bEu{S:VS}:∀{l:List Nat} {p:Prop},aCv S l p->p/\∀h∈l,pI h S=false/\Nat.ble 100000 h=false
 |[],_,h=>⟨h,by simp⟩
 | k::l,p,h=>by
  obtain⟨hb,h⟩:=cnf h;simp only[Bool.or_eq_false_iff] at hb;obtain⟨hp,hl⟩:=bEu h;exact⟨hp,λx hx=>by
   rcases List.mem_cons.1 hx with rfl|hx
   ·exact hb
   ·exact hl x hx⟩
def aMl:List Oper->Nat->Option Nat
 |[],_=>none
 |o::_,0=>o.dst
 |_::l,i+1=>aMl l i
theorem aTq:∀{l:List Oper} {i:Nat},aMl l i=(l[i]?).bind (·.dst)
 |[],_=>by simp[aMl]
 |_::_,0=>by simp[aMl]
 |_::l,i+1=>by simp[aMl,aTq (l:=l)]
def xS(n:Nat):List Oper->Bool
 |[]=>true
 |o::l=>(match o.dst with|some d=>Nat.ble (d+1) n|none=>true)&&xS n l
theorem aVc{n:Nat}:∀{l:List Oper},xS n l=true->∀o∈l,∀d,o.dst=some d->d<n
 |[],_,o,h=>by cases h
 | x::l,h,o,ho=>by
  simp only[xS,Bool.and_eq_true] at h
  rcases List.mem_cons.1 ho with rfl|ho
  ·intro d hd;have h1:=h.1;rw[hd] at h1;exact Nat.le_of_ble_eq_true h1
  ·exact aVc h.2 o ho
structure XP where
 ow:List Nat:=[]
 nd:List Nat:=[]
 lt:List (Nat×List Nat):=[]
 lr:List (Nat×List Nat):=[]
def fO(i j:Nat):List Oper->Nat
 |[]=>0
 | o::l=>match o.guard with
  |some (q,_)=>bif Nat.beq q j||Nat.ble i q then fO i j l+1 else 0
  |none=>0
def bZv(X:XP)(o:Oper):Bool:=match o.dst,o.op with
 |none,_=>true
 |_,.mapUpdate .. =>true
 |some d,_=>bG d X.nd
def aOi(X:XP):Nat->List Oper->Bool
 |m+1,o::l=>bZv X o||aOi X m l
 |_,_=>false
def gO:Nat->List Oper->List Nat
 |m+1,o::l=>o.dst.getD 0::gO m l
 |_,_=>[]
def aLr:Nat->List (Nat×AV)->List (Nat×AV)
 |0,l=>l
 |_+1,[]=>[]
 |m+1,_::l=>aLr m l
def aXi(ds:List Nat):Nat->List (Nat×AV)->Bool
 |m+1,p::l=>bG p.1 ds&&aXi ds m l
 |_,_=>true
def sU:List Nat->List (Nat×AV)->List (Nat×AV)
 |[],l=>l
 |d::ds,l=>(d,.any)::sU ds l
def GN(S:VS)(m t:Nat)(ds:List Nat)(x:Bool)(S':VS):Prop:=aLr m S'.env=S.env/\aXi (t::ds) m S'.env=true/\lk S'.env t=.b x/\S'.objs=S.objs
structure JG(S:VS)(m t:Nat)(ds:List Nat)(A:(VS->Prop)->Prop)(B:VS->Prop):Prop where
 h:∃x:Bool,A (GN S m t ds x)/\B ⟨(t,.b x)::sU ds S.env,S.objs⟩
def ckd:List (Nat×Bool)->Nat->Option Bool
 |[],_=>none
 |(k,b)::l,s=>bif Nat.beq k s then some b else ckd l s
def aQq(t:Nat)(ds:List Nat):List (Nat×Bool)->Bool
 |[]=>true
 |p::l=>(!(bG p.1 ds)&&!(Nat.beq t p.1))&&aQq t ds l
section
variable{P:Program}(T:TT P)(n:Nat)(β:yW)(X:XP)(ops:List Oper)
def opK(cur:List (Nat×Bool))(o:Oper)(S:VS)(K:VS->Prop):Prop:=match cur,o.op,o.dst with
 | _::_,.pick (.tmp s) x y,some d=>match ckd cur s with
  |some true=>zE S x λe=>tI (some d) e S K
  |some false=>zE S y λe=>tI (some d) e S K
  |none=>xop T n X.ow S o λe=>aCv S e.nw (tI o.dst e S K)
 |_,_,_=>xop T n X.ow S o λe=>aCv S e.nw (tI o.dst e S K)
def aXg(cur:List (Nat×Bool))(o:Oper)(S:VS)(K:VS->Prop):Prop:=
 bif bG (o.dst.getD 0) X.nd then(match cur with|[]=>bJy P n β o S K|_=>False) else bif (ckd cur (o.dst.getD 0)).isSome then False else opK T n X cur o S K
def aIx(cur:List (Nat×Bool))(o:Oper)(S:VS)(K:VS->Prop):Prop:=match lkL X.lt (o.dst.getD 0),cur with
 |[],_=>aXg T n β X cur o S K
 |h::hs,[]=>bSc (h::hs) S λS=>aXg T n β X [] o S K
 |_,_=>False
def wT(cur:List (Nat×Bool))(o:Oper)(S:VS)(K:VS->Prop):Prop:=match S,o.dst with
 |⟨env,objs⟩,some d=>bif (ckd cur d).isSome then False else K ⟨(d,.tup [])::env,objs⟩
 |_,none=>False
abbrev RL:=Nat->Nat->Nat->List (Nat×Bool)->VS->(VS->Prop)->Prop
def bLr (o:Oper)(l:List Oper)(ih:RL):RL:=λi sk lim cur S K=>match sk,lim with
 |sk+1,lim=>ih (i+1) sk lim cur S K
 |0,0=>K S
 | 0, lim+1=>match o.guard with
  |none=>aIx T n β X cur o S λS=>ih (i+1) 0 lim cur S K
  | some (j,g)=>match aMl ops j with
   | some s=>bif Nat.ble (s+1) n then(match ckd cur s with
    |some c=>bif (bif g then c else !c) then aIx T n β X cur o S λS=>ih (i+1) 0 lim cur S K else wT cur o S λS=>ih (i+1) 0 lim cur S K
    | none=>match lk S.env s with
     | .d (.lit (.bool c))=>bif aOi X (fO i j (o::l)) (o::l) then
       OB c λc=>bif (bif g then c else !c) then aIx T n β X ((s,c)::cur) o S λS=>ih (i+1) 0 lim ((s,c)::cur) S K else wT ((s,c)::cur) o S λS=>ih (i+1) 0 lim ((s,c)::cur) S K
      else bif Nat.ble (fO i j l+2) (lim+1)&&aQq (((gO (fO i j l+2) (o::l)).getLast?).getD 0) (gO (fO i j l+1) (o::l)) cur then
       JG S (fO i j l+2) (((gO (fO i j l+2) (o::l)).getLast?).getD 0) (gO (fO i j l+1) (o::l))
        (λN=>OB c λc=>bif (bif g then c else !c) then aIx T n β X ((s,c)::cur) o S λS=>ih (i+1) 0 (fO i j l+1) ((s,c)::cur) S N else wT ((s,c)::cur) o S λS=>ih (i+1) 0 (fO i j l+1) ((s,c)::cur) S N)
        (λS=>ih (i+1) (fO i j l+1) (lim-(fO i j l+1)) cur S K)
      else False
     | .tup []=>wT cur o S λS=>ih (i+1) 0 lim cur S K
     |_=>False) else False
   |none=>False
def aMv(l:List Oper):RL:=List.rec (motive:=λ_=>RL) (λ_ _ _ _ S K=>K S) (λo l ih=>bLr T n β X ops o l ih) l
end
section
variable{P:Program}{T:TT P}{n:Nat}{β:yW}{X:XP}{ops:List Oper}
def mJ(cur:List (Nat×Bool))(S:VS):Prop:=∀s b,ckd cur s=some b->lk S.env s=.b b
theorem aBj{S:VS}{ρ:Rho}{s:Nat}{v:AV}(h:lk S.env s=v):(S.at ρ).env s=ρ.av v:=by rw[<-h];rfl
theorem bWn{o:Oper}{S:VS}{K:VS->Prop}(h:dH P n o S λe=>aCv S e.nw (tI o.dst e S K)):bJy P n β o S (λS'=>K S'/\∀s,(o.dst=none\/∃d,o.dst=some d/\Nat.beq d s=false)->lk S'.env s=lk S.env s):=by
 obtain⟨e,hK,hS⟩:=h.h;obtain⟨h1,h2⟩:=bEu hK;intro ρ hρ;refine kV (hS S ⟨λ_ _=>rfl,λ_ _=>rfl⟩ h2 ρ) ?_;rintro st ⟨ρ',hβ,he⟩;refine⟨_,ρ',hβ.trans hρ,⟨bMv h1,λs hs=>?_⟩,he⟩;simp only[VS.app]
 rcases hs with hs|⟨d,hs,hd⟩
 ·rw[hs]
 ·rw[hs];simp[lk,hd]
theorem cAb{cur:List (Nat×Bool)}{o:Oper}{S:VS}{K:VS->Prop}(hc:mJ cur S)(hd:∀d,o.dst=some d->d<n)(h:opK T n X cur o S K):dH P n o S λe=>aCv S e.nw (tI o.dst e S K):=by
 unfold opK at h;split at h
 ·rename_i p cl s x y d hop hdst
  have hs:∀b,ckd (p::cl) s=some b->lk S.env s=.b b:=λb=>hc s b;obtain⟨dst,op,ty,pos,af,gd⟩:=o;simp only at hop hdst;subst hop;subst hdst;split at h
  ·rename_i hb
   have hv:S.ev (.tmp s)=.d (.lit (.bool true)):=hs _ hb;exact aKx (K:=λe=>aCv S e.nw (tI (some d) e S K)) (hd d rfl) (by
    unfold aNi;rw[hv];refine⟨?_⟩;simp only;unfold zE at h|-;cases hk:cT x with
    |false=>rw[hk] at h;exact h
    | true=>
     rw[hk] at h;simp only[cond_true] at h|-;have:=zR (K:=λv=>tI (some d) (.p v) S K) h
     generalize S.ev x=v at this
     unfold frc;split<;>first|exact this|(unfold aLy;split<;>exact this))
  ·rename_i hb
   have hv:S.ev (.tmp s)=.d (.lit (.bool false)):=hs _ hb;exact aKx (K:=λe=>aCv S e.nw (tI (some d) e S K)) (hd d rfl) (by
    unfold aNi;rw[hv];refine⟨?_⟩;simp only;unfold zE at h|-;cases hk:cT y with
    |false=>rw[hk] at h;exact h
    | true=>
     rw[hk] at h;simp only[cond_true] at h|-;have:=zR (K:=λv=>tI (some d) (.p v) S K) h
     generalize S.ev y=v at this
     unfold frc;split<;>first|exact this|(unfold aLy;split<;>exact this))
  ·exact bCh hd h
 ·exact bCh hd h
theorem bJk{cur:List (Nat×Bool)}{o:Oper}{S:VS}{K:VS->Prop}(hc:mJ cur S)(hd:∀d,o.dst=some d->d<n)(h:aXg T n β X cur o S K):bJy P n β o S (λS'=>K S'/\mJ cur S'):=by
 unfold aXg at h;cases hm:bG (o.dst.getD 0) X.nd with
 | true=>
  rw[hm] at h;cases cur with
  | nil=>
   intro ρ hρ;refine kV (h ρ hρ) ?_;rintro st ⟨S',ρ',h1,h2,h3⟩;exact⟨S',ρ',h1,⟨h2,λs b hb=>by cases hb⟩,h3⟩
  |cons=>exact h.elim
 | false=>
  rw[hm] at h;simp only[cond_false] at h;obtain⟨hs,h⟩:=cnf h;intro ρ hρ;refine kV (bWn (β:=β) (cAb hc hd h) ρ hρ) ?_;rintro st ⟨S',ρ',h1,⟨h2,h3⟩,h4⟩;refine⟨S',ρ',h1,⟨h2,λs b hb=>?_⟩,h4⟩;rw[h3 s ?_]
  ·exact hc s b hb
  ·cases hdst:o.dst with
   |none=>exact .inl rfl
   | some d=>
    refine .inr ⟨d,rfl,?_⟩;cases hds:Nat.beq d s with
    |false=>rfl
    | true=>
     have:=Nat.eq_of_beq_eq_true hds;subst this;rw[hdst] at hs;simp only[Option.getD_some,hb,Option.isSome_some] at hs;cases hs
theorem bWr{cur:List (Nat×Bool)}{o:Oper}{S:VS}{K:VS->Prop}(hc:mJ cur S)(hd:∀d,o.dst=some d->d<n)(h:aIx T n β X cur o S K):bJy P n β o S (λS'=>K S'/\mJ cur S'):=by
 unfold aIx at h;split at h
 ·exact bJk hc hd h
 ·rename_i k hs _
  have h1:=bJk (λs b hb=>by cases hb) hd (bNz (K:=λS=>aXg T n β X [] o S K) h);exactλρ hρ A M w0 a w hR=>h1 ρ hρ A M w0 a w (bEi ρ A M w0 n a w hR)
 ·exact h.elim
theorem bIy{cur:List (Nat×Bool)}{o:Oper}{S:VS}{K:VS->Prop}(hc:mJ cur S)(h:wT cur o S K):∃d,o.dst=some d/\K ⟨(d,.tup [])::S.env,S.objs⟩/\mJ cur ⟨(d,.tup [])::S.env,S.objs⟩:=by
 obtain⟨env,objs⟩:=S;unfold wT at h;split at h
 ·rename_i e ob d heq hd
  cases heq;obtain⟨hs,h⟩:=cnf h;refine⟨d,hd,h,λs b hb=>?_⟩;cases hds:Nat.beq d s with
  | true=>
   have:=Nat.eq_of_beq_eq_true hds;subst this;rw[hb] at hs;cases hs
  |false=>simp only[lk,hds,cond_false];exact hc s b hb
 ·exact h.elim
theorem aZw:∀{m:Nat} {l:List (Nat×AV)} {ds:List Nat} {k:Nat},aXi ds m l=true->bG k ds=false->lk l k=lk (aLr m l) k
 |0,l,_,_,_,_=>by simp[aLr]
 |m+1,[],_,_,_,_=>by simp[aLr]
 | m+1,p::l,ds,k,h,hk=>by
  simp only[aXi,Bool.and_eq_true] at h;have:Nat.beq p.1 k=false:=by
   cases hb:Nat.beq p.1 k with
   |false=>rfl
   |true=>have:=Nat.eq_of_beq_eq_true hb;rw[this] at h;rw[hk] at h;cases h.1
  simp only[lk,this,cond_false,aLr];exact aZw h.2 hk
theorem bIk:∀{ds:List Nat} {l:List (Nat×AV)} {k:Nat},lk (sU ds l) k=.any\/(bG k ds=false/\lk (sU ds l) k=lk l k)
 |[],l,k=>.inr ⟨rfl,rfl⟩
 | d::ds,l,k=>by
  simp only[sU,lk,bG];cases hb:Nat.beq d k with
  |true=>left;rfl
  |false=>simpa using bIk
theorem bYg{S S':VS}{m t:Nat}{ds:List Nat}{x:Bool}(h:GN S m t ds x S'):LeV β S' ⟨(t,.b x)::sU ds S.env,S.objs⟩:=by
 obtain⟨h1,h2,h3,h4⟩:=h;intro ρ hρ;refine⟨ρ,hρ,?_⟩;have:Ent ⟨λk=>ρ.av (lk S'.env k),S'.objs.map λp=>ρ.mo p.1 p.2⟩ ⟨λk=>ρ.av (lk ((t,.b x)::sU ds S.env) k),S'.objs.map λp=>ρ.mo p.1 p.2⟩:=aQn λk=>by
  simp only[lk];cases hb:Nat.beq t k with
  | true=>
   have:=Nat.eq_of_beq_eq_true hb;subst this
   right;simp only[cond_true];rw[h3]
  | false=>
   simp only[cond_false]
   rcases bIk (ds:=ds) (l:=S.env) (k:=k) with h|⟨hm,h⟩
   ·left;rw[h];rfl
   ·right
    have hm':bG k (t::ds)=false:=by simp only[bG,hb,cond_false];exact hm
    rw[h,aZw h2 hm',h1]
 unfold VS.at;rw[<-h4];exact this
theorem bTm{l:List Oper}{S S':VS}{Q:Exit->VS->Prop}(h:LeV β S S')(hc:aGf P n β ops l S' Q):aGf P n β ops l S Q:=λρ hρ=>by
 obtain⟨ρ',hβ,he⟩:=h ρ hρ;exact gW he (hc ρ' hβ)
theorem aFh{cur:List (Nat×Bool)}{S:VS}{s:Nat}{c:Bool}(h:mJ cur S)(hs:lk S.env s=.b c):mJ ((s,c)::cur) S:=λk b hb=>by
 simp only[ckd] at hb;cases hk:Nat.beq s k with
 | true=>
  have:=Nat.eq_of_beq_eq_true hk;subst this;rw[hk] at hb;simp at hb;subst hb;exact hs
 |false=>rw[hk] at hb;exact h k b hb
theorem bIg{t:Nat}{ds:List Nat}:∀{cur:List (Nat×Bool)},aQq t ds cur=true->∀s b,ckd cur s=some b->bG s ds=false/\Nat.beq t s=false
 |[],_,s,b,h=>by cases h
 | p::l,hf,s,b,h=>by
  simp only[aQq,Bool.and_eq_true,Bool.not_eq_true'] at hf;simp only[ckd] at h;cases hb:Nat.beq p.1 s with
  | true=>
   have:=Nat.eq_of_beq_eq_true hb;subst this;exact hf.1
  |false=>rw[hb] at h;exact bIg hf.2 s b h
theorem aUx{cur:List (Nat×Bool)}{S:VS}{ds:List Nat}{t:Nat}{x:Bool}(h:mJ cur S)(hf:aQq t ds cur=true):mJ cur ⟨(t,.b x)::sU ds S.env,S.objs⟩:=λs b hb=>by
 obtain⟨h1,h2⟩:=bIg hf s b hb;simp only[lk,h2,cond_false];have:∀{ds:List Nat} {l:List (Nat×AV)},bG s ds=false->lk (sU ds l) s=lk l s:=by
  intro ds
  induction ds with
  |nil=>intro l _;rfl
  | cons d ds ih=>
   intro l hm;simp only[bG] at hm;cases hb2:Nat.beq d s with
   |true=>rw[hb2] at hm;cases hm
   |false=>rw[hb2] at hm;simp only[sU,lk,hb2,cond_false];exact ih (by simpa using hm)
 rw[this h1];exact h s b hb
theorem aPz:∀{l:List Oper} {i sk lim:Nat} {cur:List (Nat×Bool)} {S:VS} {K:VS->Prop} {Q:Exit->VS->Prop},xS n l=true->mJ cur S->(∀S',K S'->aGf P n β ops (l.drop (sk+lim)) S' Q)->aMv T n β X ops l i sk lim cur S K->aGf P n β ops (l.drop sk) S Q
 | [],i,sk,lim,cur,S,K,Q,_,_,hQ,h=>by
  have:=hQ S h
  simpa using this
 | o::l,i,sk+1,lim,cur,S,K,Q,hd,hc,hQ,h=>by
  have hdl:xS n l=true:=by simp only[xS,Bool.and_eq_true] at hd;exact hd.2
  show aGf P n β ops (l.drop sk) S Q;exact aPz (l:=l) (sk:=sk) (lim:=lim) hdl hc (λS' hK=>by have:=hQ S' hK;rwa[show sk+1+lim=(sk+lim)+1 by omega,List.drop_succ_cons] at this) h
 |o::l,i,0,0,cur,S,K,Q,_,_,hQ,h=>hQ S h
 | o :: l,i,0,lim+1,cur,S,K,Q,hd,hc,hQ,h=>by
  have hdo:=aVc hd o (by simp);have hdl:xS n l=true:=by simp only[xS,Bool.and_eq_true] at hd;exact hd.2
  have hQ':∀S',K S'->aGf P n β ops (l.drop (0+lim)) S' Q:=λS' hK=>by
   have:=hQ S' hK
   rwa[show 0+(lim+1)=(0+lim)+1 by omega,List.drop_succ_cons] at this
  have take:∀{cur:List (Nat×Bool)} {N:VS->Prop} {lim:Nat},mJ cur S->(∀S',N S'->aGf P n β ops (l.drop (0+lim)) S' Q)->aIx T n β X cur o S (λS=>aMv T n β X ops l (i+1) 0 lim cur S N)->∀ρ:Rho,ρ.β=β->Step P n o (S.at ρ) (λst'=>TrL P n ops.toArray l st' (λe st=>∃(S':VS) (ρ':Rho),ρ'.β=β/\Q e S'/\Ent st (S'.at ρ'))):=by
   intro cur N lim hc hN hst ρ hρ;refine kV (bWr hc hdo hst ρ hρ) ?_;rintro st' ⟨S',ρ',hβ,⟨hr,hc'⟩,he⟩;have:=aPz (Q:=Q) hdl hc' hN hr ρ' hβ;simp only[List.drop_zero] at this;exact gW he this
  have pass:∀{cur:List (Nat×Bool)} {N:VS->Prop} {lim:Nat},mJ cur S->(∀S',N S'->aGf P n β ops (l.drop (0+lim)) S' Q)->wT cur o S (λS=>aMv T n β X ops l (i+1) 0 lim cur S N)->∃d,o.dst=some d/\∀ρ:Rho,ρ.β=β->TrL P n ops.toArray l ((S.at ρ).set d (.tup [])) (λe st=>∃(S':VS) (ρ':Rho),ρ'.β=β/\Q e S'/\Ent st (S'.at ρ')):=by
   intro cur N lim hc hN hp;obtain⟨d,ho,hr,hc'⟩:=bIy hc hp;refine⟨d,ho,λρ hρ=>?_⟩;have:=aPz (Q:=Q) hdl hc' hN hr ρ hρ;simp only[List.drop_zero] at this;have e:(S.at ρ).set d (.tup [])=(VS.mk ((d,.tup [])::S.env) S.objs).at ρ:=at_set S d (.tup []);rw[e];exact this
  show aGf P n β ops (o::l) S Q
  change bLr T n β X ops o l (aMv T n β X ops l) i 0 (lim+1) cur S K at h
  simp only[bLr] at h;cases hg:o.guard with
  | none=>
   rw[hg] at h;exactλρ hρ=>bO hg (take hc hQ' h ρ hρ) λst' hst=>hst
  | some p=>
   obtain⟨j,g⟩:=p;rw[hg] at h;simp only at h;split at h
   ·rename_i s hs
    rw[aTq] at hs;have hj:(ops.toArray[j]?).bind (·.dst)=some s:=by simpa using hs
    obtain⟨hsn,h⟩:=jF h;have hsn:=Nat.le_of_ble_eq_true hsn;have ask:∀{cur:List (Nat×Bool)} {N:VS->Prop} {lim:Nat} {c:Bool},mJ cur S->lk S.env s=.b c->(∀S',N S'->aGf P n β ops (l.drop (0+lim)) S' Q)->
      (bif (bif g then c else !c) then aIx T n β X cur o S (λS=>aMv T n β X ops l (i+1) 0 lim cur S N) else wT cur o S (λS=>aMv T n β X ops l (i+1) 0 lim cur S N))->aGf P n β ops (o::l) S Q:=by
     intro cur N lim c hc hlk hN h;cases hcg:(bif g then c else !c) with
     | true=>
      rw[hcg] at h;exactλρ hρ=>aZb hg hj hsn (aBj hlk) (by cases g<;>cases c<;>simp_all) (take hc hN h ρ hρ) λst' hst=>hst
     | false=>
      rw[hcg] at h;obtain⟨d,ho,h⟩:=pass hc hN h;exactλρ hρ=>bJo hg ho (hdo d ho) hj hsn (aBj hlk) (by cases g<;>cases c<;>simp_all) (h ρ hρ)
    split at h
    ·rename_i c hcc
     exact ask hc (hc s c hcc) hQ' h
    ·split at h
     ·rename_i c hlk
      cases he:aOi X (fO i j (o::l)) (o::l) with
      | true=>
       rw[he] at h;simp only[cond_true] at h;exact ask (aFh hc hlk) hlk hQ' (aYl h)
      | false=>
       rw[he] at h;simp only[cond_false] at h;obtain⟨hb,h⟩:=jF h;simp only[Bool.and_eq_true] at hb;have hm:=Nat.le_of_ble_eq_true hb.1;obtain⟨x,hA,hB⟩:=h.h;have hA:=aYl hA;refine ask (aFh hc hlk) hlk ?_ hA;intro S' hN;refine bTm (bYg hN) ?_;have:=aPz (Q:=Q) hdl (aUx hc hb.2) (λS2 hK=>by
        have:=hQ' S2 hK
        rwa[show 0+lim=fO i j l+1+(lim-(fO i j l+1)) by omega] at this) hB
       rwa[Nat.zero_add]
     ·rename_i hlk
      obtain⟨d,ho,h⟩:=pass hc hQ' h;exactλρ hρ=>bGi hg ho (hdo d ho) hj hsn (aBj hlk) (h ρ hρ)
     ·exact h.elim
   ·exact h.elim
end
end Go.Am
