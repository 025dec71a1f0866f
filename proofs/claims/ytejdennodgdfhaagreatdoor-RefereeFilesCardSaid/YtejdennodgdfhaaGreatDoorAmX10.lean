/- Several texts, one behind the other. -/
import Derived.Test.YtejdennodgdfhaaGreatDoorAmX12
section
namespace Go.Am
abbrev sV:=Nat->Nat×Nat×Value
def aCn[Mode](P:Program)(n:Nat)(β:sV)(ops:List Oper)(l:List Oper)(S:VS)(Q:Exit->VS->Prop):Prop:=
 ∀ρ:Rho,ρ.β=β->TrL P n ops.toArray l (S.at ρ) λe st=>∃(S':VS) (ρ':Rho),ρ'.β=β/\Q e S'/\Ent st (S'.at ρ')
def TrV[Mode](P:Program)(n:Nat)(β:sV)(c:Code)(S:VS)(Q:Exit->VS->Prop):Prop:=
 ∀ρ:Rho,ρ.β=β->Tr P n c (S.at ρ) λe st=>∃(S':VS) (ρ':Rho),ρ'.β=β/\Q e S'/\Ent st (S'.at ρ')
def LeV[Mode](β:sV)(S S':VS):Prop:=∀ρ:Rho,ρ.β=β->∃ρ':Rho,ρ'.β=β/\Ent (S.at ρ) (S'.at ρ')
theorem LeV.refl[Mode](β:sV)(S:VS):LeV β S S:=λρ h=>⟨ρ,h,Ent.refl _⟩
def bDu[Mode](P:Program)(n:Nat)(β:sV)(o:Oper)(S:VS)(K:VS->Prop):Prop:=
 ∀ρ:Rho,ρ.β=β->Step P n o (S.at ρ) λst=>∃(S':VS) (ρ':Rho),ρ'.β=β/\K S'/\Ent st (S'.at ρ')
def bFe(h:Nat)(m:VO):List (Nat×VO)->(List (Nat×VO)->Prop)->Prop
 |[],K=>K [(h,m)]
 |(k,x)::l,K=>bif Nat.beq k h then K ((k,m)::l) else bFe h m l λl'=>K ((k,x)::l')
def bEe(h:Nat):List (Nat×VO)->(List (Nat×VO)->Prop)->Prop
 |[],K=>K []
 |(k,x)::l,K=>bif Nat.beq k h then K l else bEe h l λl'=>K ((k,x)::l')
def aSr:List (Nat×Option VO)->List (Nat×VO)->(List (Nat×VO)->Prop)->Prop
 |[],l,K=>K l
 |(h,some m)::c,l,K=>bFe h m l λl=>aSr c l K
 |(h,none)::c,l,K=>bEe h l λl=>aSr c l K
theorem bIv{h:Nat}{m:VO}:∀{l:List (Nat×VO)} {K:List (Nat×VO)->Prop},bFe h m l K->K (iB h m l)
 |[],_,hK=>hK
 | (k,x)::l,K,hK=>by
  simp only[bFe] at hK;simp only[iB];cases hb:Nat.beq k h with
  |true=>rw[hb] at hK;exact hK
  |false=>rw[hb] at hK;exact bIv (K:=λl'=>K ((k,x)::l')) hK
theorem bGr{h:Nat}:∀{l:List (Nat×VO)} {K:List (Nat×VO)->Prop},bEe h l K->K (iA h l)
 |[],_,hK=>hK
 | (k,x)::l,K,hK=>by
  simp only[bEe] at hK;simp only[iA];cases hb:Nat.beq k h with
  |true=>rw[hb] at hK;exact hK
  |false=>rw[hb] at hK;exact bGr (K:=λl'=>K ((k,x)::l')) hK
theorem aPy:∀{c:List (Nat×Option VO)} {l:List (Nat×VO)} {K:List (Nat×VO)->Prop},aSr c l K->K (chg c l)
 |[],_,_,h=>h
 | (h,some m)::c,l,K,hK=>by
  have:=aPy (bIv (K:=λl=>aSr c l K) hK);exact this
 | (h,none)::c,l,K,hK=>by
  have:=aPy (bGr (K:=λl=>aSr c l K) hK);exact this
def pX(d:Option Nat)(e:Eff)(S:VS)(K:VS->Prop):Prop:=match S,e with
 | ⟨env,objs⟩,⟨v,ch,_,_⟩=>aSr ch objs λobjs=>match d with
  |some d=>K ⟨(d,v)::env,objs⟩
  |none=>K ⟨env,objs⟩
theorem bGg{d:Option Nat}{e:Eff}{S:VS}{K:VS->Prop}(h:pX d e S K):K (S.app d e):=by
 obtain⟨env,objs⟩:=S;obtain⟨v,ch,us,nw⟩:=e;cases d with
 |some d=>exact aPy (K:=λobjs=>K ⟨(d,v)::env,objs⟩) h
 |none=>exact aPy (K:=λobjs=>K ⟨env,objs⟩) h
def yS(S:VS):List Nat->Prop->Prop
 |[],p=>p
 |h::l,p=>bif kZ h S||Nat.ble 100000 h then False else yS S l p
theorem aZd{S:VS}:∀{l:List Nat} {p:Prop},yS S l p->p/\∀h∈l,kZ h S=false/\Nat.ble 100000 h=false
 |[],_,h=>⟨h,by simp⟩
 | k::l,p,h=>by
  obtain⟨hb,h⟩:=cnf h;simp only[Bool.or_eq_false_iff] at hb;obtain⟨hp,hl⟩:=aZd h;exact⟨hp,λx hx=>by
   rcases List.mem_cons.1 hx with rfl|hx
   ·exact hb
   ·exact hl x hx⟩
def aIa:List Oper->Nat->Option Nat
 |[],_=>none
 |o::_,0=>o.dst
 |_::l,i+1=>aIa l i
theorem aOw:∀{l:List Oper} {i:Nat},aIa l i=(l[i]?).bind (·.dst)
 |[],_=>by simp[aIa]
 |_::_,0=>by simp[aIa]
 |_::l,i+1=>by simp[aIa,aOw (l:=l)]
def tE(n:Nat):List Oper->Bool
 |[]=>true
 |o::l=>(match o.dst with|some d=>Nat.ble (d+1) n|none=>true)&&tE n l
theorem aQa{n:Nat}:∀{l:List Oper},tE n l=true->∀o∈l,∀d,o.dst=some d->d<n
 |[],_,o,h=>by cases h
 | x::l,h,o,ho=>by
  simp only[tE,Bool.and_eq_true] at h
  rcases List.mem_cons.1 ho with rfl|ho
  ·intro d hd;have h1:=h.1;rw[hd] at h1;exact Nat.le_of_ble_eq_true h1
  ·exact aQa h.2 o ho
structure XP where
 ow:List Nat:=[]
 nd:List Nat:=[]
 lt:List (Nat×List Nat):=[]
 lr:List (Nat×List Nat):=[]
def eA(i j:Nat):List Oper->Nat
 |[]=>0
 | o::l=>match o.guard with
  |some (q,_)=>bif Nat.beq q j||Nat.ble i q then eA i j l+1 else 0
  |none=>0
def bTk(X:XP)(o:Oper):Bool:=match o.dst,o.op with
 |none,_=>true
 |_,.mapUpdate .. =>true
 |some d,_=>bF d X.nd
def aJz(X:XP):Nat->List Oper->Bool
 |m+1,o::l=>bTk X o||aJz X m l
 |_,_=>false
def eY:Nat->List Oper->List Nat
 |m+1,o::l=>o.dst.getD 0::eY m l
 |_,_=>[]
def aHh:Nat->List (Nat×AV)->List (Nat×AV)
 |0,l=>l
 |_+1,[]=>[]
 |m+1,_::l=>aHh m l
def aSi(ds:List Nat):Nat->List (Nat×AV)->Bool
 |m+1,p::l=>bF p.1 ds&&aSi ds m l
 |_,_=>true
def pH:List Nat->List (Nat×AV)->List (Nat×AV)
 |[],l=>l
 |d::ds,l=>(d,.any)::pH ds l
def GN(S:VS)(m t:Nat)(ds:List Nat)(x:Bool)(S':VS):Prop:=aHh m S'.env=S.env/\aSi (t::ds) m S'.env=true/\lk S'.env t=.b x/\S'.objs=S.objs
structure JG(S:VS)(m t:Nat)(ds:List Nat)(A:(VS->Prop)->Prop)(B:VS->Prop):Prop where
 h:∃x:Bool,A (GN S m t ds x)/\B ⟨(t,.b x)::pH ds S.env,S.objs⟩
def ckd:List (Nat×Bool)->Nat->Option Bool
 |[],_=>none
 |(k,b)::l,s=>bif Nat.beq k s then some b else ckd l s
def aMi(t:Nat)(ds:List Nat):List (Nat×Bool)->Bool
 |[]=>true
 |p::l=>(!(bF p.1 ds)&&!(Nat.beq t p.1))&&aMi t ds l
section
variable{P:Program}(T:TT P)(n:Nat)(β:sV)(X:XP)(ops:List Oper)
def opK[Mode](cur:List (Nat×Bool))(o:Oper)(S:VS)(K:VS->Prop):Prop:=match cur,o.op,o.dst with
 | _::_,.pick (.tmp s) x y,some d=>match ckd cur s with
  |some true=>uP S x λe=>pX (some d) e S K
  |some false=>uP S y λe=>pX (some d) e S K
  |none=>xop T n X.ow S o λe=>yS S e.nw (pX o.dst e S K)
 |_,_,_=>xop T n X.ow S o λe=>yS S e.nw (pX o.dst e S K)
def aSg[Mode](cur:List (Nat×Bool))(o:Oper)(S:VS)(K:VS->Prop):Prop:=
 bif bF (o.dst.getD 0) X.nd then(match cur with|[]=>bDu P n β o S K|_=>False) else bif (ckd cur (o.dst.getD 0)).isSome then False else opK T n X cur o S K
def aEx[Mode](cur:List (Nat×Bool))(o:Oper)(S:VS)(K:VS->Prop):Prop:=match lkL X.lt (o.dst.getD 0),cur with
 |[],_=>aSg T n β X cur o S K
 |h::hs,[]=>bLz (h::hs) S λS=>aSg T n β X [] o S K
 |_,_=>False
def sQ(cur:List (Nat×Bool))(o:Oper)(S:VS)(K:VS->Prop):Prop:=match S,o.dst with
 |⟨env,objs⟩,some d=>bif (ckd cur d).isSome then False else K ⟨(d,.tup [])::env,objs⟩
 |_,none=>False
abbrev RL:=Nat->Nat->Nat->List (Nat×Bool)->VS->(VS->Prop)->Prop
def bFi [Mode](o:Oper)(l:List Oper)(ih:RL):RL:=λi sk lim cur S K=>match sk,lim with
 |sk+1,lim=>ih (i+1) sk lim cur S K
 |0,0=>K S
 | 0, lim+1=>match o.guard with
  |none=>aEx T n β X cur o S λS=>ih (i+1) 0 lim cur S K
  | some (j,g)=>match aIa ops j with
   | some s=>bif Nat.ble (s+1) n then(match ckd cur s with
    |some c=>bif (bif g then c else !c) then aEx T n β X cur o S λS=>ih (i+1) 0 lim cur S K else sQ cur o S λS=>ih (i+1) 0 lim cur S K
    | none=>match lk S.env s with
     | .d (.lit (.bool c))=>bif aJz X (eA i j (o::l)) (o::l) then
       OB c λc=>bif (bif g then c else !c) then aEx T n β X ((s,c)::cur) o S λS=>ih (i+1) 0 lim ((s,c)::cur) S K else sQ ((s,c)::cur) o S λS=>ih (i+1) 0 lim ((s,c)::cur) S K
      else bif Nat.ble (eA i j l+2) (lim+1)&&aMi (((eY (eA i j l+2) (o::l)).getLast?).getD 0) (eY (eA i j l+1) (o::l)) cur then
       JG S (eA i j l+2) (((eY (eA i j l+2) (o::l)).getLast?).getD 0) (eY (eA i j l+1) (o::l))
        (λN=>OB c λc=>bif (bif g then c else !c) then aEx T n β X ((s,c)::cur) o S λS=>ih (i+1) 0 (eA i j l+1) ((s,c)::cur) S N else sQ ((s,c)::cur) o S λS=>ih (i+1) 0 (eA i j l+1) ((s,c)::cur) S N)
        (λS=>ih (i+1) (eA i j l+1) (lim-(eA i j l+1)) cur S K)
      else False
     | .tup []=>sQ cur o S λS=>ih (i+1) 0 lim cur S K
     |_=>False) else False
   |none=>False
def aIp[Mode](l:List Oper):RL:=List.rec (motive:=λ_=>RL) (λ_ _ _ _ S K=>K S) (λo l ih=>bFi T n β X ops o l ih) l
end
section
variable{P:Program}{T:TT P}{n:Nat}{β:sV}{X:XP}{ops:List Oper}
def jX(cur:List (Nat×Bool))(S:VS):Prop:=∀s b,ckd cur s=some b->lk S.env s=.b b
theorem xC{S:VS}{ρ:Rho}{s:Nat}{v:AV}(h:lk S.env s=v):(S.at ρ).env s=ρ.av v:=by rw[<-h];rfl
theorem bQe[Mode]{o:Oper}{S:VS}{K:VS->Prop}(h:cS P n o S λe=>yS S e.nw (pX o.dst e S K)):bDu P n β o S (λS'=>K S'/\∀s,(o.dst=none\/∃d,o.dst=some d/\Nat.beq d s=false)->lk S'.env s=lk S.env s):=by
 obtain⟨e,hK,hS⟩:=h.h;obtain⟨h1,h2⟩:=aZd hK;intro ρ hρ;refine gR (hS S ⟨λ_ _=>rfl,λ_ _=>rfl⟩ h2 ρ) ?_;rintro st ⟨ρ',hβ,he⟩;refine⟨_,ρ',hβ.trans hρ,⟨bGg h1,λs hs=>?_⟩,he⟩;simp only[VS.app]
 rcases hs with hs|⟨d,hs,hd⟩
 ·rw[hs]
 ·rw[hs];simp[lk,hd]
theorem bTs[Mode]{cur:List (Nat×Bool)}{o:Oper}{S:VS}{K:VS->Prop}(hc:jX cur S)(hd:∀d,o.dst=some d->d<n)(h:opK T n X cur o S K):cS P n o S λe=>yS S e.nw (pX o.dst e S K):=by
 unfold opK at h;split at h
 ·rename_i p cl s x y d hop hdst
  have hs:∀b,ckd (p::cl) s=some b->lk S.env s=.b b:=λb=>hc s b;obtain⟨dst,op,ty,pos,af,gd⟩:=o;simp only at hop hdst;subst hop;subst hdst;split at h
  ·rename_i hb
   have hv:S.ev (.tmp s)=.d (.lit (.bool true)):=hs _ hb;exact aGx (K:=λe=>yS S e.nw (pX (some d) e S K)) (hd d rfl) (by
    unfold aJa;rw[hv];refine⟨?_⟩;simp only;unfold uP at h|-;cases hk:cJ x with
    |false=>rw[hk] at h;exact h
    | true=>
     rw[hk] at h;simp only[cond_true] at h|-;have:=vC (K:=λv=>pX (some d) (.p v) S K) h
     generalize S.ev x=v at this
     unfold frc;split<;>first|exact this|(unfold aHs;split<;>exact this))
  ·rename_i hb
   have hv:S.ev (.tmp s)=.d (.lit (.bool false)):=hs _ hb;exact aGx (K:=λe=>yS S e.nw (pX (some d) e S K)) (hd d rfl) (by
    unfold aJa;rw[hv];refine⟨?_⟩;simp only;unfold uP at h|-;cases hk:cJ y with
    |false=>rw[hk] at h;exact h
    | true=>
     rw[hk] at h;simp only[cond_true] at h|-;have:=vC (K:=λv=>pX (some d) (.p v) S K) h
     generalize S.ev y=v at this
     unfold frc;split<;>first|exact this|(unfold aHs;split<;>exact this))
  ·exact aWq hd h
 ·exact aWq hd h
theorem bDf[Mode]{cur:List (Nat×Bool)}{o:Oper}{S:VS}{K:VS->Prop}(hc:jX cur S)(hd:∀d,o.dst=some d->d<n)(h:aSg T n β X cur o S K):bDu P n β o S (λS'=>K S'/\jX cur S'):=by
 unfold aSg at h;cases hm:bF (o.dst.getD 0) X.nd with
 | true=>
  rw[hm] at h;cases cur with
  | nil=>
   intro ρ hρ;refine gR (h ρ hρ) ?_;rintro st ⟨S',ρ',h1,h2,h3⟩;exact⟨S',ρ',h1,⟨h2,λs b hb=>by cases hb⟩,h3⟩
  |cons=>exact h.elim
 | false=>
  rw[hm] at h;simp only[cond_false] at h;obtain⟨hs,h⟩:=cnf h;intro ρ hρ;refine gR (bQe (β:=β) (bTs hc hd h) ρ hρ) ?_;rintro st ⟨S',ρ',h1,⟨h2,h3⟩,h4⟩;refine⟨S',ρ',h1,⟨h2,λs b hb=>?_⟩,h4⟩;rw[h3 s ?_]
  ·exact hc s b hb
  ·cases hdst:o.dst with
   |none=>exact .inl rfl
   | some d=>
    refine .inr ⟨d,rfl,?_⟩;cases hds:Nat.beq d s with
    |false=>rfl
    | true=>
     have:=Nat.eq_of_beq_eq_true hds;subst this;rw[hdst] at hs;simp only[Option.getD_some,hb,Option.isSome_some] at hs;cases hs
theorem bQj[Mode]{cur:List (Nat×Bool)}{o:Oper}{S:VS}{K:VS->Prop}(hc:jX cur S)(hd:∀d,o.dst=some d->d<n)(h:aEx T n β X cur o S K):bDu P n β o S (λS'=>K S'/\jX cur S'):=by
 unfold aEx at h;split at h
 ·exact bDf hc hd h
 ·rename_i k hs _
  have h1:=bDf (λs b hb=>by cases hb) hd (bHz (K:=λS=>aSg T n β X [] o S K) h);exactλρ hρ A M w0 a w hR=>h1 ρ hρ A M w0 a w (aYv ρ A M w0 n a w hR)
 ·exact h.elim
theorem bCr{cur:List (Nat×Bool)}{o:Oper}{S:VS}{K:VS->Prop}(hc:jX cur S)(h:sQ cur o S K):∃d,o.dst=some d/\K ⟨(d,.tup [])::S.env,S.objs⟩/\jX cur ⟨(d,.tup [])::S.env,S.objs⟩:=by
 obtain⟨env,objs⟩:=S;unfold sQ at h;split at h
 ·rename_i e ob d heq hd
  cases heq;obtain⟨hs,h⟩:=cnf h;refine⟨d,hd,h,λs b hb=>?_⟩;cases hds:Nat.beq d s with
  | true=>
   have:=Nat.eq_of_beq_eq_true hds;subst this;rw[hb] at hs;cases hs
  |false=>simp only[lk,hds,cond_false];exact hc s b hb
 ·exact h.elim
theorem aUk:∀{m:Nat} {l:List (Nat×AV)} {ds:List Nat} {k:Nat},aSi ds m l=true->bF k ds=false->lk l k=lk (aHh m l) k
 |0,l,_,_,_,_=>by simp[aHh]
 |m+1,[],_,_,_,_=>by simp[aHh]
 | m+1,p::l,ds,k,h,hk=>by
  simp only[aSi,Bool.and_eq_true] at h;have:Nat.beq p.1 k=false:=by
   cases hb:Nat.beq p.1 k with
   |false=>rfl
   |true=>have:=Nat.eq_of_beq_eq_true hb;rw[this] at h;rw[hk] at h;cases h.1
  simp only[lk,this,cond_false,aHh];exact aUk h.2 hk
theorem bCi:∀{ds:List Nat} {l:List (Nat×AV)} {k:Nat},lk (pH ds l) k=.any\/(bF k ds=false/\lk (pH ds l) k=lk l k)
 |[],l,k=>.inr ⟨rfl,rfl⟩
 | d::ds,l,k=>by
  simp only[pH,lk,bF];cases hb:Nat.beq d k with
  |true=>left;rfl
  |false=>simpa using bCi
theorem bRs[Mode]{S S':VS}{m t:Nat}{ds:List Nat}{x:Bool}(h:GN S m t ds x S'):LeV β S' ⟨(t,.b x)::pH ds S.env,S.objs⟩:=by
 obtain⟨h1,h2,h3,h4⟩:=h;intro ρ hρ;refine⟨ρ,hρ,?_⟩;have:Ent ⟨λk=>ρ.av (lk S'.env k),S'.objs.map λp=>ρ.mo p.1 p.2⟩ ⟨λk=>ρ.av (lk ((t,.b x)::pH ds S.env) k),S'.objs.map λp=>ρ.mo p.1 p.2⟩:=aMf λk=>by
  simp only[lk];cases hb:Nat.beq t k with
  | true=>
   have:=Nat.eq_of_beq_eq_true hb;subst this
   right;simp only[cond_true];rw[h3]
  | false=>
   simp only[cond_false]
   rcases bCi (ds:=ds) (l:=S.env) (k:=k) with h|⟨hm,h⟩
   ·left;rw[h];rfl
   ·right
    have hm':bF k (t::ds)=false:=by simp only[bF,hb,cond_false];exact hm
    rw[h,aUk h2 hm',h1]
 unfold VS.at;rw[<-h4];exact this
theorem bNg[Mode]{l:List Oper}{S S':VS}{Q:Exit->VS->Prop}(h:LeV β S S')(hc:aCn P n β ops l S' Q):aCn P n β ops l S Q:=λρ hρ=>by
 obtain⟨ρ',hβ,he⟩:=h ρ hρ;exact cL he (hc ρ' hβ)
theorem aBv{cur:List (Nat×Bool)}{S:VS}{s:Nat}{c:Bool}(h:jX cur S)(hs:lk S.env s=.b c):jX ((s,c)::cur) S:=λk b hb=>by
 simp only[ckd] at hb;cases hk:Nat.beq s k with
 | true=>
  have:=Nat.eq_of_beq_eq_true hk;subst this;rw[hk] at hb;simp at hb;subst hb;exact hs
 |false=>rw[hk] at hb;exact h k b hb
theorem bCf{t:Nat}{ds:List Nat}:∀{cur:List (Nat×Bool)},aMi t ds cur=true->∀s b,ckd cur s=some b->bF s ds=false/\Nat.beq t s=false
 |[],_,s,b,h=>by cases h
 | p::l,hf,s,b,h=>by
  simp only[aMi,Bool.and_eq_true,Bool.not_eq_true'] at hf;simp only[ckd] at h;cases hb:Nat.beq p.1 s with
  | true=>
   have:=Nat.eq_of_beq_eq_true hb;subst this;exact hf.1
  |false=>rw[hb] at h;exact bCf hf.2 s b h
theorem aPz{cur:List (Nat×Bool)}{S:VS}{ds:List Nat}{t:Nat}{x:Bool}(h:jX cur S)(hf:aMi t ds cur=true):jX cur ⟨(t,.b x)::pH ds S.env,S.objs⟩:=λs b hb=>by
 obtain⟨h1,h2⟩:=bCf hf s b hb;simp only[lk,h2,cond_false];have:∀{ds:List Nat} {l:List (Nat×AV)},bF s ds=false->lk (pH ds l) s=lk l s:=by
  intro ds
  induction ds with
  |nil=>intro l _;rfl
  | cons d ds ih=>
   intro l hm;simp only[bF] at hm;cases hb2:Nat.beq d s with
   |true=>rw[hb2] at hm;cases hm
   |false=>rw[hb2] at hm;simp only[pH,lk,hb2,cond_false];exact ih (by simpa using hm)
 rw[this h1];exact h s b hb
theorem aLo[Mode]:∀{l:List Oper} {i sk lim:Nat} {cur:List (Nat×Bool)} {S:VS} {K:VS->Prop} {Q:Exit->VS->Prop},tE n l=true->jX cur S->(∀S',K S'->aCn P n β ops (l.drop (sk+lim)) S' Q)->aIp T n β X ops l i sk lim cur S K->aCn P n β ops (l.drop sk) S Q
 | [],i,sk,lim,cur,S,K,Q,_,_,hQ,h=>by
  have:=hQ S h
  simpa using this
 | o::l,i,sk+1,lim,cur,S,K,Q,hd,hc,hQ,h=>by
  have hdl:tE n l=true:=by simp only[tE,Bool.and_eq_true] at hd;exact hd.2
  show aCn P n β ops (l.drop sk) S Q;exact aLo (l:=l) (sk:=sk) (lim:=lim) hdl hc (λS' hK=>by have:=hQ S' hK;rwa[show sk+1+lim=(sk+lim)+1 by omega,List.drop_succ_cons] at this) h
 |o::l,i,0,0,cur,S,K,Q,_,_,hQ,h=>hQ S h
 | o :: l,i,0,lim+1,cur,S,K,Q,hd,hc,hQ,h=>by
  have hdo:=aQa hd o (by simp);have hdl:tE n l=true:=by simp only[tE,Bool.and_eq_true] at hd;exact hd.2
  have hQ':∀S',K S'->aCn P n β ops (l.drop (0+lim)) S' Q:=λS' hK=>by
   have:=hQ S' hK
   rwa[show 0+(lim+1)=(0+lim)+1 by omega,List.drop_succ_cons] at this
  have take:∀{cur:List (Nat×Bool)} {N:VS->Prop} {lim:Nat},jX cur S->(∀S',N S'->aCn P n β ops (l.drop (0+lim)) S' Q)->aEx T n β X cur o S (λS=>aIp T n β X ops l (i+1) 0 lim cur S N)->∀ρ:Rho,ρ.β=β->Step P n o (S.at ρ) (λst'=>TrL P n ops.toArray l st' (λe st=>∃(S':VS) (ρ':Rho),ρ'.β=β/\Q e S'/\Ent st (S'.at ρ'))):=by
   intro cur N lim hc hN hst ρ hρ;refine gR (bQj hc hdo hst ρ hρ) ?_;rintro st' ⟨S',ρ',hβ,⟨hr,hc'⟩,he⟩;have:=aLo (Q:=Q) hdl hc' hN hr ρ' hβ;simp only[List.drop_zero] at this;exact cL he this
  have pass:∀{cur:List (Nat×Bool)} {N:VS->Prop} {lim:Nat},jX cur S->(∀S',N S'->aCn P n β ops (l.drop (0+lim)) S' Q)->sQ cur o S (λS=>aIp T n β X ops l (i+1) 0 lim cur S N)->∃d,o.dst=some d/\∀ρ:Rho,ρ.β=β->TrL P n ops.toArray l ((S.at ρ).set d (.tup [])) (λe st=>∃(S':VS) (ρ':Rho),ρ'.β=β/\Q e S'/\Ent st (S'.at ρ')):=by
   intro cur N lim hc hN hp;obtain⟨d,ho,hr,hc'⟩:=bCr hc hp;refine⟨d,ho,λρ hρ=>?_⟩;have:=aLo (Q:=Q) hdl hc' hN hr ρ hρ;simp only[List.drop_zero] at this;have e:(S.at ρ).set d (.tup [])=(VS.mk ((d,.tup [])::S.env) S.objs).at ρ:=wN S d (.tup []);rw[e];exact this
  show aCn P n β ops (o::l) S Q
  change bFi T n β X ops o l (aIp T n β X ops l) i 0 (lim+1) cur S K at h
  simp only[bFi] at h;cases hg:o.guard with
  | none=>
   rw[hg] at h;exactλρ hρ=>aZ hg (take hc hQ' h ρ hρ) λst' hst=>hst
  | some p=>
   obtain⟨j,g⟩:=p;rw[hg] at h;simp only at h;split at h
   ·rename_i s hs
    rw[aOw] at hs;have hj:(ops.toArray[j]?).bind (·.dst)=some s:=by simpa using hs
    obtain⟨hsn,h⟩:=gD h;have hsn:=Nat.le_of_ble_eq_true hsn;have ask:∀{cur:List (Nat×Bool)} {N:VS->Prop} {lim:Nat} {c:Bool},jX cur S->lk S.env s=.b c->(∀S',N S'->aCn P n β ops (l.drop (0+lim)) S' Q)->
      (bif (bif g then c else !c) then aEx T n β X cur o S (λS=>aIp T n β X ops l (i+1) 0 lim cur S N) else sQ cur o S (λS=>aIp T n β X ops l (i+1) 0 lim cur S N))->aCn P n β ops (o::l) S Q:=by
     intro cur N lim c hc hlk hN h;cases hcg:(bif g then c else !c) with
     | true=>
      rw[hcg] at h;exactλρ hρ=>aTu hg hj hsn (xC hlk) (by cases g<;>cases c<;>simp_all) (take hc hN h ρ hρ) λst' hst=>hst
     | false=>
      rw[hcg] at h;obtain⟨d,ho,h⟩:=pass hc hN h;exactλρ hρ=>lR hg ho (hdo d ho) hj hsn (xC hlk) (by cases g<;>cases c<;>simp_all) (h ρ hρ)
    split at h
    ·rename_i c hcc
     exact ask hc (hc s c hcc) hQ' h
    ·split at h
     ·rename_i c hlk
      cases he:aJz X (eA i j (o::l)) (o::l) with
      | true=>
       rw[he] at h;simp only[cond_true] at h;exact ask (aBv hc hlk) hlk hQ' (aTe h)
      | false=>
       rw[he] at h;simp only[cond_false] at h;obtain⟨hb,h⟩:=gD h;simp only[Bool.and_eq_true] at hb;have hm:=Nat.le_of_ble_eq_true hb.1;obtain⟨x,hA,hB⟩:=h.h;have hA:=aTe hA;refine ask (aBv hc hlk) hlk ?_ hA;intro S' hN;refine bNg (bRs hN) ?_;have:=aLo (Q:=Q) hdl (aPz hc hb.2) (λS2 hK=>by
        have:=hQ' S2 hK
        rwa[show 0+lim=eA i j l+1+(lim-(eA i j l+1)) by omega] at this) hB
       rwa[Nat.zero_add]
     ·rename_i hlk
      obtain⟨d,ho,h⟩:=pass hc hQ' h;exactλρ hρ=>bAk hg ho (hdo d ho) hj hsn (xC hlk) (h ρ hρ)
     ·exact h.elim
   ·exact h.elim
end
end Go.Am
end
section
namespace Go.Am
def pD(c:List (Nat×Option VO)):List Nat:=c.map (·.1)
def cOb:List (Nat×Option VO)->(Nat->Option VO)->Nat->Option VO
 |[],f=>f
 |(k,m)::c,f=>cOb c λh=>bif Nat.beq k h then m else f h
theorem aSo{h:Nat}:∀{c:List (Nat×Option VO)} {f:Nat->Option VO},bF h (pD c)=false->cOb c f h=f h
 |[],_,_=>rfl
 | (k,m)::c,f,hk=>by
  simp only[pD,List.map_cons,bF] at hk;cases hb:Nat.beq k h with
  |true=>rw[hb] at hk;cases hk
  | false=>
   rw[hb] at hk;simp only[cOb];rw[aSo (by simpa[pD] using hk)]
   simp[hb]
theorem aXl{h:Nat}:∀{c:List (Nat×Option VO)} {f g:Nat->Option VO},(bF h (pD c)=true\/f h=g h)->cOb c f h=cOb c g h
 | [],f,g,hk=>by
  rcases hk with hk|hk
  ·cases hk
  ·exact hk
 | (k,m)::c,f,g,hk=>by
  simp only[cOb];refine aXl ?_;simp only[pD,List.map_cons,bF] at hk;cases hb:Nat.beq k h with
  |true=>right;simp
  | false=>
   rw[hb] at hk
   rcases hk with hk|hk
   ·left;simpa[pD] using hk
   ·right;simpa using hk
def eN(l:List (Nat×VO)):Prop:=(l.map (·.1)).Nodup
theorem bCn{h:Nat}:∀{l:List (Nat×VO)},h∉l.map (·.1)->ob l h=none
 |[],_=>rfl
 | (k,x)::l,hk=>by
  simp only[List.map_cons,List.mem_cons,not_or] at hk;have:Nat.beq k h=false:=by
   cases hb:Nat.beq k h with
   |false=>rfl
   |true=>exact absurd (Nat.eq_of_beq_eq_true hb).symm hk.1
  simp only[ob,this,cond_false];exact bCn hk.2
theorem bCs{h k:Nat}{m:VO}:∀{l:List (Nat×VO)},ob (iB h m l) k=bif Nat.beq h k then some m else ob l k
 |[]=>by simp[iB,ob]
 | (j,x)::l=>by
  simp only[iB];cases hb:Nat.beq j h with
  | true=>
   have:=Nat.eq_of_beq_eq_true hb;subst this;simp only[cond_true,ob];cases Nat.beq j k<;>rfl
  | false=>
   simp only[cond_false,ob,bCs (l:=l)];cases hc:Nat.beq j k with
   | true=>
    have:=Nat.eq_of_beq_eq_true hc;subst this;have:Nat.beq h j=false:=by
     cases hd:Nat.beq h j with
     |false=>rfl
     |true=>have:=Nat.eq_of_beq_eq_true hd;subst this;simp at hb
    simp[this]
   |false=>simp
theorem aVg{h:Nat}{m:VO}:∀{l:List (Nat×VO)},∀k∈(iB h m l).map (·.1),k=h\/k∈l.map (·.1)
 |[],k,hk=>by simp[iB] at hk;exact .inl hk
 | (j,x)::l,k,hk=>by
  simp only[iB] at hk;cases hb:Nat.beq j h with
  |true=>rw[hb] at hk;right;simpa using hk
  | false=>
   rw[hb] at hk;simp only[cond_false,List.map_cons,List.mem_cons] at hk|-
   rcases hk with hk|hk
   ·exact .inr (.inl hk)
   ·rcases aVg k hk with h1|h1
    ·exact .inl h1
    ·exact .inr (.inr h1)
theorem aTk{h:Nat}{m:VO}:∀{l:List (Nat×VO)},eN l->eN (iB h m l)
 |[],_=>by simp[eN,iB]
 | (j,x)::l,hl=>by
  simp only[eN,List.map_cons,List.nodup_cons] at hl;simp only[iB];cases hb:Nat.beq j h with
  |true=>simpa[eN] using hl
  | false=>
   simp only[cond_false,eN,List.map_cons,List.nodup_cons];refine⟨λhj=>?_,aTk hl.2⟩
   rcases aVg j hj with h1|h1
   ·subst h1;simp at hb
   ·exact hl.1 h1
theorem aXu{h:Nat}:∀{l:List (Nat×VO)},((iA h l).map (·.1)).Sublist (l.map (·.1))
 |[]=>.slnil
 | (j,x)::l=>by
  simp only[iA];cases Nat.beq j h with
  |true=>simp
  |false=>simpa using aXu (l:=l)
theorem bCa{h:Nat}{l:List (Nat×VO)}(hl:eN l):eN (iA h l):=List.Nodup.sublist aXu hl
theorem bBz{h k:Nat}:∀{l:List (Nat×VO)},eN l->ob (iA h l) k=bif Nat.beq h k then none else ob l k
 |[],_=>by simp[iA,ob]
 | (j,x)::l,hl=>by
  simp only[eN,List.map_cons,List.nodup_cons] at hl;simp only[iA];cases hb:Nat.beq j h with
  | true=>
   have:=Nat.eq_of_beq_eq_true hb;subst this;simp only[cond_true,ob];cases hc:Nat.beq j k with
   |true=>have:=Nat.eq_of_beq_eq_true hc;subst this;simp[bCn hl.1]
   |false=>simp
  | false=>
   simp only[cond_false,ob,bBz (l:=l) hl.2];cases hc:Nat.beq j k with
   | true=>
    have:=Nat.eq_of_beq_eq_true hc;subst this;have:Nat.beq h j=false:=by
     cases hd:Nat.beq h j with
     |false=>rfl
     |true=>have:=Nat.eq_of_beq_eq_true hd;subst this;simp at hb
    simp[this]
   |false=>simp
theorem wQ:∀{c:List (Nat×Option VO)} {l:List (Nat×VO)},eN l->eN (chg c l)
 |[],_,h=>h
 |(_,some _)::c,_,h=>by simp only[chg];exact wQ (aTk h)
 |(_,none)::c,_,h=>by simp only[chg];exact wQ (bCa h)
theorem aXq:∀{c:List (Nat×Option VO)} {l:List (Nat×VO)},eN l->∀h,ob (chg c l) h=cOb c (ob l) h
 |[],_,_,_=>rfl
 | (k,some m)::c,l,hl,h=>by
  simp only[chg,cOb];rw[aXq (aTk hl) h];exact congrArg (λf=>cOb c f h) (funext λq=>bCs)
 | (k,none)::c,l,hl,h=>by
  simp only[chg,cOb];rw[aXq (bCa hl) h];exact congrArg (λf=>cOb c f h) (funext λq=>bBz hl)
theorem aFl{h:Nat}{m:VO}:∀{l:List (Nat×VO)},ob l h=some m->(h,m)∈l
 |[],h=>by cases h
 | (k,x)::l,hm=>by
  simp only[ob] at hm;cases hb:Nat.beq k h with
  |true=>rw[hb] at hm;have:=Nat.eq_of_beq_eq_true hb;subst this;simp at hm;subst hm;simp
  |false=>rw[hb] at hm;exact List.mem_cons_of_mem _ (aFl (by simpa using hm))
theorem aZa{h:Nat}{m:VO}:∀{l:List (Nat×VO)},eN l->(h,m)∈l->ob l h=some m
 | (k,x)::l,hl,hm=>by
  simp only[eN,List.map_cons,List.nodup_cons] at hl;simp only[ob]
  rcases List.mem_cons.1 hm with e|hm
  ·cases e;simp
  ·have:Nat.beq k h=false:=by
    cases hb:Nat.beq k h with
    |false=>rfl
    |true=>have:=Nat.eq_of_beq_eq_true hb;subst this;exact absurd (List.mem_map.2 ⟨_,hm,rfl⟩) hl.1
   simp only[this,cond_false];exact aZa hl.2 hm
theorem bEy{l l':List (Nat×VO)}(h:eN l)(h':eN l')(he:∀k,ob l k=ob l' k):l.Perm l':=by
 have nd:∀{l:List (Nat×VO)},eN l->l.Nodup:=by
  intro l
  induction l with
  |nil=>intro _;exact .nil
  | cons p l ih=>
   intro h;simp only[eN,List.map_cons,List.nodup_cons] at h;exact List.nodup_cons.2 ⟨λhm=>h.1 (List.mem_map.2 ⟨p,hm,rfl⟩),ih h.2⟩
 refine(List.perm_ext_iff_of_nodup (nd h) (nd h')).2 λ⟨k,m⟩=>⟨λhm=>aFl ((he k).symm.trans (aZa h hm)),λhm=>aFl ((he k).trans (aZa h' hm))⟩
def yH[Mode](P:Program)(n:Nat)(ops:List Oper)(o:Oper)(S:VS)(e:Eff):Prop:=match o.guard with
 |none=>lT P n o S e
 |some (j,g)=>∃s,(ops[j]?).bind (·.dst)=some s/\s<n/\((∃c,lk S.env s=.b c/\((c=g/\lT P n o S e)\/(c=!g/\e=.p (.tup [])/\∃d,o.dst=some d/\d<n)))\/(lk S.env s=.tup []/\e=.p (.tup [])/\∃d,o.dst=some d/\d<n))
def qV[Mode](P:Program)(n:Nat)(ops:List Oper):List Oper->VS->List Eff->VS->Prop
 |[],S,[],S'=>S=S'
 |o::l,S,e::es,S'=>yH P n ops o S e/\(∀h∈e.nw,kZ h S=false/\Nat.ble 100000 h=false)/\qV P n ops l (S.app o.dst e) es S'
 |_,_,_,_=>False
def bUb:Operand->Option Nat
 | .tmp t=>some t
 |_=>none
def gdS(ops:List Oper)(o:Oper):List Nat:=match o.guard with
 |some (j,_)=>((ops[j]?).bind (·.dst)).toList
 |none=>[]
def rdO(ops:List Oper)(o:Oper):List Nat:=o.op.operands.toList.filterMap bUb++gdS ops o
theorem aQl[Mode]{P:Program}{n:Nat}{ops:List Oper}{o:Oper}{S S2:VS}{e:Eff}(h:yH P n ops o S e)(he:∀k∈rdO ops o,lk S2.env k=lk S.env k)(ho:∀k∈e.us,ob S2.objs k=ob S.objs k):yH P n ops o S2 e:=by
 have ev:∀x∈o.op.operands.toList,S2.ev x=S.ev x:=λx hx=>by
  cases x with
  |tmp t=>exact he t (List.mem_append.2 (.inl (List.mem_filterMap.2 ⟨.tmp t,hx,rfl⟩)))
  |_=>rfl
 have sem:lT P n o S e->lT P n o S2 e:=λh S' hA hn ρ=>h S' ⟨λx hx=>(hA.ev x hx).trans (ev x hx),λk hk=>(hA.ob k hk).trans (ho k hk)⟩ hn ρ;unfold yH at h|-;split at h
 ·rename_i hg;exact sem h
 ·rename_i j g hg
  obtain⟨s,hs,hsn,h⟩:=h;have hk:lk S2.env s=lk S.env s:=he s (List.mem_append.2 (.inr (by simp[gdS,hg,hs])));refine⟨s,hs,hsn,?_⟩
  rcases h with⟨c,hc,h⟩|h
  ·left
   refine⟨c,hk.trans hc,?_⟩
   rcases h with⟨h1,h2⟩|h
   ·exact .inl ⟨h1,sem h2⟩
   ·exact .inr h
  ·right;exact⟨hk.trans h.1,h.2⟩
end Go.Am
end
section
namespace Go.Am
def stD(D:Nat->Bool):Nat->List Oper->List Eff->VS->VS
 |k,o::l,e::es,S=>stD D (k+1) l es (bif D k then S.app o.dst e else S)
 |_,_,_,S=>S
theorem uR{S:VS}{dst:Option Nat}{e:Eff}{q:Nat}:lk (S.app dst e).env q=match dst with|some d=>bif Nat.beq d q then e.v else lk S.env q|none=>lk S.env q:=by
 cases dst<;>rfl
theorem aSe{D D':Nat->Bool}{q:Nat}:∀{l:List Oper} {es:List Eff} {k:Nat} {S S':VS},(∀j o,l[j]?=some o->o.dst=some q->D (k+j)=D' (k+j))->lk S.env q=lk S'.env q->lk (stD D k l es S).env q=lk (stD D' k l es S').env q
 |[],_,_,_,_,_,h=>by simpa[stD] using h
 |_::_,[],_,_,_,_,h=>by simpa[stD] using h
 | o :: l,e::es,k,S,S',hD,h=>by
  simp only[stD];refine aSe (λj o' hj ho=>?_) ?_
  ·have:=hD (j+1) o' (by simpa using hj) ho
   rwa[show k+1+j=k+(j+1) by omega]
  ·by_cases hq:o.dst=some q
   ·have:=hD 0 o rfl hq;simp only[Nat.add_zero] at this;rw[this];cases D' k with
    |true=>simp only[cond_true,uR,hq,Nat.beq_refl,cond_true]
    |false=>exact h
   ·have keep:∀S:VS,∀b:Bool,lk (bif b then S.app o.dst e else S).env q=lk S.env q:=λS b=>by
     cases b with
     |false=>rfl
     | true=>
      simp only[cond_true,uR];cases hd:o.dst with
      |none=>rfl
      | some d=>
       have:Nat.beq d q=false:=by
        cases hb:Nat.beq d q with
        |false=>rfl
        |true=>have:=Nat.eq_of_beq_eq_true hb;subst this;exact absurd hd hq
       simp only[this,cond_false]
    rw[keep S,keep S'];exact h
theorem bDe{D:Nat->Bool}{q:Nat}:∀{l:List Oper} {es:List Eff} {k i:Nat} {S:VS} {o:Oper} {e:Eff},l[i]?=some o->es[i]?=some e->o.dst=some q->D (k+i)=true->(∀j o',j≠i->l[j]?=some o'->o'.dst≠some q)->lk (stD D k l es S).env q=e.v
 |[],_,_,i,_,_,_,h,_,_,_,_=>by simp at h
 |_::_,[],_,i,_,_,_,_,h,_,_,_=>by simp at h
 | o::l,e::es,k,0,S,o1,e1,h1,h2,hd,hD,hu=>by
  simp at h1 h2;subst h1;subst h2
  simp only[Nat.add_zero] at hD;simp only[stD,hD,cond_true];have:=aSe (D:=D) (D':=λ_=>false) (q:=q) (l:=l) (es:=es) (k:=k+1) (S:=S.app o.dst e) (S':=S.app o.dst e) (λj o' hj ho=>absurd ho (hu (j+1) o' (by omega) (by simpa using hj))) rfl;rw[this];have e0:∀(l:List Oper) (es:List Eff) (k:Nat) (S:VS),stD (λ_=>false) k l es S=S:=by
   intro l
   induction l with
   |nil=>intros;simp[stD]
   |cons o l ih=>intro es k S;cases es<;>simp[stD,ih]
  rw[e0,uR,hd];simp
 | o::l,e::es,k,i+1,S,o1,e1,h1,h2,hd,hD,hu=>by
  simp only[stD];exact bDe (by simpa using h1) (by simpa using h2) hd (by rwa[show k+1+i=k+(i+1) by omega]) λj o' hj ho=>hu (j+1) o' (by omega) (by simpa using ho)
theorem bAe{D:Nat->Bool}:∀{l:List Oper} {es:List Eff} {k:Nat} {S:VS},eN S.objs->eN (stD D k l es S).objs
 |[],_,_,_,h=>by simpa[stD] using h
 |_::_,[],_,_,h=>by simpa[stD] using h
 | o::l,e::es,k,S,h=>by
  simp only[stD];refine bAe ?_;cases D k with
  |false=>exact h
  |true=>exact wQ h
theorem aKa{S:VS}{dst:Option Nat}{e:Eff}(h:eN S.objs)(q:Nat):ob (S.app dst e).objs q=cOb e.ch (ob S.objs) q:=aXq h q
theorem aSf{D D':Nat->Bool}{q:Nat}:∀{l:List Oper} {es:List Eff} {k:Nat} {S S':VS},eN S.objs->eN S'.objs->(∀j e,es[j]?=some e->bF q (pD e.ch)=true->D (k+j)=D' (k+j))->ob S.objs q=ob S'.objs q->ob (stD D k l es S).objs q=ob (stD D' k l es S').objs q
 |[],_,_,_,_,_,_,_,h=>by simpa[stD] using h
 |_::_,[],_,_,_,_,_,_,h=>by simpa[stD] using h
 | o ::l,e::es,k,S,S',h1,h2,hD,h=>by
  simp only[stD];refine aSf ?_ ?_ (λj e' hj ho=>?_) ?_
  ·cases D k with
   |false=>exact h1
   |true=>exact wQ h1
  ·cases D' k with
   |false=>exact h2
   |true=>exact wQ h2
  ·have:=hD (j+1) e' (by simpa using hj) ho
   rwa[show k+1+j=k+(j+1) by omega]
  ·cases hq:bF q (pD e.ch) with
   | true=>
    have:=hD 0 e rfl hq;simp only[Nat.add_zero] at this;rw[this];cases D' k with
    |true=>simp only[cond_true];rw[aKa h1,aKa h2];exact aXl (.inl hq)
    |false=>exact h
   | false=>
    have keep:∀S:VS,eN S.objs->∀b:Bool,ob (bif b then S.app o.dst e else S).objs q=ob S.objs q:=λS hS b=>by
     cases b with
     |false=>rfl
     |true=>simp only[cond_true];rw[aKa hS];exact aSo hq
    rw[keep S h1,keep S' h2];exact h
theorem aTq(l:List Oper):∀(es:List Eff) (k:Nat) (S:VS),stD (λ_=>false) k l es S=S:=by
 induction l with
 |nil=>intros;simp[stD]
 |cons o l ih=>intro es k S;cases es<;>simp[stD,ih]
theorem bDd{D:Nat->Bool}{q:Nat}:∀{l:List Oper} {es:List Eff} {k i:Nat} {S:VS} {o:Oper} {e:Eff},eN S.objs->l[i]?=some o->es[i]?=some e->bF q (pD e.ch)=true->D (k+i)=true->(∀j e',i<j->es[j]?=some e'->bF q (pD e'.ch)=true->D (k+j)=false)->∀f,ob (stD D k l es S).objs q=cOb e.ch f q
 |[],_,_,i,_,_,_,_,h,_,_,_,_=>by simp at h
 |_::_,[],_,i,_,_,_,_,_,h,_,_,_=>by simp at h
 | o::l,e::es,k,0,S,o1,e1,hS,h1,h2,hq,hD,hu=>λf=>by
  simp at h1 h2;subst h1;subst h2
  simp only[Nat.add_zero] at hD;simp only[stD,hD,cond_true];have:=aSf (D:=D) (D':=λ_=>false) (q:=q) (l:=l) (es:=es) (k:=k+1) (S:=S.app o.dst e) (S':=S.app o.dst e) (wQ hS) (wQ hS) (λj e' hj ho=>by
   have:=hu (j+1) e' (by omega) (by simpa using hj) ho
   rwa[show k+1+j=k+(j+1) by omega]) rfl
  rw[this,aTq,aKa hS];exact aXl (.inl hq)
 | o::l,e::es,k,i+1,S,o1,e1,hS,h1,h2,hq,hD,hu=>λf=>by
  simp only[stD];refine bDd ?_ (by simpa using h1) (by simpa using h2) hq (by rwa[show k+1+i=k+(i+1) by omega]) (λj e' hj he ho=>?_) f
  ·cases D k with
   |false=>exact hS
   |true=>exact wQ hS
  ·have:=hu (j+1) e' (by omega) (by simpa using he) ho
   rwa[show k+1+j=k+(j+1) by omega]
theorem bDc{D:Nat->Bool}{h:Nat}:∀{l:List Oper} {es:List Eff} {k:Nat} {S:VS},kZ h S=false->(∀j e,es[j]?=some e->D (k+j)=true->xF h e=false)->kZ h (stD D k l es S)=false
 |[],_,_,_,h,_=>by simpa[stD] using h
 |_::_,[],_,_,h,_=>by simpa[stD] using h
 | o::l,e::es,k,S,hS,hD=>by
  simp only[stD];refine bDc ?_ λj e' hj hd=>hD (j+1) e' (by simpa using hj) (by rwa[show k+(j+1)=k+1+j by omega]);cases hk:D k with
  |false=>exact hS
  |true=>exact aSm hS (hD 0 e rfl (by simpa using hk))
theorem aMa{D D':Nat->Bool}:∀{l:List Oper} {es:List Eff} {k:Nat} {S:VS},(∀j,j<l.length->D (k+j)=D' (k+j))->stD D k l es S=stD D' k l es S
 |[],_,_,_,_=>by simp[stD]
 |_::_,[],_,_,_=>by simp[stD]
 | o::l,e::es,k,S,h=>by
  have:=h 0 (by simp);simp only[Nat.add_zero] at this;simp only[stD,this];exact aMa λj hj=>by
   have:=h (j+1) (by simpa using hj)
   rwa[show k+(j+1)=k+1+j by omega] at this
theorem aUg[Mode]{P:Program}{n:Nat}{ops:List Oper}:∀{l:List Oper} {es:List Eff} {S S1:VS} {k:Nat},qV P n ops l S es S1->es.length=l.length/\S1=stD (λ_=>true) k l es S/\∀(i:Nat) (o:Oper) (e:Eff),l[i]?=some o->es[i]?=some e->yH P n ops o (stD (λj=>Nat.blt j (k+i)) k l es S) e/\∀h∈e.nw,kZ h (stD (λj=>Nat.blt j (k+i)) k l es S)=false/\Nat.ble 100000 h=false
 |[],[],S,S1,k,h=>⟨rfl,by simpa[qV,stD] using h.symm,λi o e hi=>by simp at hi⟩
 | o ::l,e::es,S,S1,k,h=>by
  obtain⟨h1,h2,h3⟩:=h;obtain⟨a,b,c⟩:=aUg (k:=k+1) h3;refine⟨by simp[a],by simp only[stD,cond_true];exact b,λi o' e' hi he=>?_⟩;cases i with
  | zero=>
   simp at hi he;subst hi;subst he
   have:stD (λj=>Nat.blt j (k+0)) k (o::l) (e::es) S=S:=by
    have:stD (λj=>Nat.blt j (k+0)) k (o::l) (e::es) S=stD (λ_=>false) k (o::l) (e::es) S:=aMa λj _=>by
     cases hb:Nat.blt (k+j) (k+0) with
     |false=>rfl
     |true=>have:=Nat.le_of_ble_eq_true hb;omega
    rw[this,aTq]
   rw[this];exact⟨h1,h2⟩
  | succ i=>
   have:=c i o' e' (by simpa using hi) (by simpa using he);simp only[stD,show Nat.blt k (k+(i+1))=true from Nat.ble_eq_true_of_le (by omega),cond_true]
   rwa[show k+(i+1)=k+1+i by omega]
 |[],_::_,_,_,_,h=>h.elim
 |_::_,[],_,_,_,h=>h.elim
theorem aOz{l:List Oper}(hb:uH l=true):∀i,i<l.length->∀j,bF j ((cM l l.length).getD i [])=true->j<i:=by
 intro i
 induction i using Nat.strongRecOn with
 | _ i ih=>
  intro hi j hj;rw[gG,tL l _ i hi] at hj;obtain⟨e,he,hj⟩:=aOg hj;have hei:=aSn hb hi e he
  rcases hj with rfl|hj
  ·exact hei
  ·rw[tL l i e hei] at hj;have:=ih e hei (by omega) j (gG.2 (by rwa[tL l _ e (by omega)]))
   omega
theorem bRj[Mode]{P:Program}{n id:Nat}{β:sV}{l:List Oper}{S S1:VS}{es:List Eff}(hm:P.follows .mixedOrders=true)(hb:uH l=true)(hd:tE n l=true)(hch:qV P n l l S es S1)(ho:eN S.objs)
  (H0:∀(i j:Nat) (o o':Oper) (q:Nat),i≠j->l[i]?=some o->l[j]?=some o'->o.dst=some q->o'.dst≠some q)
  (H1:∀(i j:Nat) (o o':Oper) (q:Nat),i≠j->l[i]?=some o->l[j]?=some o'->q∈rdO l o->o'.dst=some q->bF j ((cM l l.length).getD i [])=true\/bF i ((cM l l.length).getD j [])=true)
  (H2:∀(i j:Nat) (e e':Eff),i≠j->es[i]?=some e->es[j]?=some e'->bF j ((cM l l.length).getD i [])=false->bF i ((cM l l.length).getD j [])=false->∀h,bF h (pD e'.ch)=true->h∉e.us/\bF h (pD e.ch)=false)
  (H3:∀(i j:Nat) (e e':Eff),i≠j->es[i]?=some e->es[j]?=some e'->bF i ((cM l l.length).getD j [])=false->∀h∈e.nw,xF h e'=false)
  (H4:∀(i:Nat) (e:Eff),es[i]?=some e->∀h∈e.nw,kZ h S=false)(ρ:Rho)(hρ:ρ.β=β):Tr P n (.region id l.toArray true) (S.at ρ) λe st=>e=.normal/\∃ρ':Rho,ρ'.β=β/\Ent st (S1.at ρ'):=by
 obtain⟨hlen,hS1,hget⟩:=aUg (k:=0) hch;refine aIv l.length (λD st=>∃ρ':Rho,ρ'.β=β/\st=(stD D 0 l es S).at ρ') hm hb ?_ (Nat.ble_eq_true_of_le (Nat.le_refl _))
  ((List.range l.length).map λi=>((cM l l.length).getD i [],(List.range l.length).filter λj=>bF i ((cM l l.length).getD j []))) ?_ ⟨ρ,hρ,by rw[aTq]⟩ ?_ ?_ ?_
 ·simp only[rR,List.all_eq_true,List.mem_range];intro i hi;rw[show Nat.blt i l.length=true from Nat.ble_eq_true_of_le hi];rfl
 ·simp only[aJb,List.all_eq_true,List.mem_range];intro i hi;have:((List.range l.length).map λi=>((cM l l.length).getD i [],(List.range l.length).filter λj=>bF i ((cM l l.length).getD j []))).getD i ([],[])=((cM l l.length).getD i [],(List.range l.length).filter λj=>bF i ((cM l l.length).getD j [])):=by
   simp[List.getD,hi]
  rw[this];simp only[Bool.and_eq_true,List.all_eq_true,List.mem_filter,List.mem_range];exact⟨λj hj=>gG.2 hj,λj hj=>⟨Nat.ble_eq_true_of_le hj.1,hj.2⟩⟩
 ·rintro D D' st' hD ⟨ρ',h1,rfl⟩;exact⟨ρ',h1,by rw[aMa (D:=D') (D':=D) λj hj=>by rw[Nat.zero_add];exact hD j hj]⟩
 ·rintro i o hi D st' ⟨ρ',hβ,rfl⟩ hDi hK;have hi':l[i]?=some o:=by rwa[List.take_length] at hi
  have hil:i<l.length:=(List.getElem?_eq_some_iff.1 hi').1;obtain⟨e,he⟩:∃e,es[i]?=some e:=⟨_,List.getElem?_eq_getElem (by omega)⟩;obtain⟨hg,hfr⟩:=hget i o e hi' he;simp only[Nat.zero_add] at hg hfr;have hyn:((List.range l.length).map λi=>((cM l l.length).getD i [],(List.range l.length).filter λj=>bF i ((cM l l.length).getD j []))).getD i ([],[])=((cM l l.length).getD i [],(List.range l.length).filter λj=>bF i ((cM l l.length).getD j [])):=by
   simp[List.getD,hil]
  rw [hyn] at hK;have hyes:∀j,bF j ((cM l l.length).getD i [])=true->D j=true:=hK.y;have hno:∀j,j<l.length->bF i ((cM l l.length).getD j [])=true->D j=false:=λj hj hm=>hK.n j (gG.2 (List.mem_filter.2 ⟨List.mem_range.2 hj,hm⟩));have ord:∀j,j<l.length->j≠i->(bF j ((cM l l.length).getD i [])=true\/bF i ((cM l l.length).getD j [])=true)->D j=Nat.blt j i:=by
   intro j hj hji hor
   rcases hor with h|h
   ·rw[hyes j h,show Nat.blt j i=true from Nat.ble_eq_true_of_le (aOz hb i hil j h)]
   ·rw[hno j hj h];have:=aOz hb j hj i h;cases hbl:Nat.blt j i with
    |false=>rfl
    |true=>have:=Nat.le_of_ble_eq_true hbl;omega
  have hbii:Nat.blt i i=false:=by
   cases hbl:Nat.blt i i with
   |false=>rfl
   |true=>have:=Nat.le_of_ble_eq_true hbl;omega
  have hesl:∀j (e':Eff),es[j]?=some e'->j<l.length:=λj e' h=>by have:=(List.getElem?_eq_some_iff.1 h).1;omega
  have hg':yH P n l o (stD D 0 l es S) e:=by
   refine aQl hg (λq hq=>?_) λh hh=>?_
   ·refine aSe (λj o' hj hd'=>?_) rfl;rw[Nat.zero_add]
    by_cases hji:j=i
    ·subst hji;rw[hDi,hbii]
    ·exact ord j (List.getElem?_eq_some_iff.1 hj).1 hji (H1 i j o o' q (Ne.symm hji) hi' hj hq hd')
   ·refine aSf ho ho (λj e' hj hk=>?_) rfl;rw[Nat.zero_add]
    by_cases hji:j=i
    ·subst hji;rw[hDi,hbii]
    ·refine ord j (hesl j e' hj) hji ?_;cases h1:bF j ((cM l l.length).getD i []) with
     |true=>exact .inl rfl
     | false=>
      cases h2:bF i ((cM l l.length).getD j []) with
      |true=>exact .inr rfl
      |false=>exact absurd hh (H2 i j e e' (Ne.symm hji) he hj h1 h2 h hk).1
  have hfresh:∀h∈e.nw,kZ h (stD D 0 l es S)=false/\Nat.ble 100000 h=false:=λh hh=>by
   refine⟨bDc (H4 i e he h hh) λj e' hj hDj=>?_,(hfr h hh).2⟩;rw[Nat.zero_add] at hDj;have hji:j≠i:=λe0=>by subst e0;rw[hDi] at hDj;cases hDj
   refine H3 i j e e' (Ne.symm hji) he hj ?_ h hh;cases h2:bF i ((cM l l.length).getD j []) with
   |false=>rfl
   |true=>rw[hno j (hesl j e' hj) h2] at hDj;cases hDj
  have after:∀ρ2:Rho,Ent (((stD D 0 l es S).app o.dst e).at ρ2) ((stD (λj=>Nat.beq j i||D j) 0 l es S).at ρ2):=by
   intro ρ2;have henv:∀q,lk ((stD D 0 l es S).app o.dst e).env q=lk (stD (λj=>Nat.beq j i||D j) 0 l es S).env q:=by
    intro q;rw[uR];have off:o.dst≠some q->lk (stD D 0 l es S).env q=lk (stD (λj=>Nat.beq j i||D j) 0 l es S).env q:=λhq=>by
     refine aSe (λj o' hj hd'=>?_) rfl;rw[Nat.zero_add];have hji:j≠i:=λe0=>by subst e0;rw[hi'] at hj;cases hj;exact hq hd'
     have:Nat.beq j i=false:=by
      cases hbj:Nat.beq j i with
      |false=>rfl
      |true=>exact absurd (Nat.eq_of_beq_eq_true hbj) hji
     rw[this,Bool.false_or]
    cases hdst:o.dst with
    |none=>exact off (by rw[hdst];simp)
    | some d=>
     cases hbq:Nat.beq d q with
     | true=>
      have:=Nat.eq_of_beq_eq_true hbq;subst this;simp only[hbq,cond_true];exact(bDe hi' he hdst (by simp) λj o' hj ho'=>H0 i j o o' d (Ne.symm hj) hi' ho' hdst).symm
     | false=>
      simp only[hbq,cond_false];exact off (by rw[hdst];intro e0;cases e0;simp at hbq)
   have hok1:eN (stD D 0 l es S).objs:=bAe ho;have hobj:((stD D 0 l es S).app o.dst e).objs.Perm (stD (λj=>Nat.beq j i||D j) 0 l es S).objs:=by
    refine bEy (wQ hok1) (bAe ho) λq=>?_;rw[aKa hok1];cases hq:bF q (pD e.ch) with
    | true=>
     refine(bDd ho hi' he hq (by simp) (λj e' hij hj hk=>?_) _).symm;rw[Nat.zero_add];have hji:j≠i:=by omega
     have:Nat.beq j i=false:=by
      cases hbj:Nat.beq j i with
      |false=>rfl
      |true=>exact absurd (Nat.eq_of_beq_eq_true hbj) hji
     rw[this,Bool.false_or];have h1:bF j ((cM l l.length).getD i [])=false:=by
      cases h1:bF j ((cM l l.length).getD i []) with
      |false=>rfl
      |true=>have:=aOz hb i hil j h1;omega
     cases h2:bF i ((cM l l.length).getD j []) with
     |true=>exact hno j (hesl j e' hj) h2
     | false=>
      have:=(H2 i j e e' (Ne.symm hji) he hj h1 h2 q hk).2;rw[hq] at this;cases this
    | false=>
     rw[aSo hq];refine aSf ho ho (λj e' hj hk=>?_) rfl;rw[Nat.zero_add];have hji:j≠i:=λe0=>by subst e0;rw[he] at hj;cases hj;rw[hq] at hk;cases hk
     have:Nat.beq j i=false:=by
      cases hbj:Nat.beq j i with
      |false=>rfl
      |true=>exact absurd (Nat.eq_of_beq_eq_true hbj) hji
     rw[this,Bool.false_or]
   have e1:(λq=>ρ2.av (lk ((stD D 0 l es S).app o.dst e).env q))=λq=>ρ2.av (lk (stD (λj=>Nat.beq j i||D j) 0 l es S).env q):=funext λq=>by rw[henv q]
   unfold VS.at;rw[e1];exact yM (hobj.map _)
  have hdo:=aQa hd o (List.mem_of_getElem? hi');have run:lT P n o (stD D 0 l es S) e->Step P n o ((stD D 0 l es S).at ρ') (λs=>∃st3,(∃ρ'':Rho,ρ''.β=β/\st3=(stD (λj=>Nat.beq j i||D j) 0 l es S).at ρ'')/\Ent s st3):=λhs=>
   gR (hs _ ⟨λ_ _=>rfl,λ_ _=>rfl⟩ hfresh ρ') λs ⟨ρ2,h2,hent⟩=>⟨_,⟨ρ2,h2.trans hβ,rfl⟩,hent.trans (after ρ2)⟩
  have skip:e=.p (.tup [])->∀d,o.dst=some d->∃st3,(∃ρ'':Rho,ρ''.β=β/\st3=(stD (λj=>Nat.beq j i||D j) 0 l es S).at ρ'')/\Ent (((stD D 0 l es S).at ρ').set d (.tup [])) st3:=λhep d hdst=>by
   refine⟨_,⟨ρ',hβ,rfl⟩,?_⟩;have a:=after ρ';have e2:((stD D 0 l es S).at ρ').set d (.tup [])=((stD D 0 l es S).app o.dst e).at ρ':=by
    rw[hep,hdst];exact wN _ d (.tup [])
   rw[e2];exact a
  unfold yH at hg';split at hg'
  ·rename_i hgd
   exact .inl ⟨λ_ _ _ _ _ _=>by simp[Region.wanted,hgd],run hg'⟩
  ·rename_i j g hgd
   obtain⟨s,hs,hsn,hg'⟩:=hg';have hj:(l.toArray[j]?).bind (·.dst)=some s:=by simpa using hs
   rcases hg' with⟨c,hc,⟨hcg,h⟩|⟨hcg,hep,d,hdst,hdn⟩⟩|⟨hc,hep,d,hdst,hdn⟩
   ·subst hcg;exact .inl ⟨λA M w0 a w hR=>by simp[Region.wanted,hgd,uE hR hj hsn (xC hc)],run h⟩
   ·exact .inr ⟨λA M w0 a w hR=>by simp[Region.wanted,hgd,uE hR hj hsn (xC hc),hcg],d,hdst,hdn,skip hep d hdst⟩
   ·refine .inr ⟨λA M w0 a w hR=>?_,d,hdst,hdn,skip hep d hdst⟩;have h:=hR.env s;rw[xC hc] at h;have hlt:s<a.tmps.size:=by rw[hR.size];exact hsn
    rw[Array.getD_eq_getD_getElem?,Array.getElem?_eq_getElem hlt,Option.getD_some] at h;have hy:yielded l.toArray a.tmps j=none:=by
     simp only[yielded,hj,Option.bind_some,Array.getElem?_eq_getElem hlt]
     generalize a.tmps[s]=u at h
     cases h;rfl
    simp[Region.wanted,hgd,hy]
 ·rintro st' ⟨ρ',hβ,rfl⟩;rw[List.drop_length];refine bQs ⟨rfl,ρ',hβ,?_⟩;rw[hS1];exact Ent.refl _
end Go.Am
end
