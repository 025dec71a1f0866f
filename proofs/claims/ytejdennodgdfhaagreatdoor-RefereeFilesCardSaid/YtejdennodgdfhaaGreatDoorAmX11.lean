/- Walks by reckoning: code, and regions whose order is open. -/
import Derived.Test.YtejdennodgdfhaaGreatDoorAmX10
namespace Go.Am
def hdD:D->List Nat
 | .hv _ h _=>[h]
 |_=>[]
def hd0:AV->List Nat
 | .d x=>hdD x
 | .agg xs=>xs.flatMap hdD
 | .bp h _ _=>[h]
 | .ep v _ _ _=>match v with
  | .map (some h)=>[h]
  |_=>[]
 |_=>[]
def hd1:AV->List Nat
 | .tup vs=>vs.flatMap hd0
 | .fn _ vs=>vs.flatMap hd0
 | .mf _ vs=>vs.flatMap hd0
 |x=>hd0 x
def hdA:AV->List Nat
 | .tup vs=>vs.flatMap hd1
 | .fn _ vs=>vs.flatMap hd1
 | .mf _ vs=>vs.flatMap hd1
 |x=>hd0 x
theorem zV{α:Type}{p:α->Bool}{f:α->List Nat}{h:Nat}(hp:∀x,p x=true->h∈f x):∀{l:List α},l.any p=true->h∈l.flatMap f
 |[],hl=>by simp at hl
 | x::l,hl=>by
  simp only[List.any_cons,Bool.or_eq_true] at hl;rw[List.flatMap_cons]
  rcases hl with hl|hl
  ·exact List.mem_append.2 (.inl (hp x hl))
  ·exact List.mem_append.2 (.inr (zV hp hl))
theorem bOa{h:Nat}{x:D}(hx:aDd h x=true):h∈hdD x:=by
 cases x with
 |hv q k j=>have:=Nat.eq_of_beq_eq_true (show Nat.beq k h=true from hx);subst this;simp[hdD]
 |_=>simp[aDd] at hx
theorem xB{h:Nat}{x:AV}(hx:tJ h x=true):h∈hd0 x:=by
 cases x with
 |d x=>exact bOa hx
 |agg xs=>exact zV (λx=>bOa (x:=x)) hx
 |bp k o j=>have:=Nat.eq_of_beq_eq_true (show Nat.beq k h=true from hx);subst this;simp[hd0]
 | ep v k i c=>
  cases v with
  | map r=>cases r with
   |none=>simp[tJ] at hx
   |some k=>have:=Nat.eq_of_beq_eq_true (show Nat.beq k h=true from hx);subst this;simp[hd0]
  |_=>simp[tJ] at hx
 |_=>simp[tJ] at hx
theorem bEk{h:Nat}{x:AV}(hx:aLd h x=true):h∈hd1 x:=by
 cases x with
 |tup vs=>exact zV (λx=>xB (x:=x)) hx
 |fn f vs=>exact zV (λx=>xB (x:=x)) hx
 |mf f vs=>exact zV (λx=>xB (x:=x)) hx
 |any=>simp[aLd,tJ] at hx
 |d x=>exact xB (x:=.d x) hx
 |agg x=>exact xB (x:=.agg x) hx
 |cp x=>simp[aLd,tJ] at hx
 |bp b o j=>exact xB (x:=.bp b o j) hx
 |ep v k i c=>exact xB (x:=.ep v k i c) hx
 |fl=>simp[aLd,tJ] at hx
theorem bTi{h:Nat}{x:AV}(hx:nD h x=true):h∈hdA x:=by
 cases x with
 |tup vs=>exact zV (λx=>bEk (x:=x)) hx
 |fn f vs=>exact zV (λx=>bEk (x:=x)) hx
 |mf f vs=>exact zV (λx=>bEk (x:=x)) hx
 |any=>simp[nD,tJ] at hx
 |d x=>exact xB (x:=.d x) hx
 |agg x=>exact xB (x:=.agg x) hx
 |cp x=>simp[nD,tJ] at hx
 |bp b o j=>exact xB (x:=.bp b o j) hx
 |ep v k i c=>exact xB (x:=.ep v k i c) hx
 |fl=>simp[nD,tJ] at hx
def aJx{α:Type}(f:Nat->α->Bool):Nat->List α->Bool
 |_,[]=>true
 |k,x::l=>f k x&&aJx f (k+1) l
theorem aGb{α:Type}{f:Nat->α->Bool}:∀{l:List α} {k i:Nat} {x:α},aJx f k l=true->l[i]?=some x->f (k+i) x=true
 |[],_,_,_,_,h=>by simp at h
 | y::l,k,0,x,h,hx=>by
  simp only[aJx,Bool.and_eq_true] at h
  simp at hx;subst hx;exact h.1
 | y::l,k,i+1,x,h,hx=>by
  simp only[aJx,Bool.and_eq_true] at h;have:=aGb h.2 (i:=i) (by simpa using hx)
  rwa[show k+(i+1)=k+1+i by omega]
def bFp:Option Nat->Option Nat->Bool
 |some a,some b=>Nat.beq a b
 |_,_=>false
def bFr(l:List Oper):Bool:=
 uH l&&aJx (λi o=>aJx (λj o'=>Nat.beq i j||(!(bFp o.dst o'.dst)&&(match o'.dst with
  |some q=>!(bF q (rdO l o))||(bF j ((cM l l.length).getD i [])||bF i ((cM l l.length).getD j []))
  |none=>true))) 0 l) 0 l
def bRl(pr:List (List Nat))(S0:VS)(bs:List Eff):Bool:=
  aJx (λi e=>(e.nw.all λh=>!(kZ h S0))&&aJx (λj e'=>Nat.beq i j||
    ((e'.ch.isEmpty||(bF j (pr.getD i [])||(bF i (pr.getD j [])||(pD e'.ch).all λh=>!(bF h e.us)&&!(bF h (pD e.ch)))))&&
     (e.nw.isEmpty||(bF i (pr.getD j [])||e.nw.all λh=>!(xF h e'))))) 0 bs) 0 bs
def BdX(k0:List Nat)(e b:Eff):Prop:=e=b\/(e.ch=[]/\e.nw=[]/\b.ch=[]/\b.nw=[]/\(∀h∈e.us,bF h b.us=true)/\∀h,nD h e.v=true->bF h k0=true)
def Bds(k0:List Nat):List Eff->List Eff->Prop
 |[],[]=>True
 |e::es,b::bs=>BdX k0 e b/\Bds k0 es bs
 |_,_=>False
theorem Bds.get{k0:List Nat}:∀{es bs:List Eff},Bds k0 es bs->∀{i:Nat} {e:Eff},es[i]?=some e->∃b,bs[i]?=some b/\BdX k0 e b
 |[],[],_,i,e,h=>by simp at h
 |e0::es,b0::bs,h,0,e,he=>by simp at he;subst he;exact⟨b0,rfl,h.1⟩
 | e0::es,b0::bs,h,i+1,e,he=>by
  obtain⟨b,hb,hbd⟩:=h.2.get (i:=i) (by simpa using he);exact⟨b,by simpa using hb,hbd⟩
 |[],_::_,h,_,_,_=>h.elim
 |_::_,[],h,_,_,_=>h.elim
theorem Bds.append{k0:List Nat}:∀{es bs es' bs':List Eff},Bds k0 es bs->Bds k0 es' bs'->Bds k0 (es++es') (bs++bs')
 |[],[],_,_,_,h=>h
 |_::_,_::_,_,_,h,h'=>⟨h.1,h.2.append h'⟩
 |[],_::_,_,_,h,_=>h.elim
 |_::_,[],_,_,h,_=>h.elim
theorem zH{α:Type}{l:List α}(h:l.isEmpty=true):l=[]:=by cases l with|nil=>rfl|cons=>simp at h
theorem bRi[Mode]{P:Program}{n id:Nat}{β:sV}{l:List Oper}{S S1:VS}{es bs:List Eff}(hm:P.follows .mixedOrders=true)(hd:tE n l=true)(hch:qV P n l l S es S1)(ho:eN S.objs)(h1:bFr l=true)(h2:bRl (cM l l.length) S bs=true)
  (hbd:Bds (S.objs.map (·.1)) es bs)(ρ:Rho)(hρ:ρ.β=β):Tr P n (.region id l.toArray true) (S.at ρ) λe st=>e=.normal/\∃ρ':Rho,ρ'.β=β/\Ent st (S1.at ρ'):=by
 simp only[bFr,Bool.and_eq_true] at h1;have pair:∀(i j:Nat) (o o':Oper),i≠j->l[i]?=some o->l[j]?=some o'->(!(bFp o.dst o'.dst)&&(match o'.dst with|some q=>!(bF q (rdO l o))||(bF j ((cM l l.length).getD i [])||bF i ((cM l l.length).getD j []))|none=>true))=true:=λi j o o' hij hi hj=>by
  have a:=aGb h1.2 hi;simp only[Nat.zero_add] at a;have a:=aGb a hj;simp only[Nat.zero_add,Bool.or_eq_true (Nat.beq i j)] at a
  rcases a with a|a
  ·exact absurd (Nat.eq_of_beq_eq_true a) hij
  ·exact a
 have n0:∀(i:Nat) (b:Eff),bs[i]?=some b->∀h∈b.nw,kZ h S=false:=λi b hb h hh=>by
  have a:=aGb h2 hb;simp only[Bool.and_eq_true] at a
  simpa using List.all_eq_true.1 a.1 h hh
 have pr2:∀(i j:Nat) (b b':Eff),i≠j->bs[i]?=some b->bs[j]?=some b'->((b'.ch.isEmpty||(bF j ((cM l l.length).getD i [])||(bF i ((cM l l.length).getD j [])||(pD b'.ch).all λh=>!(bF h b.us)&&!(bF h (pD b.ch)))))&&(b.nw.isEmpty||(bF i ((cM l l.length).getD j [])||b.nw.all λh=>!(xF h b'))))=true:=λi j b b' hij hi hj=>by
  have a:=aGb h2 hi;simp only[Bool.and_eq_true] at a;have a:=aGb a.2 hj;simp only[Nat.zero_add,Bool.or_eq_true (Nat.beq i j)] at a
  rcases a with a|a
  ·exact absurd (Nat.eq_of_beq_eq_true a) hij
  ·exact a
 refine bRj hm h1.1 hd hch ho (λi j o o' q hij hi hj hq hq'=>?_) (λi j o o' q hij hi hj hr hq=>?_) (λi j e e' hij hi hj hp1 hp2 h hh=>?_) (λi j e e' hij hi hj hp h hh=>?_) (λi e hi h hh=>?_) ρ hρ
 ·have a:=pair i j o o' hij hi hj;rw[hq,hq'] at a
  simp[bFp] at a
 ·have a:=pair i j o o' hij hi hj;rw[hq] at a;simp only[Bool.and_eq_true,Bool.or_eq_true,Bool.not_eq_true',gG.2 hr] at a
  rcases a.2 with a|a
  ·cases a
  ·exact a
 ·obtain⟨b,hb,hbe⟩:=hbd.get hi;obtain⟨b',hb',hbe'⟩:=hbd.get hj;have a:=pr2 i j b b' hij hb hb';have e2:e'=b':=by
   rcases hbe' with h0|⟨h0,_⟩
   ·exact h0
   ·rw[h0] at hh;cases hh
  subst e2;simp only[Bool.and_eq_true,hp1,hp2,Bool.false_or] at a;have a1:=a.1;cases hem:e'.ch.isEmpty with
  |true=>rw[zH hem] at hh;cases hh
  | false=>
   rw[hem,Bool.false_or] at a1;have:=List.all_eq_true.1 a1 h (gG.1 hh);simp only[Bool.and_eq_true,Bool.not_eq_true'] at this
   rcases hbe with rfl|⟨h3,_,_,_,h4,_⟩
   ·exact⟨λhu=>(by rw[gG.2 hu] at this;cases this.1),this.2⟩
   ·refine⟨λhu=>?_,by rw[h3];rfl⟩;rw[h4 h hu] at this;cases this.1
 ·obtain⟨b,hb,hbe⟩:=hbd.get hi;obtain⟨b',hb',hbe'⟩:=hbd.get hj;have e1:e=b:=by
   rcases hbe with h0|⟨_,h0,_⟩
   ·exact h0
   ·rw[h0] at hh;cases hh
  subst e1;have a:=(pr2 i j e b' hij hb hb');simp only[Bool.and_eq_true,hp,Bool.false_or] at a;have a2:=a.2;have hocc:xF h b'=false:=by
   cases hem:e.nw.isEmpty with
   |true=>rw[zH hem] at hh;cases hh
   | false=>
    rw[hem,Bool.false_or] at a2
    simpa using List.all_eq_true.1 a2 h hh
  rcases hbe' with rfl|⟨h3,_,_,_,_,h5⟩
  ·exact hocc
  ·have h0:=n0 i e hb h hh;cases hv:nD h e'.v with
   |false=>simp[xF,hv,h3]
   | true=>
    have hk:=gG.1 (h5 h hv);obtain⟨p,hp1,hp2⟩:=List.mem_map.1 hk;simp only[kZ,Bool.or_eq_false_iff] at h0;have:=List.any_eq_false.1 h0.2 p hp1
    simp[hp2] at this
 ·obtain⟨b,hb,hbe⟩:=hbd.get hi
  rcases hbe with rfl|⟨_,h0,_⟩
  ·exact n0 i e hb h hh
  ·rw[h0] at hh;cases hh
structure JO(c:Bool)(S:VS)(m t:Nat)(ds:List Nat)(A:(VS->Prop)->Prop)(B:VS->Prop):Prop where
 h:c=true/\∃x:Bool,A (GN S m t ds x)/\B ⟨(t,.b x)::pH ds S.env,S.objs⟩
structure ODr(c:Bool)(K:Prop):Prop where
 h:c=true/\K
def aHz(ops:List Oper)(ds:List Nat):List Oper->Bool
 |[]=>true
 |o::l=>(rdO ops o).all (λq=>!(bF q ds))&&aHz ops ds l
def okG(k0 U:List Nat)(b:Eff):Bool:=b.ch.isEmpty&&(b.nw.isEmpty&&(b.us.all (λh=>bF h U)&&(hdA b.v).all λh=>bF h k0))
def bEj(U:List Nat):Nat->List Eff
 |0=>[]
 |m+1=>⟨.any,[],U,[]⟩::bEj U m
section
variable{P:Program}(T:TT P)(n:Nat)(X:XP)(ops:List Oper)(k0:List Nat)
def opO[Mode](cur:List (Nat×Bool))(o:Oper)(S:VS)(K:Eff->VS->Prop):Prop:=match cur,o.op,o.dst with
 | _::_,.pick (.tmp s) x y,some d=>match ckd cur s with
  |some true=>uP S x λe=>pX (some d) e S (K e)
  |some false=>uP S y λe=>pX (some d) e S (K e)
  |none=>xop T n X.ow S o λe=>yS S e.nw (pX o.dst e S (K e))
 |_,_,_=>xop T n X.ow S o λe=>yS S e.nw (pX o.dst e S (K e))
def aIu[Mode](cur:List (Nat×Bool))(o:Oper)(S:VS)(K:Eff->VS->Prop):Prop:=
 bif (ckd cur (o.dst.getD 0)).isSome then False else opO T n X cur o S λe S=>bif e.nw.all (λh=>!(bF h k0)) then K e S else False
abbrev RO:=Nat->Nat->Nat->List (Nat×Bool)->VS->List Eff->(List Eff->VS->Prop)->Prop
def bFj [Mode](o:Oper)(l:List Oper)(ih:RO):RO:=λi sk lim cur S acc K=>match sk,lim with
 |sk+1,lim=>ih (i+1) sk lim cur S acc K
 |0,0=>K acc S
 | 0, lim +1=>match o.guard with
  |none=>aIu T n X k0 cur o S λe S=>ih (i+1) 0 lim cur S (acc++[e]) K
  | some (j,g)=>match aIa ops j with
   | some s=>bif Nat.ble (s+1) n then(match ckd cur s with
    |some c=>bif (bif g then c else !c) then aIu T n X k0 cur o S λe S=>ih (i+1) 0 lim cur S (acc++[e]) K else sQ cur o S λS=>ih (i+1) 0 lim cur S (acc++[.p (.tup [])]) K
    | none=>match lk S.env s with
     | .d (.lit (.bool c))=>bif aJz X (eA i j (o::l)) (o::l) then
       OB c λc=>bif (bif g then c else !c) then aIu T n X k0 ((s,c)::cur) o S λe S=>ih (i+1) 0 lim ((s,c)::cur) S (acc++[e]) K else sQ ((s,c)::cur) o S λS=>ih (i+1) 0 lim ((s,c)::cur) S (acc++[.p (.tup [])]) K
      else bif Nat.ble (eA i j l+2) (lim+1)&&aMi (((eY (eA i j l+2) (o::l)).getLast?).getD 0) (eY (eA i j l+1) (o::l)) cur then
       JO (aHz ops (eY (eA i j l+1) (o::l)) (l.drop (eA i j l+1))) S (eA i j l+2) (((eY (eA i j l+2) (o::l)).getLast?).getD 0) (eY (eA i j l+1) (o::l))
        (λN=>OB c λc=>bif (bif g then c else !c) then aIu T n X k0 ((s,c)::cur) o S λe S'=>ih (i+1) 0 (eA i j l+1) ((s,c)::cur) S' [e] λbs S'=>bs.all (okG k0 (S.objs.map (·.1)))=true/\N S'
         else sQ ((s,c)::cur) o S λS'=>ih (i+1) 0 (eA i j l+1) ((s,c)::cur) S' [.p (.tup [])] λbs S'=>bs.all (okG k0 (S.objs.map (·.1)))=true/\N S')
        (λS'=>ih (i+1) (eA i j l+1) (lim-(eA i j l+1)) cur S' (acc++bEj (S.objs.map (·.1)) (eA i j l+2)) K)
      else False
     | .tup []=>sQ cur o S λS=>ih (i+1) 0 lim cur S (acc++[.p (.tup [])]) K
     |_=>False) else False
   |none=>False
def aPb[Mode](l:List Oper):RO:=List.rec (motive:=λ_=>RO) (λ_ _ _ _ S acc K=>K acc S) (λo l ih=>bFj T n X ops k0 o l ih) l
end
section
variable{P:Program}{T:TT P}{n:Nat}{X:XP}{ops:List Oper}{k0:List Nat}
theorem bTt[Mode]{cur:List (Nat×Bool)}{o:Oper}{S:VS}{K:Eff->VS->Prop}(hc:jX cur S)(hd:∀d,o.dst=some d->d<n)(h:opO T n X cur o S K):cS P n o S λe=>yS S e.nw (pX o.dst e S (K e)):=by
 unfold opO at h;split at h
 ·rename_i p cl s x y d hop hdst
  have hs:∀b,ckd (p::cl) s=some b->lk S.env s=.b b:=λb=>hc s b;obtain⟨dst,op,ty,pos,af,gd⟩:=o;simp only at hop hdst;subst hop;subst hdst;split at h
  ·rename_i hb
   have hv:S.ev (.tmp s)=.d (.lit (.bool true)):=hs _ hb;exact aGx (K:=λe=>yS S e.nw (pX (some d) e S (K e))) (hd d rfl) (by
    unfold aJa;rw[hv];refine⟨?_⟩;simp only;unfold uP at h|-;cases hk:cJ x with
    |false=>rw[hk] at h;exact h
    | true=>
     rw[hk] at h;simp only[cond_true] at h|-;have:=vC (K:=λv=>pX (some d) (.p v) S (K (.p v))) h
     generalize S.ev x=v at this
     unfold frc;split<;>first|exact this|(unfold aHs;split<;>exact this))
  ·rename_i hb
   have hv:S.ev (.tmp s)=.d (.lit (.bool false)):=hs _ hb;exact aGx (K:=λe=>yS S e.nw (pX (some d) e S (K e))) (hd d rfl) (by
    unfold aJa;rw[hv];refine⟨?_⟩;simp only;unfold uP at h|-;cases hk:cJ y with
    |false=>rw[hk] at h;exact h
    | true=>
     rw[hk] at h;simp only[cond_true] at h|-;have:=vC (K:=λv=>pX (some d) (.p v) S (K (.p v))) h
     generalize S.ev y=v at this
     unfold frc;split<;>first|exact this|(unfold aHs;split<;>exact this))
  ·exact aWq hd h
 ·exact aWq hd h
theorem bOw{cur:List (Nat×Bool)}{S:VS}{o:Oper}{e:Eff}(hc:jX cur S)(hs:(ckd cur (o.dst.getD 0)).isSome=false):jX cur (S.app o.dst e):=λs b hb=>by
 rw[uR];cases hdst:o.dst with
 |none=>exact hc s b hb
 | some d=>
  cases hds:Nat.beq d s with
  | true=>
   have:=Nat.eq_of_beq_eq_true hds;subst this;rw[hdst] at hs;simp only[Option.getD_some,hb,Option.isSome_some] at hs;cases hs
  |false=>simp only[hds,cond_false];exact hc s b hb
theorem bDg[Mode]{cur:List (Nat×Bool)}{o:Oper}{S:VS}{K:Eff->VS->Prop}(hc:jX cur S)(hd:∀d,o.dst=some d->d<n)(h:aIu T n X k0 cur o S K):
  ∃e,lT P n o S e/\(∀h∈e.nw,kZ h S=false/\Nat.ble 100000 h=false)/\(∀h∈e.nw,bF h k0=false)/\K e (S.app o.dst e)/\jX cur (S.app o.dst e):=by
 unfold aIu at h;obtain⟨hs,h⟩:=cnf h;obtain⟨e,hK,hS⟩:=(bTt hc hd h).h;obtain⟨h1,h2⟩:=aZd hK;have h1:=bGg h1;obtain⟨h3,h1⟩:=gD h1;exact⟨e,hS,h2,λk hk=>by simpa using List.all_eq_true.1 h3 k hk,h1,bOw hc hs⟩
def Sub(A B:VS):Prop:=A.objs=B.objs/\∀k,lk B.env k=.any\/lk A.env k=lk B.env k
theorem Sub.lev[Mode]{β:sV}{A B:VS}(h:Sub A B):LeV β A B:=λρ hρ=>⟨ρ,hρ,by
 have:Ent ⟨λk=>ρ.av (lk A.env k),A.objs.map λp=>ρ.mo p.1 p.2⟩ ⟨λk=>ρ.av (lk B.env k),A.objs.map λp=>ρ.mo p.1 p.2⟩:=aMf λk=>by
  rcases h.2 k with h|h
  ·left;rw[h];rfl
  ·right;rw[h]
 unfold VS.at;rw[<-h.1];exact this⟩
theorem Sub.trans{A B C:VS}(h:Sub A B)(h2:Sub B C):Sub A C:=⟨h.1.trans h2.1,λk=>by
 rcases h2.2 k with h3|h3
 ·exact .inl h3
 ·rcases h.2 k with h4|h4
  ·exact .inl (h3.symm.trans h4)
  ·exact .inr (h4.trans h3)⟩
theorem Sub.refl(A:VS):Sub A A:=⟨rfl,λ_=>.inr rfl⟩
structure Dif(k0 ds:List Nat)(A B:VS):Prop where
 ob:A.objs=B.objs
 off:∀k,bF k ds=false->lk A.env k=lk B.env k
 sub:∀k,lk B.env k=.any\/lk A.env k=lk B.env k
 occ:∀h,bF h k0=false->B.env.any (λp=>nD h p.2)=false->A.env.any (λp=>nD h p.2)=false
theorem bPa{ds:List Nat}{A B:VS}(h:Dif k0 ds A B)(dst:Option Nat)(e:Eff):Dif k0 ds (A.app dst e) (B.app dst e):=by
 refine⟨by simp only[VS.app,h.ob],λk hk=>?_,λk=>?_,λk hk hB=>?_⟩
 ·rw[uR,uR];cases dst with
  |none=>exact h.off k hk
  |some d=>simp only;rw[h.off k hk]
 ·rw[uR,uR];cases dst with
  |none=>exact h.sub k
  | some d=>
   simp only;cases Nat.beq d k with
   |true=>exact .inr rfl
   |false=>exact h.sub k
 ·cases dst with
  |none=>exact h.occ k hk hB
  | some d=>
   simp only[VS.app,List.any_cons,Bool.or_eq_false_iff] at hB|-;exact⟨hB.1,h.occ k hk hB.2⟩
theorem aUf[Mode]{ds:List Nat}:∀{l:List Oper} {es:List Eff} {A B B':VS},Dif k0 ds A B->aHz ops ds l=true->(∀e∈es,∀h∈e.nw,bF h k0=false)->qV P n ops l B es B'->∃A',qV P n ops l A es A'/\Dif k0 ds A' B'
 |[],[],A,B,B',h,_,_,hc=>⟨A,rfl,by have e:B=B':=hc;subst e;exact h⟩
 | o::l,e::es,A,B,B',h,hr,hn,hc=>by
  obtain⟨h1,h2,h3⟩:=hc;simp only[aHz,Bool.and_eq_true] at hr;obtain⟨A',h4,h5⟩:=aUf (bPa h o.dst e) hr.2 (λe' he=>hn e' (List.mem_cons_of_mem _ he)) h3;refine⟨A',⟨aQl h1 (λk hk=>h.off k ?_) λk _=>by rw[h.ob],λk hk=>⟨?_,(h2 k hk).2⟩,h4⟩,h5⟩
  ·simpa using List.all_eq_true.1 hr.1 k hk
  ·have:=(h2 k hk).1;simp only[kZ,Bool.or_eq_false_iff] at this|-;exact⟨h.occ k (hn e (by simp) k hk) this.1,by rw[h.ob];exact this.2⟩
 |[],_::_,_,_,_,_,_,_,hc=>hc.elim
 |_::_,[],_,_,_,_,_,_,hc=>hc.elim
theorem aKg[Mode]:∀{l l2:List Oper} {es es2:List Eff} {S S1 S2:VS},qV P n ops l S es S1->qV P n ops l2 S1 es2 S2->qV P n ops (l++l2) S (es++es2) S2
 |[],l2,[],es2,S,S1,S2,h,h2=>by have e:S=S1:=h;subst e;exact h2
 |o::l,l2,e::es,es2,S,S1,S2,h,h2=>⟨h.1,h.2.1,aKg h.2.2 h2⟩
 |[],_,_::_,_,_,_,_,h,_=>h.elim
 |_::_,_,[],_,_,_,_,h,_=>h.elim
theorem aXn[Mode]{k:Nat}:∀{l:List Oper} {es:List Eff} {S S1:VS},(∀o∈l,o.dst≠some k)->qV P n ops l S es S1->lk S1.env k=lk S.env k
 |[],[],S,S1,_,h=>by have e:S=S1:=h;subst e;rfl
 | o ::l,e::es,S,S1,hd,h=>by
  rw[aXn (λo' ho=>hd o' (List.mem_cons_of_mem _ ho)) h.2.2,uR];have:=hd o (by simp);cases hdst:o.dst with
  |none=>rfl
  | some d=>
   have:Nat.beq d k=false:=by
    cases hb:Nat.beq d k with
    |false=>rfl
    |true=>have:=Nat.eq_of_beq_eq_true hb;subst this;exact absurd hdst (by assumption)
   simp only[this,cond_false]
 |[],_::_,_,_,_,h=>h.elim
 |_::_,[],_,_,_,h=>h.elim
theorem aUi[Mode]{k:Nat}:∀{l:List Oper} {es:List Eff} {S S1:VS},(∀e∈es,nD k e.v=false)->S.env.any (λp=>nD k p.2)=false->qV P n ops l S es S1->S1.env.any (λp=>nD k p.2)=false
 |[],[],S,S1,_,ho,h=>by have e:S=S1:=h;subst e;exact ho
 | o::l,e::es,S,S1,hd,ho,h=>by
  refine aUi (λe' he=>hd e' (List.mem_cons_of_mem _ he)) ?_ h.2.2;cases hdst:o.dst with
  |none=>exact ho
  |some d=>simp only[VS.app,List.any_cons,Bool.or_eq_false_iff];exact⟨hd e (by simp),ho⟩
 |[],_::_,_,_,_,_,h=>h.elim
 |_::_,[],_,_,_,_,h=>h.elim
theorem aQb{k:Nat}:∀{m:Nat} {l:List Oper},bF k (eY (m+1) l)=true->bF k (eY m l)=true\/(eY (m+1) l).getLast?.getD 0=k
 |_,[],h=>by simp[eY,bF] at h
 | 0,o::l,h=>by
  right
  have:eY 1 (o::l)=[o.dst.getD 0]:=by cases l<;>rfl
  rw[this] at h|-;simp only[bF] at h;cases hb:Nat.beq (o.dst.getD 0) k with
  |true=>simpa using Nat.eq_of_beq_eq_true hb
  |false=>rw[hb] at h;cases h
 | m +1,o::l,h=>by
  have e:eY (m+1+1) (o::l)=o.dst.getD 0::eY (m+1) l:=rfl;have e2:eY (m+1) (o::l)=o.dst.getD 0::eY m l:=rfl;rw[e] at h|-;rw[e2];simp only[bF] at h|-;cases hb:Nat.beq (o.dst.getD 0) k with
  |true=>left;rfl
  | false=>
   rw[hb] at h;simp only[cond_false] at h|-
   rcases aQb h with h1|h1
   ·exact .inl h1
   ·right
    rw[List.getLast?_cons];cases hx:eY (m+1) l with
    |nil=>rw[hx] at h;cases h
    |cons a x=>rw[hx] at h1;simpa[List.getLast?_cons] using h1
theorem aQc{k:Nat}:∀{m:Nat} {l:List Oper},bF k (eY m l)=false->∀o∈l.take m,o.dst≠some k
 |0,_,_,o,h=>by simp at h
 |_+1,[],_,o,h=>by simp at h
 | m+1,x::l,hm,o,h=>by
  simp only[eY,bF] at hm;cases hb:Nat.beq (x.dst.getD 0) k with
  |true=>rw[hb] at hm;cases hm
  | false=>
   rw[hb] at hm;rw[List.take_succ_cons] at h
   rcases List.mem_cons.1 h with rfl|h
   ·intro e;rw[e] at hb;simp at hb
   ·exact aQc (by simpa using hm) o h
theorem aVb{ds:List Nat}:∀{m:Nat} {l:List Oper},aHz ops ds l=true->aHz ops ds (l.take m)=true
 |0,_,_=>by simp[aHz]
 |_+1,[],_=>by simp[aHz]
 | m+1,x::l,h=>by
  simp only[aHz,Bool.and_eq_true,List.take_succ_cons] at h|-;exact⟨h.1,aVb h.2⟩
theorem bRx{U:List Nat}{e b:Eff}(h:okG k0 U b=true)(hb:BdX k0 e b):BdX k0 e ⟨.any,[],U,[]⟩/\e.nw=[]/\∀k,bF k k0=false->nD k e.v=false:=by
 simp only[okG,Bool.and_eq_true] at h;obtain⟨h1,h2,h3,h4⟩:=h;have h1:=zH h1;have h2:=zH h2;have hU:∀h∈b.us,bF h U=true:=λk hk=>List.all_eq_true.1 h3 k hk;have fin:e.ch=[]->e.nw=[]->(∀h∈e.us,bF h U=true)->(∀h,nD h e.v=true->bF h k0=true)->BdX k0 e ⟨.any,[],U,[]⟩/\e.nw=[]/\∀k,bF k k0=false->nD k e.v=false:=λa b c d=>
  ⟨.inr ⟨a,b,rfl,rfl,c,d⟩,b,λk hk=>by
   cases ho:nD k e.v with
   |false=>rfl
   |true=>rw[d k ho] at hk;cases hk⟩
 rcases hb with rfl|⟨a1,a2,_,_,a3,a4⟩
 ·exact fin h1 h2 hU λk hk=>List.all_eq_true.1 h4 k (bTi hk)
 ·exact fin a1 a2 (λk hk=>hU k (gG.1 (a3 k hk))) a4
theorem bCg{U:List Nat}:∀{es bs:List Eff},Bds k0 es bs->bs.all (okG k0 U)=true->Bds k0 es (bEj U es.length)/\(∀e∈es,e.nw=[]/\∀k,bF k k0=false->nD k e.v=false)
 |[],[],_,_=>⟨trivial,by simp⟩
 | e::es,b::bs,h,hb=>by
  simp only[List.all_cons,Bool.and_eq_true] at hb;obtain⟨h1,h2,h3⟩:=bRx hb.1 h.1;obtain⟨h4,h5⟩:=bCg h.2 hb.2;refine⟨⟨h1,h4⟩,λe' he=>?_⟩
  rcases List.mem_cons.1 he with rfl|he
  ·exact⟨h2,h3⟩
  ·exact h5 e' he
 |[],_::_,h,_=>h.elim
 |_::_,[],h,_=>h.elim
theorem aUh[Mode]:∀{l:List Oper} {es:List Eff} {S S1:VS},qV P n ops l S es S1->es.length=l.length
 |[],[],_,_,_=>rfl
 |o::l,e::es,S,S1,h=>by simp[aUh h.2.2]
 |[],_::_,_,_,h=>h.elim
 |_::_,[],_,_,h=>h.elim
theorem aXg{h:Nat}:∀{ds:List Nat} {l:List (Nat×AV)},(pH ds l).any (λp=>nD h p.2)=l.any λp=>nD h p.2
 |[],_=>rfl
 |d::ds,l=>by simp only[pH,List.any_cons,aXg (ds:=ds)];simp[nD,tJ]
theorem aNo{k:Nat}:∀{ds:List Nat} {l:List (Nat×AV)},bF k ds=false->lk (pH ds l) k=lk l k
 |[],_,_=>rfl
 | d::ds,l,h=>by
  simp only[bF] at h;cases hb:Nat.beq d k with
  |true=>rw[hb] at h;cases h
  |false=>rw[hb] at h;simp only[pH,lk,hb,cond_false];exact aNo (by simpa using h)
def bDr[Mode](P:Program)(n:Nat)(ops:List Oper)(k0:List Nat)(l:List Oper)(S:VS)(acc:List Eff)(K:List Eff->VS->Prop):Prop:=
 ∃(es bs:List Eff) (A S':VS),qV P n ops l S es A/\Bds k0 es bs/\(∀e∈es,∀h∈e.nw,bF h k0=false)/\Sub A S'/\K (acc++bs) S'
theorem aRt [Mode]:∀{l:List Oper} {i sk lim:Nat} {cur:List (Nat×Bool)} {S:VS} {acc:List Eff} {K:List Eff->VS->Prop},tE n l=true->jX cur S->sk+lim<=l.length->aPb T n X ops k0 l i sk lim cur S acc K->bDr P n ops k0 ((l.drop sk).take lim) S acc K
 | [],i,sk,lim,cur,S,acc,K,_,_,hle,h=>by
  refine⟨[],[],S,S,?_,trivial,by simp,Sub.refl S,by rw[List.append_nil];exact h⟩
  simp[qV]
 | o::l,i,sk+1,lim,cur,S,acc,K,hd,hc,hle,h=>by
  have hdl:tE n l=true:=by simp only[tE,Bool.and_eq_true] at hd;exact hd.2
  rw[List.drop_succ_cons];exact aRt hdl hc (by simp at hle;omega) h
 |o::l,i,0,0,cur,S,acc,K,_,_,hle,h=>⟨[],[],S,S,rfl,trivial,by simp,Sub.refl S,by rw[List.append_nil];exact h⟩
 | o :: l, i, 0,lim+1,cur,S,acc,K,hd,hc,hle,h=>by
  have hdo:=aQa hd o (by simp);have hdl:tE n l=true:=by simp only[tE,Bool.and_eq_true] at hd;exact hd.2
  have hle':lim<=l.length:=by simp at hle;omega
  have fin:∀{cur:List (Nat×Bool)} {lim:Nat} {acc:List Eff} {N:List Eff->VS->Prop} {e:Eff},lim<=l.length->yH P n ops o S e->(∀h∈e.nw,kZ h S=false/\Nat.ble 100000 h=false)->(∀h∈e.nw,bF h k0=false)->jX cur (S.app o.dst e)->
    aPb T n X ops k0 l (i+1) 0 lim cur (S.app o.dst e) (acc++[e]) N->bDr P n ops k0 ((o::l).take (lim+1)) S acc N:=by
   intro cur lim acc N e hl hg hn hn0 hc h;obtain⟨es,bs,A,S',h1,h2,h3,h4,h5⟩:=aRt hdl hc (by omega) h;refine⟨e::es,e::bs,A,S',?_,⟨.inl rfl,h2⟩,λe' he=>?_,h4,by simpa using h5⟩
   ·rw[List.take_succ_cons];exact⟨hg,hn,by simpa using h1⟩
   ·rcases List.mem_cons.1 he with rfl|he
    ·exact hn0
    ·exact h3 e' he
  simp only[List.drop_zero]
  change bFj T n X ops k0 o l (aPb T n X ops k0 l) i 0 (lim+1) cur S acc K at h
  simp only[bFj] at h;cases hg:o.guard with
  | none=>
   rw[hg] at h;obtain⟨e,h1,h2,h3,h4,h5⟩:=bDg hc hdo h;exact fin hle' (by unfold yH;rw[hg];exact h1) h2 h3 h5 h4
  | some p =>
   obtain⟨j,g⟩:=p;rw[hg] at h;simp only at h;split at h
   ·rename_i s hs
    rw [aOw] at hs;obtain⟨hsn,h⟩:=gD h;have hsn:=Nat.le_of_ble_eq_true hsn;have skip:∀{cur:List (Nat×Bool)} {lim:Nat} {acc:List Eff} {N:List Eff->VS->Prop},jX cur S->lim<=l.length->(∀d,o.dst=some d->d<n->yH P n ops o S (.p (.tup [])))->
      sQ cur o S (λS=>aPb T n X ops k0 l (i+1) 0 lim cur S (acc++[.p (.tup [])]) N)->bDr P n ops k0 ((o::l).take (lim+1)) S acc N:=by
     intro cur lim acc N hc hl hG hp;obtain⟨d,ho,hr,hc'⟩:=bCr hc hp;have e:S.app o.dst (.p (.tup []))=⟨(d,.tup [])::S.env,S.objs⟩:=by rw[ho];rfl
     exact fin hl (hG d ho (hdo d ho)) (by simp) (by simp) (e▸hc') (e▸hr)
    have ask:∀{cur:List (Nat×Bool)} {lim:Nat} {acc:List Eff} {N:List Eff->VS->Prop} {c:Bool},jX cur S->lim<=l.length->lk S.env s=.b c->
      (bif (bif g then c else !c) then aIu T n X k0 cur o S (λe S=>aPb T n X ops k0 l (i+1) 0 lim cur S (acc++[e]) N) else sQ cur o S (λS=>aPb T n X ops k0 l (i+1) 0 lim cur S (acc++[.p (.tup [])]) N))->bDr P n ops k0 ((o::l).take (lim+1)) S acc N:=by
     intro cur lim acc N c hc hl hlk h;cases hcg:(bif g then c else !c) with
     | true=>
      rw[hcg] at h;obtain⟨e,h1,h2,h3,h4,h5⟩:=bDg hc hdo h;refine fin hl ?_ h2 h3 h5 h4;unfold yH;rw[hg];exact⟨s,hs,hsn,.inl ⟨c,hlk,.inl ⟨by cases g<;>cases c<;>simp_all,h1⟩⟩⟩
     | false=>
      rw[hcg] at h;refine skip hc hl (λd ho hdn=>?_) h;unfold yH;rw[hg];exact⟨s,hs,hsn,.inl ⟨c,hlk,.inr ⟨by cases g<;>cases c<;>simp_all,rfl,d,ho,hdn⟩⟩⟩
    split at h
    ·rename_i c hcc
     exact ask hc hle' (hc s c hcc) h
    ·split at h
     ·rename_i c hlk
      cases he:aJz X (eA i j (o::l)) (o::l) with
      | true=>
       rw[he] at h;simp only[cond_true] at h;exact ask (aBv hc hlk) hle' hlk (aTe h)
      | false =>
       rw[he] at h;simp only[cond_false] at h;obtain⟨hb,h⟩:=gD h;simp only[Bool.and_eq_true] at hb;obtain⟨hb1,hb2⟩:=hb;have hm:=Nat.le_of_ble_eq_true hb1;obtain⟨hb3,x,hA,hB⟩:=h.h;have hA:=aTe hA;have hA:=ask (acc:=[]) (aBv hc hlk) (by omega) hlk hA;obtain⟨es1,bs1,A1,S1,a1,a2,a3,a4,a5,a6⟩:=hA;obtain⟨es2,bs2,B2,S2,b1,b2,b3,b4,b5⟩:=aRt hdl (aPz hc hb2) (by omega) hB;simp only[List.nil_append] at a5;obtain⟨c1,c2⟩:=bCg a2 a5;have hlen:es1.length=eA i j l+2:=by rw[aUh a1,List.length_take,List.length_cons];omega
       rw[hlen] at c1;have off:∀k,bF k (eY (eA i j l+2) (o::l))=false->lk A1.env k=lk S.env k:=λk hk=>aXn (aQc hk) a1;have hobj:A1.objs=S.objs:=a4.1.trans a6.2.2.2;have htx:lk A1.env (((eY (eA i j l+2) (o::l)).getLast?).getD 0)=.b x:=by
        rcases a4.2 (((eY (eA i j l+2) (o::l)).getLast?).getD 0) with h|h
        ·rw[a6.2.2.1] at h;cases h
        ·rw[h,a6.2.2.1]
       have hdif:Dif k0 (eY (eA i j l+1) (o::l)) A1 ⟨((((eY (eA i j l+2) (o::l)).getLast?).getD 0),.b x)::pH (eY (eA i j l+1) (o::l)) S.env,S.objs⟩:=by
        have key:∀k,bF k (eY (eA i j l+1) (o::l))=false->lk A1.env k=lk (((((eY (eA i j l+2) (o::l)).getLast?).getD 0),.b x)::pH (eY (eA i j l+1) (o::l)) S.env) k:=by
         intro k hk;simp only[lk];cases hb:Nat.beq (((eY (eA i j l+2) (o::l)).getLast?).getD 0) k with
         |true=>have:=Nat.eq_of_beq_eq_true hb;subst this;exact htx
         | false=>
          simp only[cond_false];rw[aNo hk];refine off k ?_;cases hx:bF k (eY (eA i j l+2) (o::l)) with
          |false=>rfl
          | true=>
           rcases aQb hx with h|h
           ·rw[hk] at h;cases h
           ·rw[h] at hb;simp at hb
        refine⟨hobj,key,λk=>?_,λk hk hB=>?_⟩
        ·cases hk:bF k (eY (eA i j l+1) (o::l)) with
         |false=>exact .inr (key k hk)
         | true=>
          cases hb:Nat.beq (((eY (eA i j l+2) (o::l)).getLast?).getD 0) k with
          |true=>have:=Nat.eq_of_beq_eq_true hb;subst this;right;simp only[lk,Nat.beq_refl,cond_true];exact htx
          | false=>
           simp only[lk,hb,cond_false];have:∀{ds:List Nat} {l:List (Nat×AV)},bF k ds=true->lk (pH ds l) k=.any:=by
            intro ds
            induction ds with
            |nil=>intro l h;cases h
            | cons d ds ih=>
             intro l h;simp only[bF] at h;simp only[pH,lk];cases hb:Nat.beq d k with
             |true=>rfl
             |false=>rw[hb] at h;exact ih (by simpa using h)
           exact .inl (this hk)
        ·refine aUi (λe he=>(c2 e he).2 k hk) ?_ a1;simp only[List.any_cons,aXg,Bool.or_eq_false_iff] at hB;exact hB.2
       obtain⟨A',d1,d2⟩:=aUf hdif (aVb hb3) b3 b1;refine⟨es1++es2,bEj (S.objs.map (·.1)) (eA i j l+2)++bs2,A',S2,?_,c1.append b2,λe he=>?_,(Sub.trans ⟨d2.ob,d2.sub⟩ b4),by simpa using b5⟩
       ·have e1:(o::l).take (lim+1)=(o::l).take (eA i j l+1+1)++(l.drop (eA i j l+1)).take (lim-(eA i j l+1)):=by
         rw[List.take_succ_cons,List.take_succ_cons,List.cons_append,<-List.take_add,show eA i j l+1+(lim-(eA i j l+1))=lim by omega]
        rw[e1];exact aKg a1 d1
       ·rcases List.mem_append.1 he with he|he
        ·rw[(c2 e he).1];simp
        ·exact b3 e he
     ·rename_i hlk
      refine skip hc hle' (λd ho hdn=>?_) h;unfold yH;rw[hg];exact⟨s,hs,hsn,.inr ⟨hlk,rfl,d,ho,hdn⟩⟩
     ·exact h.elim
   ·exact h.elim
end
def aPm:List (Nat×VO)->Bool
 |[]=>true
 |p::l=>(!(bF p.1 (l.map (·.1))))&&aPm l
theorem aXh:∀{l:List (Nat×VO)},aPm l=true->eN l
 |[],_=>List.nodup_nil
 | p::l,h=>by
  simp only[aPm,Bool.and_eq_true,Bool.not_eq_true'] at h;refine List.nodup_cons.2 ⟨λhm=>?_,aXh h.2⟩;rw[gG.2 hm] at h;cases h.1
def yT:Code->Bool
 | .exit _=>false| .ret=>false| .goto _=>false| .refuse _=>false| .loop _=>false
 | .seq a b=>yT a&&yT b
 | .cond _ a b=>yT a||yT b
 | .block _ _=>true
 | .scope c=>yT c
 |_=>true
def tZ:Code->Bool
 | .exit _=>true| .ret=>true| .goto _=>true| .refuse _=>true
 | .seq a b=>tZ a||tZ b
 | .cond _ a b=>tZ a||tZ b
 | .block _ c=>tZ c
 | .loop c=>tZ c
 | .scope c=>tZ c
 | .rangeFunc .. =>true
 |_=>false
def bOc:Code->Bool
 | .cond _ a b=>(yT a&&yT b)&&!(tZ a||tZ b)
 |_=>false
structure JN(S:VS)(A B:VS->Prop):Prop where
 h:∃mid,A mid/\B mid
structure OLp[Mode]{P:Program}(T:TT P)(n:Nat)(β:sV)(X:XP)(c:Code)(S:VS)(Q:Exit->VS->Prop):Prop where
 h:TrV P n β (.loop c) S Q
section
variable{P:Program}(T:TT P)(n:Nat)(β:sV)(X:XP)
def aZv[Mode](ops:Array Oper)(draw:Bool)(S:VS)(Q:Exit->VS->Prop):Prop:=bif draw then ODr (tE n ops.toList&&(bFr ops.toList&&aPm S.objs)) (aPb T n X ops.toList (S.objs.map (·.1)) ops.toList 0 0 ops.toList.length [] S [] λbs S'=>bRl (cM ops.toList ops.toList.length) S bs=true/\Q .normal S') else bif tE n ops.toList then aIp T n β X ops.toList ops.toList 0 0 ops.toList.length [] S λS=>Q .normal S else False
def rK[Mode]:Code->VS->(Exit->VS->Prop)->Prop
 | .skip,S,Q=>Q .normal S
 | .label _,S,Q=>Q .normal S
 | .ret,S,Q=>Q .ret S
 | .exit id,S,Q=>Q (.exit id) S
 | .region id ops draw,S,Q=>match lkL X.lr id with
  |[]=>aZv T n β X ops draw S Q
  |h::hs=>bLz (h::hs) S λS=>aZv T n β X ops draw S Q
 | .seq x y,S,Q=>bif bOc x then JN S (λmid=>rK x S λe S'=>match e with| .normal=>LeV β S' mid|e=>Q e S') (λmid=>rK y mid Q)
  else rK x S λe S'=>match e with| .normal=>rK y S' Q|e=>Q e S'
 | .cond c x y,S,Q=>match S.ev c with
  | .d (.lit (.bool b))=>OB b λb=>match b with|true=>rK x S Q|false=>rK y S Q
  |_=>False
 | .block id c,S,Q=>rK c S λe S'=>match e with
  | .normal=>Q .normal S'
  | .exit i=>bif Nat.beq i id then Q .normal S' else Q (.exit i) S'
  |e=>Q e S'
 | .scope c,S,Q=>rK c S λe S'=>match e with| .goto _=>False|e=>Q e S'
 | .loop c,S,Q=>OLp T n β X c S Q
 |c,S,Q=>TrV P n β c S Q
end
section
variable{P:Program}{T:TT P}{n:Nat}{β:sV}{X:XP}
theorem aTv[Mode]{c:Code}{S S':VS}{Q:Exit->VS->Prop}(h:LeV β S S')(hc:TrV P n β c S' Q):TrV P n β c S Q:=λρ hρ=>by
 obtain⟨ρ',hβ,he⟩:=h ρ hρ;exact dA he (hc ρ' hβ)
theorem bDm[Mode]{x y:Code}{S:VS}{Q:Exit->VS->Prop}{N:VS->Prop}(h:TrV P n β x S λe S'=>match e with| .normal=>N S'|e=>Q e S')(h2:∀S',N S'->TrV P n β y S' Q):TrV P n β (.seq x y) S Q:=
 λρ hρ=>aO (oU (h ρ hρ) λe st ⟨S',ρ',h1,hq,he⟩=>by
  cases e with
  |normal=>exact dA he (h2 S' hq ρ' h1)
  |_=>exact⟨S',ρ',h1,hq,he⟩)
theorem bIy[Mode]{id:Nat}{ops:Array Oper}{draw:Bool}{S:VS}{Q:Exit->VS->Prop}(h:aZv T n β X ops draw S Q):TrV P n β (.region id ops draw) S Q:=by
 unfold aZv at h;cases draw with
 | true=>
  obtain⟨hb,h⟩:=h.h;simp only[Bool.and_eq_true] at hb;obtain⟨l⟩:=ops;obtain⟨es,bs,A,S',h1,h2,_,h4,h5,h6⟩:=aRt hb.1 (λs b hb=>by cases hb) (by simp) h;simp only[List.drop_zero,List.take_length] at h1;refineλρ hρ=>oU (bRi T.mix hb.1 h1 (aXh hb.2.2) hb.2.1 (by simpa using h5) h2 ρ hρ) ?_;rintro e st ⟨rfl,ρ',hβ,he⟩;obtain⟨ρ'',hβ',he'⟩:=h4.lev ρ' hβ;exact⟨S',ρ'',hβ',h6,he.trans he'⟩
 | false=>
  obtain⟨hd,h⟩:=gD h;obtain⟨l⟩:=ops;have:=aLo (l:=l) (ops:=l) (Q:=Q) hd (λs b hb=>by cases hb) (λS' hS ρ hρ A M w0 a w hR=>by
   rw[show l.drop (0+l.length)=[] by simp];exact wpListIn_nil ⟨_,⟨S',ρ,hρ,hS,Ent.refl _⟩,hR⟩) h
  exactλρ hρ=>aL (this ρ hρ)
theorem rY[Mode]:∀{c:Code} {S:VS} {Q:Exit->VS->Prop},rK T n β X c S Q->TrV P n β c S Q
 | .skip,S,Q,h=>λρ hρ=>bNd ⟨S,ρ,hρ,h,Ent.refl _⟩
 | .label _,S,Q,h=>λρ hρ=>bNb ⟨S,ρ,hρ,h,Ent.refl _⟩
 | .ret,S,Q,h=>λρ hρ=>bP ⟨S,ρ,hρ,h,Ent.refl _⟩
 | .exit id,S,Q,h=>λρ hρ=>dO ⟨S,ρ,hρ,h,Ent.refl _⟩
 | .region id ops draw,S,Q,h=>by
  simp only[rK] at h;split at h
  ·exact bIy h
  ·rename_i k hs _
   have h1:=bIy (id:=id) (bHz (K:=λS=>aZv T n β X ops draw S Q) h);exact aTv (λρ hρ=>⟨ρ,hρ,aYv ρ⟩) h1
 | .seq x y,S,Q,h=>by
  simp only[rK] at h;cases hj:bOc x with
  | true=>
   rw[hj] at h;obtain⟨mid,h1,h2⟩:=h.h;exact bDm (N:=λS'=>LeV β S' mid) (rY h1) λS' hl=>aTv hl (rY h2)
  | false=>
   rw[hj] at h;exact bDm (N:=λS'=>rK T n β X y S' Q) (rY h) λS' hl=>rY hl
 | .cond c x y,S,Q,h=>by
  simp only[rK] at h;split at h
  ·rename_i b hb
   have h:=aTe h;exactλρ hρ=>iY (b:=b) (by rw[aWj,hb];rfl) (λhb=>by subst hb;exact rY h ρ hρ) (λhb=>by subst hb;exact rY h ρ hρ)
  ·exact h.elim
 | .block id c,S,Q,h=>by
  simp only[rK] at h;intro ρ hρ;refine aPe (N:=λst=>∃(S':VS) (ρ':Rho),ρ'.β=β/\Q .normal S'/\Ent st (S'.at ρ')) (oU (rY h ρ hρ) ?_) λ_ h=>h;rintro e st ⟨S',ρ',h1,hq,he⟩;cases e with
  |normal=>exact⟨S',ρ',h1,hq,he⟩
  | exit i=>
   simp only at hq;cases hb:Nat.beq i id with
   | true=>
    rw[hb] at hq;exact .inl ⟨Nat.eq_of_beq_eq_true hb,S',ρ',h1,hq,he⟩
   | false=>
    rw[hb] at hq;exact .inr ⟨λe=>(by subst e;simp at hb),S',ρ',h1,hq,he⟩
  |_=>exact⟨S',ρ',h1,hq,he⟩
 | .scope c,S,Q,h=>by
  simp only[rK] at h;refineλρ hρ=>oU (bNc (Q:=λe st=>∃(S':VS) (ρ':Rho),ρ'.β=β/\(match(generalizing:=false) e with| .goto _=>False|e=>Q e S')/\Ent st (S'.at ρ')) (λl st ⟨S',ρ',_,hq,_⟩=>hq) (rY h ρ hρ)) ?_;rintro e st ⟨S',ρ',h1,hq,he⟩;cases e with
  |goto l=>exact hq.elim
  |_=>exact⟨S',ρ',h1,hq,he⟩
 | .loop c,S,Q,h=>h.h
 | .rangeFunc ..,S,Q,h=>h
 | .goto _,S,Q,h=>h
 | .refuse _,S,Q,h=>h
end
end Go.Am
