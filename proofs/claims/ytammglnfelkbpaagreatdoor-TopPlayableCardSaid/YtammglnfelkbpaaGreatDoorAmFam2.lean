/- Several texts, one behind the other. -/
import Derived.Test.YtammglnfelkbpaaGreatDoorAmX10
import Derived.Test.YtammglnfelkbpaaGreatDoorAmClose
import Derived.Test.YtammglnfelkbpaaGreatDoorAmX3
section
namespace Go.Am
def hdD:D->List Nat
 | .hv _ h _=>[h]
 |_=>[]
def hd0:AV->List Nat
 | .d x=>hdD x
 | .agg xs=>xs.flatMap hdD
 | .bp h _ _=>[h]
 | .ep v _ _ _=>match v with
  | .map (some h)=>[h]
  |_=>[]
 |_=>[]
def hd1:AV->List Nat
 | .tup vs=>vs.flatMap hd0
 | .fn _ vs=>vs.flatMap hd0
 | .mf _ vs=>vs.flatMap hd0
 |x=>hd0 x
def hdA:AV->List Nat
 | .tup vs=>vs.flatMap hd1
 | .fn _ vs=>vs.flatMap hd1
 | .mf _ vs=>vs.flatMap hd1
 |x=>hd0 x
theorem aFl{α:Type}{p:α->Bool}{f:α->List Nat}{h:Nat}(hp:∀x,p x=true->h∈f x):∀{l:List α},l.any p=true->h∈l.flatMap f
 |[],hl=>by simp at hl
 | x::l,hl=>by
  simp only[y0,aC8] at hl;rw[List.flatMap_cons]
  rcases hl with hl|hl
  ·exact i6.2 (.inl (hp x hl))
  ·exact i6.2 (.inr (aFl hp hl))
theorem cDx{h:Nat}{x:D}(hx:aAm h x=true):h∈hdD x:=by
 cases x with
 |hv q k j=>have:=f7 (show Nat.beq k h=true from hx);subst this;simp[hdD]
 |_=>simp[aAm] at hx
theorem aCe{h:Nat}{x:AV}(hx:xR h x=true):h∈hd0 x:=by
 cases x with
 |d x=>exact cDx hx
 |agg xs=>exact aFl (λx=>cDx (x:=x)) hx
 |bp k o j=>have:=f7 (show Nat.beq k h=true from hx);subst this;simp[hd0]
 | ep v k i c=>
  cases v with
  | map r=>cases r with
   |none=>simp[xR] at hx
   |some k=>have:=f7 (show Nat.beq k h=true from hx);subst this;simp[hd0]
  |_=>simp[xR] at hx
 |_=>simp[xR] at hx
theorem bQv{h:Nat}{x:AV}(hx:aSl h x=true):h∈hd1 x:=by
 cases x with
 |tup vs=>exact aFl (λx=>aCe (x:=x)) hx
 |fn f vs=>exact aFl (λx=>aCe (x:=x)) hx
 |mf f vs=>exact aFl (λx=>aCe (x:=x)) hx
 |any=>simp[aSl,xR] at hx
 |d x=>exact aCe (x:=.d x) hx
 |agg x=>exact aCe (x:=.agg x) hx
 |cp x=>simp[aSl,xR] at hx
 |bp b o j=>exact aCe (x:=.bp b o j) hx
 |ep v k i c=>exact aCe (x:=.ep v k i c) hx
 |fl=>simp[aSl,xR] at hx
theorem cNb{h:Nat}{x:AV}(hx:qH h x=true):h∈hdA x:=by
 cases x with
 |tup vs=>exact aFl (λx=>bQv (x:=x)) hx
 |fn f vs=>exact aFl (λx=>bQv (x:=x)) hx
 |mf f vs=>exact aFl (λx=>bQv (x:=x)) hx
 |any=>simp[qH,xR] at hx
 |d x=>exact aCe (x:=.d x) hx
 |agg x=>exact aCe (x:=.agg x) hx
 |cp x=>simp[qH,xR] at hx
 |bp b o j=>exact aCe (x:=.bp b o j) hx
 |ep v k i c=>exact aCe (x:=.ep v k i c) hx
 |fl=>simp[qH,xR] at hx
def aQy{α:Type}(f:Nat->α->Bool):Nat->List α->Bool
 |_,[]=>true
 |k,x::l=>f k x&&aQy f (k+1) l
theorem aMa{α:Type}{f:Nat->α->Bool}:∀{l:List α} {k i:Nat} {x:α},aQy f k l=true->l[i]?=some x->f (k+i) x=true
 |[],_,_,_,_,h=>by simp at h
 | y::l,k,0,x,h,hx=>by
  simp only[aQy,f4] at h
  simp at hx;subst hx;exact h.1
 | y::l,k,i+1,x,h,hx=>by
  simp only[aQy,f4] at h;have:=aMa h.2 (i:=i) (by simpa using hx)
  rwa[show k+(i+1)=k+1+i by omega]
def bSn:Option Nat->Option Nat->Bool
 |some a,some b=>Nat.beq a b
 |_,_=>false
def bSs(l:List Oper):Bool:=
 zE l&&aQy (λi o=>aQy (λj o'=>Nat.beq i j||(!(bSn o.dst o'.dst)&&(match o'.dst with
  |some q=>!(aY q (rdO l o))||(aY j ((cW l l.length).getD i [])||aY i ((cW l l.length).getD j []))
  |none=>true))) 0 l) 0 l
def cJv(pr:List (List Nat))(S0:VS)(bs:List Eff):Bool:=
  aQy (λi e=>(e.nw.all λh=>!(lV h S0))&&aQy (λj e'=>Nat.beq i j||
    ((e'.ch.isEmpty||(aY j (pr.getD i [])||(aY i (pr.getD j [])||(sR e'.ch).all λh=>!(aY h e.us)&&!(aY h (sR e.ch)))))&&
     (e.nw.isEmpty||(aY i (pr.getD j [])||e.nw.all λh=>!(aCo h e'))))) 0 bs) 0 bs
def BdX(k0:List Nat)(e b:Eff):Prop:=e=b\/(e.ch=[]/\e.nw=[]/\b.ch=[]/\b.nw=[]/\(∀h∈e.us,aY h b.us=true)/\∀h,qH h e.v=true->aY h k0=true)
def Bds(k0:List Nat):List Eff->List Eff->Prop
 |[],[]=>True
 |e::es,b::bs=>BdX k0 e b/\Bds k0 es bs
 |_,_=>False
theorem Bds.get{k0:List Nat}:∀{es bs:List Eff},Bds k0 es bs->∀{i:Nat} {e:Eff},es[i]?=some e->∃b,bs[i]?=some b/\BdX k0 e b
 |[],[],_,i,e,h=>by simp at h
 |e0::es,b0::bs,h,0,e,he=>by simp at he;subst he;exact⟨b0,rfl,h.1⟩
 | e0::es,b0::bs,h,i+1,e,he=>by
  obtain⟨b,hb,hbd⟩:=h.2.get (i:=i) (by simpa using he);exact⟨b,by simpa using hb,hbd⟩
 |[],_::_,h,_,_,_=>h.elim
 |_::_,[],h,_,_,_=>h.elim
theorem Bds.append{k0:List Nat}:∀{es bs es' bs':List Eff},Bds k0 es bs->Bds k0 es' bs'->Bds k0 (es++es') (bs++bs')
 |[],[],_,_,_,h=>h
 |_::_,_::_,_,_,h,h'=>⟨h.1,h.2.append h'⟩
 |[],_::_,_,_,h,_=>h.elim
 |_::_,[],_,_,h,_=>h.elim
theorem aFc{α:Type}{l:List α}(h:l.isEmpty=true):l=[]:=by cases l with|nil=>rfl|cons=>simp at h
theorem cJs[Mode]{P:Program}{n id:Nat}{β:lS}{l:List Oper}{S S1:VS}{es bs:List Eff}(hm:P.follows .mixedOrders=true)(hd:xJ n l=true)(hch:uR P n l l S es S1)(ho:gC S.objs)(h1:bSs l=true)(h2:cJv (cW l l.length) S bs=true)
  (hbd:Bds (S.objs.map (·.1)) es bs)(ρ:Rho)(hρ:ρ.β=β):Tr P n (.region id l.toArray true) (S.at ρ) λe st=>e=.normal/\∃ρ':Rho,ρ'.β=β/\Ent st (S1.at ρ'):=by
 simp only[bSs,f4] at h1;have pair:∀(i j:Nat) (o o':Oper),i≠j->l[i]?=some o->l[j]?=some o'->(!(bSn o.dst o'.dst)&&(match o'.dst with|some q=>!(aY q (rdO l o))||(aY j ((cW l l.length).getD i [])||aY i ((cW l l.length).getD j []))|none=>true))=true:=λi j o o' hij hi hj=>by
  have a:=aMa h1.2 hi;simp only[s8] at a;have a:=aMa a hj;simp only[s8,aC8 (Nat.beq i j)] at a
  rcases a with a|a
  ·exact absurd (f7 a) hij
  ·exact a
 have n0:∀(i:Nat) (b:Eff),bs[i]?=some b->∀h∈b.nw,lV h S=false:=λi b hb h hh=>by
  have a:=aMa h2 hb;simp only[f4] at a
  simpa using k6.1 a.1 h hh
 have pr2:∀(i j:Nat) (b b':Eff),i≠j->bs[i]?=some b->bs[j]?=some b'->((b'.ch.isEmpty||(aY j ((cW l l.length).getD i [])||(aY i ((cW l l.length).getD j [])||(sR b'.ch).all λh=>!(aY h b.us)&&!(aY h (sR b.ch)))))&&(b.nw.isEmpty||(aY i ((cW l l.length).getD j [])||b.nw.all λh=>!(aCo h b'))))=true:=λi j b b' hij hi hj=>by
  have a:=aMa h2 hi;simp only[f4] at a;have a:=aMa a.2 hj;simp only[s8,aC8 (Nat.beq i j)] at a
  rcases a with a|a
  ·exact absurd (f7 a) hij
  ·exact a
 refine cJt hm h1.1 hd hch ho (λi j o o' q hij hi hj hq hq'=>?_) (λi j o o' q hij hi hj hr hq=>?_) (λi j e e' hij hi hj hp1 hp2 h hh=>?_) (λi j e e' hij hi hj hp h hh=>?_) (λi e hi h hh=>?_) ρ hρ
 ·have a:=pair i j o o' hij hi hj;rw[hq,hq'] at a
  simp[bSn] at a
 ·have a:=pair i j o o' hij hi hj;rw[hq] at a;simp only[f4,aC8,l6,iV.2 hr] at a
  rcases a.2 with a|a
  ·cases a
  ·exact a
 ·obtain⟨b,hb,hbe⟩:=hbd.get hi;obtain⟨b',hb',hbe'⟩:=hbd.get hj;have a:=pr2 i j b b' hij hb hb';have e2:e'=b':=by
   rcases hbe' with h0|⟨h0,_⟩
   ·exact h0
   ·rw[h0] at hh;cases hh
  subst e2;simp only[f4,hp1,hp2,aB0] at a;have a1:=a.1;cases hem:e'.ch.isEmpty with
  |true=>rw[aFc hem] at hh;cases hh
  | false=>
   rw[hem,aB0] at a1;have:=k6.1 a1 h (iV.1 hh);simp only[f4,l6] at this
   rcases hbe with rfl|⟨h3,_,_,_,h4,_⟩
   ·exact⟨λhu=>(by rw[iV.2 hu] at this;cases this.1),this.2⟩
   ·refine⟨λhu=>?_,by rw[h3];rfl⟩;rw[h4 h hu] at this;cases this.1
 ·obtain⟨b,hb,hbe⟩:=hbd.get hi;obtain⟨b',hb',hbe'⟩:=hbd.get hj;have e1:e=b:=by
   rcases hbe with h0|⟨_,h0,_⟩
   ·exact h0
   ·rw[h0] at hh;cases hh
  subst e1;have a:=(pr2 i j e b' hij hb hb');simp only[f4,hp,aB0] at a;have a2:=a.2;have hocc:aCo h b'=false:=by
   cases hem:e.nw.isEmpty with
   |true=>rw[aFc hem] at hh;cases hh
   | false=>
    rw[hem,aB0] at a2
    simpa using k6.1 a2 h hh
  rcases hbe' with rfl|⟨h3,_,_,_,_,h5⟩
  ·exact hocc
  ·have h0:=n0 i e hb h hh;cases hv:qH h e'.v with
   |false=>simp[aCo,hv,h3]
   | true=>
    have hk:=iV.1 (h5 h hv);obtain⟨p,hp1,hp2⟩:=l5.1 hk;simp only[lV,j7] at h0;have:=aE9.1 h0.2 p hp1
    simp[hp2] at this
 ·obtain⟨b,hb,hbe⟩:=hbd.get hi
  rcases hbe with rfl|⟨_,h0,_⟩
  ·exact n0 i e hb h hh
  ·rw[h0] at hh;cases hh
structure JO(c:Bool)(S:VS)(m t:Nat)(ds:List Nat)(A:(VS->Prop)->Prop)(B:VS->Prop):Prop where
 h:c=true/\∃x:Bool,A (GN S m t ds x)/\B ⟨(t,.b x)::qX ds S.env,S.objs⟩
structure ODr(c:Bool)(K:Prop):Prop where
 h:c=true/\K
def aOs(ops:List Oper)(ds:List Nat):List Oper->Bool
 |[]=>true
 |o::l=>(rdO ops o).all (λq=>!(aY q ds))&&aOs ops ds l
def okG(k0 U:List Nat)(b:Eff):Bool:=b.ch.isEmpty&&(b.nw.isEmpty&&(b.us.all (λh=>aY h U)&&(hdA b.v).all λh=>aY h k0))
def bQu(U:List Nat):Nat->List Eff
 |0=>[]
 |m+1=>⟨.any,[],U,[]⟩::bQu U m
section
variable{P:Program}(T:TT P)(n:Nat)(X:XP)(ops:List Oper)(k0:List Nat)
def opO[Mode](cur:List (Nat×Bool))(o:Oper)(S:VS)(K:Eff->VS->Prop):Prop:=match cur,o.op,o.dst with
 | _::_,.pick (.tmp s) x y,some d=>match ckd cur s with
  |some true=>zJ S x λe=>rT (some d) e S (K e)
  |some false=>zJ S y λe=>rT (some d) e S (K e)
  |none=>xop T n X.ow S o λe=>aCm S e.nw (rT o.dst e S (K e))
 |_,_,_=>xop T n X.ow S o λe=>aCm S e.nw (rT o.dst e S (K e))
def aPs[Mode](cur:List (Nat×Bool))(o:Oper)(S:VS)(K:Eff->VS->Prop):Prop:=
 bif (ckd cur (o.dst.getD 0)).isSome then False else opO T n X cur o S λe S=>bif e.nw.all (λh=>!(aY h k0)) then K e S else False
abbrev RO:=Nat->Nat->Nat->List (Nat×Bool)->VS->List Eff->(List Eff->VS->Prop)->Prop
def bSf [Mode](o:Oper)(l:List Oper)(ih:RO):RO:=λi sk lim cur S acc K=>match sk,lim with
 |sk+1,lim=>ih (i+1) sk lim cur S acc K
 |0,0=>K acc S
 | 0, lim +1=>match o.guard with
  |none=>aPs T n X k0 cur o S λe S=>ih (i+1) 0 lim cur S (acc++[e]) K
  | some (j,g)=>match aOu ops j with
   | some s=>bif Nat.ble (s+1) n then(match ckd cur s with
    |some c=>bif (bif g then c else !c) then aPs T n X k0 cur o S λe S=>ih (i+1) 0 lim cur S (acc++[e]) K else wS cur o S λS=>ih (i+1) 0 lim cur S (acc++[.p (.tup [])]) K
    | none=>match lk S.env s with
     | .d (.lit (.bool c))=>bif aRa X (fK i j (o::l)) (o::l) then
       OB c λc=>bif (bif g then c else !c) then aPs T n X k0 ((s,c)::cur) o S λe S=>ih (i+1) 0 lim ((s,c)::cur) S (acc++[e]) K else wS ((s,c)::cur) o S λS=>ih (i+1) 0 lim ((s,c)::cur) S (acc++[.p (.tup [])]) K
      else bif Nat.ble (fK i j l+2) (lim+1)&&aTm (((gM (fK i j l+2) (o::l)).getLast?).getD 0) (gM (fK i j l+1) (o::l)) cur then
       JO (aOs ops (gM (fK i j l+1) (o::l)) (l.drop (fK i j l+1))) S (fK i j l+2) (((gM (fK i j l+2) (o::l)).getLast?).getD 0) (gM (fK i j l+1) (o::l))
        (λN=>OB c λc=>bif (bif g then c else !c) then aPs T n X k0 ((s,c)::cur) o S λe S'=>ih (i+1) 0 (fK i j l+1) ((s,c)::cur) S' [e] λbs S'=>bs.all (okG k0 (S.objs.map (·.1)))=true/\N S'
         else wS ((s,c)::cur) o S λS'=>ih (i+1) 0 (fK i j l+1) ((s,c)::cur) S' [.p (.tup [])] λbs S'=>bs.all (okG k0 (S.objs.map (·.1)))=true/\N S')
        (λS'=>ih (i+1) (fK i j l+1) (lim-(fK i j l+1)) cur S' (acc++bQu (S.objs.map (·.1)) (fK i j l+2)) K)
      else False
     | .tup []=>wS cur o S λS=>ih (i+1) 0 lim cur S (acc++[.p (.tup [])]) K
     |_=>False) else False
   |none=>False
def aXb[Mode](l:List Oper):RO:=List.rec (motive:=λ_=>RO) (λ_ _ _ _ S acc K=>K acc S) (λo l ih=>bSf T n X ops k0 o l ih) l
end
section
variable{P:Program}{T:TT P}{n:Nat}{X:XP}{ops:List Oper}{k0:List Nat}
theorem cNn[Mode]{cur:List (Nat×Bool)}{o:Oper}{S:VS}{K:Eff->VS->Prop}(hc:mK cur S)(hd:∀d,o.dst=some d->d<n)(h:opO T n X cur o S K):bY P n o S λe=>aCm S e.nw (rT o.dst e S (K e)):=by
 unfold opO at h;split at h
 ·rename_i p cl s x y d hop hdst
  have hs:∀b,ckd (p::cl) s=some b->lk S.env s=.b b:=λb=>hc s b;obtain⟨dst,op,ty,pos,af,gd⟩:=o;simp only at hop hdst;subst hop;subst hdst;split at h
  ·rename_i hb
   have hv:S.ev (.tmp s)=.d (.lit (.bool true)):=hs _ hb;exact aNf (K:=λe=>aCm S e.nw (rT (some d) e S (K e))) (hd d rfl) (by
    unfold aPz;rw[hv];refine⟨?_⟩;simp only;unfold zJ at h|-;cases hk:cD x with
    |false=>rw[hk] at h;exact h
    | true=>
     rw[hk] at h;simp only[i7] at h|-;have:=zW (K:=λv=>rT (some d) (.p v) S (K (.p v))) h
     generalize S.ev x=v at this
     unfold frc;split<;>first|exact this|(unfold aOc;split<;>exact this))
  ·rename_i hb
   have hv:S.ev (.tmp s)=.d (.lit (.bool false)):=hs _ hb;exact aNf (K:=λe=>aCm S e.nw (rT (some d) e S (K e))) (hd d rfl) (by
    unfold aPz;rw[hv];refine⟨?_⟩;simp only;unfold zJ at h|-;cases hk:cD y with
    |false=>rw[hk] at h;exact h
    | true=>
     rw[hk] at h;simp only[i7] at h|-;have:=zW (K:=λv=>rT (some d) (.p v) S (K (.p v))) h
     generalize S.ev y=v at this
     unfold frc;split<;>first|exact this|(unfold aOc;split<;>exact this))
  ·exact bGf hd h
 ·exact bGf hd h
theorem cFj{cur:List (Nat×Bool)}{S:VS}{o:Oper}{e:Eff}(hc:mK cur S)(hs:(ckd cur (o.dst.getD 0)).isSome=false):mK cur (S.app o.dst e):=λs b hb=>by
 rw[zL];cases hdst:o.dst with
 |none=>exact hc s b hb
 | some d=>
  cases hds:Nat.beq d s with
  | true=>
   have:=f7 hds;subst this;rw[hdst] at hs;simp only[u7,hb,Option.isSome_some] at hs;cases hs
  |false=>simp only[hds,g6];exact hc s b hb
theorem bOx[Mode]{cur:List (Nat×Bool)}{o:Oper}{S:VS}{K:Eff->VS->Prop}(hc:mK cur S)(hd:∀d,o.dst=some d->d<n)(h:aPs T n X k0 cur o S K):
  ∃e,lN P n o S e/\(∀h∈e.nw,lV h S=false/\Nat.ble 100000 h=false)/\(∀h∈e.nw,aY h k0=false)/\K e (S.app o.dst e)/\mK cur (S.app o.dst e):=by
 unfold aPs at h;obtain⟨hs,h⟩:=cnf h;obtain⟨e,hK,hS⟩:=(cNn hc hd h).h;obtain⟨h1,h2⟩:=aSi hK;have h1:=aXw h1;obtain⟨h3,h1⟩:=iS h1;exact⟨e,hS,h2,λk hk=>by simpa using k6.1 h3 k hk,h1,cFj hc hs⟩
def Sub(A B:VS):Prop:=A.objs=B.objs/\∀k,lk B.env k=.any\/lk A.env k=lk B.env k
theorem Sub.lev[Mode]{β:lS}{A B:VS}(h:Sub A B):LeV β A B:=λρ hρ=>⟨ρ,hρ,by
 have:Ent ⟨λk=>ρ.av (lk A.env k),A.objs.map λp=>ρ.mo p.1 p.2⟩ ⟨λk=>ρ.av (lk B.env k),A.objs.map λp=>ρ.mo p.1 p.2⟩:=aTk λk=>by
  rcases h.2 k with h|h
  ·left;rw[h];rfl
  ·right;rw[h]
 unfold VS.at;rw[<-h.1];exact this⟩
theorem Sub.trans{A B C:VS}(h:Sub A B)(h2:Sub B C):Sub A C:=⟨h.1.trans h2.1,λk=>by
 rcases h2.2 k with h3|h3
 ·exact .inl h3
 ·rcases h.2 k with h4|h4
  ·exact .inl (h3.symm.trans h4)
  ·exact .inr (h4.trans h3)⟩
theorem Sub.refl(A:VS):Sub A A:=⟨rfl,λ_=>.inr rfl⟩
structure Dif(k0 ds:List Nat)(A B:VS):Prop where
 ob:A.objs=B.objs
 off:∀k,aY k ds=false->lk A.env k=lk B.env k
 sub:∀k,lk B.env k=.any\/lk A.env k=lk B.env k
 occ:∀h,aY h k0=false->B.env.any (λp=>qH h p.2)=false->A.env.any (λp=>qH h p.2)=false
theorem cFw{ds:List Nat}{A B:VS}(h:Dif k0 ds A B)(dst:Option Nat)(e:Eff):Dif k0 ds (A.app dst e) (B.app dst e):=by
 refine⟨by simp only[VS.app,h.ob],λk hk=>?_,λk=>?_,λk hk hB=>?_⟩
 ·rw[zL,zL];cases dst with
  |none=>exact h.off k hk
  |some d=>simp only;rw[h.off k hk]
 ·rw[zL,zL];cases dst with
  |none=>exact h.sub k
  | some d=>
   simp only;cases Nat.beq d k with
   |true=>exact .inr rfl
   |false=>exact h.sub k
 ·cases dst with
  |none=>exact h.occ k hk hB
  | some d=>
   simp only[VS.app,y0,j7] at hB|-;exact⟨hB.1,h.occ k hk hB.2⟩
theorem bDq[Mode]{ds:List Nat}:∀{l:List Oper} {es:List Eff} {A B B':VS},Dif k0 ds A B->aOs ops ds l=true->(∀e∈es,∀h∈e.nw,aY h k0=false)->uR P n ops l B es B'->∃A',uR P n ops l A es A'/\Dif k0 ds A' B'
 |[],[],A,B,B',h,_,_,hc=>⟨A,rfl,by have e:B=B':=hc;subst e;exact h⟩
 | o::l,e::es,A,B,B',h,hr,hn,hc=>by
  obtain⟨h1,h2,h3⟩:=hc;simp only[aOs,f4] at hr;obtain⟨A',h4,h5⟩:=bDq (cFw h o.dst e) hr.2 (λe' he=>hn e' (j5 _ he)) h3;refine⟨A',⟨aYx h1 (λk hk=>h.off k ?_) λk _=>by rw[h.ob],λk hk=>⟨?_,(h2 k hk).2⟩,h4⟩,h5⟩
  ·simpa using k6.1 hr.1 k hk
  ·have:=(h2 k hk).1;simp only[lV,j7] at this|-;exact⟨h.occ k (hn e (by simp) k hk) this.1,by rw[h.ob];exact this.2⟩
 |[],_::_,_,_,_,_,_,_,hc=>hc.elim
 |_::_,[],_,_,_,_,_,_,hc=>hc.elim
theorem aRh[Mode]:∀{l l2:List Oper} {es es2:List Eff} {S S1 S2:VS},uR P n ops l S es S1->uR P n ops l2 S1 es2 S2->uR P n ops (l++l2) S (es++es2) S2
 |[],l2,[],es2,S,S1,S2,h,h2=>by have e:S=S1:=h;subst e;exact h2
 |o::l,l2,e::es,es2,S,S1,S2,h,h2=>⟨h.1,h.2.1,aRh h.2.2 h2⟩
 |[],_,_::_,_,_,_,_,h,_=>h.elim
 |_::_,_,[],_,_,_,_,h,_=>h.elim
theorem bHg[Mode]{k:Nat}:∀{l:List Oper} {es:List Eff} {S S1:VS},(∀o∈l,o.dst≠some k)->uR P n ops l S es S1->lk S1.env k=lk S.env k
 |[],[],S,S1,_,h=>by have e:S=S1:=h;subst e;rfl
 | o ::l,e::es,S,S1,hd,h=>by
  rw[bHg (λo' ho=>hd o' (j5 _ ho)) h.2.2,zL];have:=hd o (by simp);cases hdst:o.dst with
  |none=>rfl
  | some d=>
   have:Nat.beq d k=false:=by
    cases hb:Nat.beq d k with
    |false=>rfl
    |true=>have:=f7 hb;subst this;exact absurd hdst (by assumption)
   simp only[this,g6]
 |[],_::_,_,_,_,h=>h.elim
 |_::_,[],_,_,_,h=>h.elim
theorem bDt[Mode]{k:Nat}:∀{l:List Oper} {es:List Eff} {S S1:VS},(∀e∈es,qH k e.v=false)->S.env.any (λp=>qH k p.2)=false->uR P n ops l S es S1->S1.env.any (λp=>qH k p.2)=false
 |[],[],S,S1,_,ho,h=>by have e:S=S1:=h;subst e;exact ho
 | o::l,e::es,S,S1,hd,ho,h=>by
  refine bDt (λe' he=>hd e' (j5 _ he)) ?_ h.2.2;cases hdst:o.dst with
  |none=>exact ho
  |some d=>simp only[VS.app,y0,j7];exact⟨hd e (by simp),ho⟩
 |[],_::_,_,_,_,_,h=>h.elim
 |_::_,[],_,_,_,_,h=>h.elim
theorem aYm{k:Nat}:∀{m:Nat} {l:List Oper},aY k (gM (m+1) l)=true->aY k (gM m l)=true\/(gM (m+1) l).getLast?.getD 0=k
 |_,[],h=>by simp[gM,aY] at h
 | 0,o::l,h=>by
  right
  have:gM 1 (o::l)=[o.dst.getD 0]:=by cases l<;>rfl
  rw[this] at h|-;simp only[aY] at h;cases hb:Nat.beq (o.dst.getD 0) k with
  |true=>simpa using f7 hb
  |false=>rw[hb] at h;cases h
 | m +1,o::l,h=>by
  have e:gM (m+1+1) (o::l)=o.dst.getD 0::gM (m+1) l:=rfl;have e2:gM (m+1) (o::l)=o.dst.getD 0::gM m l:=rfl;rw[e] at h|-;rw[e2];simp only[aY] at h|-;cases hb:Nat.beq (o.dst.getD 0) k with
  |true=>left;rfl
  | false=>
   rw[hb] at h;simp only[g6] at h|-
   rcases aYm h with h1|h1
   ·exact .inl h1
   ·right
    rw[List.getLast?_cons];cases hx:gM (m+1) l with
    |nil=>rw[hx] at h;cases h
    |cons a x=>rw[hx] at h1;simpa[List.getLast?_cons] using h1
theorem aYn{k:Nat}:∀{m:Nat} {l:List Oper},aY k (gM m l)=false->∀o∈l.take m,o.dst≠some k
 |0,_,_,o,h=>by simp at h
 |_+1,[],_,o,h=>by simp at h
 | m+1,x::l,hm,o,h=>by
  simp only[gM,aY] at hm;cases hb:Nat.beq (x.dst.getD 0) k with
  |true=>rw[hb] at hm;cases hm
  | false=>
   rw[hb] at hm;rw[aD8] at h
   rcases l4.1 h with rfl|h
   ·intro e;rw[e] at hb;simp at hb
   ·exact aYn (by simpa using hm) o h
theorem bEp{ds:List Nat}:∀{m:Nat} {l:List Oper},aOs ops ds l=true->aOs ops ds (l.take m)=true
 |0,_,_=>by simp[aOs]
 |_+1,[],_=>by simp[aOs]
 | m+1,x::l,h=>by
  simp only[aOs,f4,aD8] at h|-;exact⟨h.1,bEp h.2⟩
theorem cKt{U:List Nat}{e b:Eff}(h:okG k0 U b=true)(hb:BdX k0 e b):BdX k0 e ⟨.any,[],U,[]⟩/\e.nw=[]/\∀k,aY k k0=false->qH k e.v=false:=by
 simp only[okG,f4] at h;obtain⟨h1,h2,h3,h4⟩:=h;have h1:=aFc h1;have h2:=aFc h2;have hU:∀h∈b.us,aY h U=true:=λk hk=>k6.1 h3 k hk;have fin:e.ch=[]->e.nw=[]->(∀h∈e.us,aY h U=true)->(∀h,qH h e.v=true->aY h k0=true)->BdX k0 e ⟨.any,[],U,[]⟩/\e.nw=[]/\∀k,aY k k0=false->qH k e.v=false:=λa b c d=>
  ⟨.inr ⟨a,b,rfl,rfl,c,d⟩,b,λk hk=>by
   cases ho:qH k e.v with
   |false=>rfl
   |true=>rw[d k ho] at hk;cases hk⟩
 rcases hb with rfl|⟨a1,a2,_,_,a3,a4⟩
 ·exact fin h1 h2 hU λk hk=>k6.1 h4 k (cNb hk)
 ·exact fin a1 a2 (λk hk=>hU k (iV.1 (a3 k hk))) a4
theorem bNr{U:List Nat}:∀{es bs:List Eff},Bds k0 es bs->bs.all (okG k0 U)=true->Bds k0 es (bQu U es.length)/\(∀e∈es,e.nw=[]/\∀k,aY k k0=false->qH k e.v=false)
 |[],[],_,_=>⟨trivial,by simp⟩
 | e::es,b::bs,h,hb=>by
  simp only[aA9,f4] at hb;obtain⟨h1,h2,h3⟩:=cKt hb.1 h.1;obtain⟨h4,h5⟩:=bNr h.2 hb.2;refine⟨⟨h1,h4⟩,λe' he=>?_⟩
  rcases l4.1 he with rfl|he
  ·exact⟨h2,h3⟩
  ·exact h5 e' he
 |[],_::_,h,_=>h.elim
 |_::_,[],h,_=>h.elim
theorem bDs[Mode]:∀{l:List Oper} {es:List Eff} {S S1:VS},uR P n ops l S es S1->es.length=l.length
 |[],[],_,_,_=>rfl
 |o::l,e::es,S,S1,h=>by simp[bDs h.2.2]
 |[],_::_,_,_,h=>h.elim
 |_::_,[],_,_,h=>h.elim
theorem bGt{h:Nat}:∀{ds:List Nat} {l:List (Nat×AV)},(qX ds l).any (λp=>qH h p.2)=l.any λp=>qH h p.2
 |[],_=>rfl
 |d::ds,l=>by simp only[qX,y0,bGt (ds:=ds)];simp[qH,xR]
theorem aVf{k:Nat}:∀{ds:List Nat} {l:List (Nat×AV)},aY k ds=false->lk (qX ds l) k=lk l k
 |[],_,_=>rfl
 | d::ds,l,h=>by
  simp only[aY] at h;cases hb:Nat.beq d k with
  |true=>rw[hb] at h;cases h
  |false=>rw[hb] at h;simp only[qX,lk,hb,g6];exact aVf (by simpa using h)
def bPh[Mode](P:Program)(n:Nat)(ops:List Oper)(k0:List Nat)(l:List Oper)(S:VS)(acc:List Eff)(K:List Eff->VS->Prop):Prop:=
 ∃(es bs:List Eff) (A S':VS),uR P n ops l S es A/\Bds k0 es bs/\(∀e∈es,∀h∈e.nw,aY h k0=false)/\Sub A S'/\K (acc++bs) S'
theorem bAj [Mode]:∀{l:List Oper} {i sk lim:Nat} {cur:List (Nat×Bool)} {S:VS} {acc:List Eff} {K:List Eff->VS->Prop},xJ n l=true->mK cur S->sk+lim<=l.length->aXb T n X ops k0 l i sk lim cur S acc K->bPh P n ops k0 ((l.drop sk).take lim) S acc K
 | [],i,sk,lim,cur,S,acc,K,_,_,hle,h=>by
  refine⟨[],[],S,S,?_,trivial,by simp,Sub.refl S,by rw[aA2];exact h⟩
  simp[uR]
 | o::l,i,sk+1,lim,cur,S,acc,K,hd,hc,hle,h=>by
  have hdl:xJ n l=true:=by simp only[xJ,f4] at hd;exact hd.2
  rw[aG6];exact bAj hdl hc (by simp at hle;omega) h
 |o::l,i,0,0,cur,S,acc,K,_,_,hle,h=>⟨[],[],S,S,rfl,trivial,by simp,Sub.refl S,by rw[aA2];exact h⟩
 | o :: l, i, 0,lim+1,cur,S,acc,K,hd,hc,hle,h=>by
  have hdo:=aYl hd o (by simp);have hdl:xJ n l=true:=by simp only[xJ,f4] at hd;exact hd.2
  have hle':lim<=l.length:=by simp at hle;omega
  have fin:∀{cur:List (Nat×Bool)} {lim:Nat} {acc:List Eff} {N:List Eff->VS->Prop} {e:Eff},lim<=l.length->aDx P n ops o S e->(∀h∈e.nw,lV h S=false/\Nat.ble 100000 h=false)->(∀h∈e.nw,aY h k0=false)->mK cur (S.app o.dst e)->
    aXb T n X ops k0 l (i+1) 0 lim cur (S.app o.dst e) (acc++[e]) N->bPh P n ops k0 ((o::l).take (lim+1)) S acc N:=by
   intro cur lim acc N e hl hg hn hn0 hc h;obtain⟨es,bs,A,S',h1,h2,h3,h4,h5⟩:=bAj hdl hc (by omega) h;refine⟨e::es,e::bs,A,S',?_,⟨.inl rfl,h2⟩,λe' he=>?_,h4,by simpa using h5⟩
   ·rw[aD8];exact⟨hg,hn,by simpa using h1⟩
   ·rcases l4.1 he with rfl|he
    ·exact hn0
    ·exact h3 e' he
  simp only[aF7]
  change bSf T n X ops k0 o l (aXb T n X ops k0 l) i 0 (lim+1) cur S acc K at h
  simp only[bSf] at h;cases hg:o.guard with
  | none=>
   rw[hg] at h;obtain⟨e,h1,h2,h3,h4,h5⟩:=bOx hc hdo h;exact fin hle' (by unfold aDx;rw[hg];exact h1) h2 h3 h5 h4
  | some p =>
   obtain⟨j,g⟩:=p;rw[hg] at h;simp only at h;split at h
   ·rename_i s hs
    rw [aWq] at hs;obtain⟨hsn,h⟩:=iS h;have hsn:=f5 hsn;have skip:∀{cur:List (Nat×Bool)} {lim:Nat} {acc:List Eff} {N:List Eff->VS->Prop},mK cur S->lim<=l.length->(∀d,o.dst=some d->d<n->aDx P n ops o S (.p (.tup [])))->
      wS cur o S (λS=>aXb T n X ops k0 l (i+1) 0 lim cur S (acc++[.p (.tup [])]) N)->bPh P n ops k0 ((o::l).take (lim+1)) S acc N:=by
     intro cur lim acc N hc hl hG hp;obtain⟨d,ho,hr,hc'⟩:=bOg hc hp;have e:S.app o.dst (.p (.tup []))=⟨(d,.tup [])::S.env,S.objs⟩:=by rw[ho];rfl
     exact fin hl (hG d ho (hdo d ho)) (by simp) (by simp) (e▸hc') (e▸hr)
    have ask:∀{cur:List (Nat×Bool)} {lim:Nat} {acc:List Eff} {N:List Eff->VS->Prop} {c:Bool},mK cur S->lim<=l.length->lk S.env s=.b c->
      (bif (bif g then c else !c) then aPs T n X k0 cur o S (λe S=>aXb T n X ops k0 l (i+1) 0 lim cur S (acc++[e]) N) else wS cur o S (λS=>aXb T n X ops k0 l (i+1) 0 lim cur S (acc++[.p (.tup [])]) N))->bPh P n ops k0 ((o::l).take (lim+1)) S acc N:=by
     intro cur lim acc N c hc hl hlk h;cases hcg:(bif g then c else !c) with
     | true=>
      rw[hcg] at h;obtain⟨e,h1,h2,h3,h4,h5⟩:=bOx hc hdo h;refine fin hl ?_ h2 h3 h5 h4;unfold aDx;rw[hg];exact⟨s,hs,hsn,.inl ⟨c,hlk,.inl ⟨by cases g<;>cases c<;>simp_all,h1⟩⟩⟩
     | false=>
      rw[hcg] at h;refine skip hc hl (λd ho hdn=>?_) h;unfold aDx;rw[hg];exact⟨s,hs,hsn,.inl ⟨c,hlk,.inr ⟨by cases g<;>cases c<;>simp_all,rfl,d,ho,hdn⟩⟩⟩
    split at h
    ·rename_i c hcc
     exact ask hc hle' (hc s c hcc) h
    ·split at h
     ·rename_i c hlk
      cases he:aRa X (fK i j (o::l)) (o::l) with
      | true=>
       rw[he] at h;simp only[i7] at h;exact ask (aHj hc hlk) hle' hlk (bCo h)
      | false =>
       rw[he] at h;simp only[g6] at h;obtain⟨hb,h⟩:=iS h;simp only[f4] at hb;obtain⟨hb1,hb2⟩:=hb;have hm:=f5 hb1;obtain⟨hb3,x,hA,hB⟩:=h.h;have hA:=bCo hA;have hA:=ask (acc:=[]) (aHj hc hlk) (by omega) hlk hA;obtain⟨es1,bs1,A1,S1,a1,a2,a3,a4,a5,a6⟩:=hA;obtain⟨es2,bs2,B2,S2,b1,b2,b3,b4,b5⟩:=bAj hdl (aYj hc hb2) (by omega) hB;simp only[aG4] at a5;obtain⟨c1,c2⟩:=bNr a2 a5;have hlen:es1.length=fK i j l+2:=by rw[bDs a1,List.length_take,aB2];omega
       rw[hlen] at c1;have off:∀k,aY k (gM (fK i j l+2) (o::l))=false->lk A1.env k=lk S.env k:=λk hk=>bHg (aYn hk) a1;have hobj:A1.objs=S.objs:=a4.1.trans a6.2.2.2;have htx:lk A1.env (((gM (fK i j l+2) (o::l)).getLast?).getD 0)=.b x:=by
        rcases a4.2 (((gM (fK i j l+2) (o::l)).getLast?).getD 0) with h|h
        ·rw[a6.2.2.1] at h;cases h
        ·rw[h,a6.2.2.1]
       have hdif:Dif k0 (gM (fK i j l+1) (o::l)) A1 ⟨((((gM (fK i j l+2) (o::l)).getLast?).getD 0),.b x)::qX (gM (fK i j l+1) (o::l)) S.env,S.objs⟩:=by
        have key:∀k,aY k (gM (fK i j l+1) (o::l))=false->lk A1.env k=lk (((((gM (fK i j l+2) (o::l)).getLast?).getD 0),.b x)::qX (gM (fK i j l+1) (o::l)) S.env) k:=by
         intro k hk;simp only[lk];cases hb:Nat.beq (((gM (fK i j l+2) (o::l)).getLast?).getD 0) k with
         |true=>have:=f7 hb;subst this;exact htx
         | false=>
          simp only[g6];rw[aVf hk];refine off k ?_;cases hx:aY k (gM (fK i j l+2) (o::l)) with
          |false=>rfl
          | true=>
           rcases aYm hx with h|h
           ·rw[hk] at h;cases h
           ·rw[h] at hb;simp at hb
        refine⟨hobj,key,λk=>?_,λk hk hB=>?_⟩
        ·cases hk:aY k (gM (fK i j l+1) (o::l)) with
         |false=>exact .inr (key k hk)
         | true=>
          cases hb:Nat.beq (((gM (fK i j l+2) (o::l)).getLast?).getD 0) k with
          |true=>have:=f7 hb;subst this;right;simp only[lk,aH6,i7];exact htx
          | false=>
           simp only[lk,hb,g6];have:∀{ds:List Nat} {l:List (Nat×AV)},aY k ds=true->lk (qX ds l) k=.any:=by
            intro ds
            induction ds with
            |nil=>intro l h;cases h
            | cons d ds ih=>
             intro l h;simp only[aY] at h;simp only[qX,lk];cases hb:Nat.beq d k with
             |true=>rfl
             |false=>rw[hb] at h;exact ih (by simpa using h)
           exact .inl (this hk)
        ·refine bDt (λe he=>(c2 e he).2 k hk) ?_ a1;simp only[y0,bGt,j7] at hB;exact hB.2
       obtain⟨A',d1,d2⟩:=bDq hdif (bEp hb3) b3 b1;refine⟨es1++es2,bQu (S.objs.map (·.1)) (fK i j l+2)++bs2,A',S2,?_,c1.append b2,λe he=>?_,(Sub.trans ⟨d2.ob,d2.sub⟩ b4),by simpa using b5⟩
       ·have e1:(o::l).take (lim+1)=(o::l).take (fK i j l+1+1)++(l.drop (fK i j l+1)).take (lim-(fK i j l+1)):=by
         rw[aD8,aD8,aA4,<-List.take_add,show fK i j l+1+(lim-(fK i j l+1))=lim by omega]
        rw[e1];exact aRh a1 d1
       ·rcases i6.1 he with he|he
        ·rw[(c2 e he).1];simp
        ·exact b3 e he
     ·rename_i hlk
      refine skip hc hle' (λd ho hdn=>?_) h;unfold aDx;rw[hg];exact⟨s,hs,hsn,.inr ⟨hlk,rfl,d,ho,hdn⟩⟩
     ·exact h.elim
   ·exact h.elim
end
def aXv:List (Nat×VO)->Bool
 |[]=>true
 |p::l=>(!(aY p.1 (l.map (·.1))))&&aXv l
theorem bGu:∀{l:List (Nat×VO)},aXv l=true->gC l
 |[],_=>List.nodup_nil
 | p::l,h=>by
  simp only[aXv,f4,l6] at h;refine w6.2 ⟨λhm=>?_,bGu h.2⟩;rw[iV.2 hm] at h;cases h.1
def aEl:Code->Bool
 | .exit _=>false| .ret=>false| .goto _=>false| .refuse _=>false| .loop _=>false
 | .seq a b=>aEl a&&aEl b
 | .cond _ a b=>aEl a||aEl b
 | .block _ _=>true
 | .scope c=>aEl c
 |_=>true
def yR:Code->Bool
 | .exit _=>true| .ret=>true| .goto _=>true| .refuse _=>true
 | .seq a b=>yR a||yR b
 | .cond _ a b=>yR a||yR b
 | .block _ c=>yR c
 | .loop c=>yR c
 | .scope c=>yR c
 | .rangeFunc .. =>true
 |_=>false
def bRb:Code->Bool
 | .cond _ a b=>(aEl a&&aEl b)&&!(yR a||yR b)
 |_=>false
structure JN(S:VS)(A B:VS->Prop):Prop where
 h:∃mid,A mid/\B mid
structure OLp[Mode]{P:Program}(T:TT P)(n:Nat)(β:lS)(X:XP)(c:Code)(S:VS)(Q:Exit->VS->Prop):Prop where
 h:TrV P n β (.loop c) S Q
structure OMq[Mode](β:lS)(h:Nat)(S:VS)(K:VS->Prop):Prop where
 h:∃S',LeV β S S'/\K S'
section
variable{P:Program}(T:TT P)(n:Nat)(β:lS)(X:XP)
def bCu[Mode](ops:Array Oper)(draw:Bool)(S:VS)(Q:Exit->VS->Prop):Prop:=bif draw then ODr (xJ n ops.toList&&(bSs ops.toList&&aXv S.objs)) (aXb T n X ops.toList (S.objs.map (·.1)) ops.toList 0 0 ops.toList.length [] S [] λbs S'=>cJv (cW ops.toList ops.toList.length) S bs=true/\Q .normal S') else bif xJ n ops.toList then aPl T n β X ops.toList ops.toList 0 0 ops.toList.length [] S λS=>Q .normal S else False
abbrev RC:=VS->(Exit->VS->Prop)->Prop
def rgC[Mode](id:Nat)(ops:Array Oper)(draw:Bool):RC:=λS Q=>match lkL X.lr id with
 |[]=>bCu T n β X ops draw S Q
 |h::hs=>bif Nat.ble 500000 h then OMq β (Nat.sub h 500000) S λS=>bCu T n β X ops draw S Q else cBd (h::hs) S λS=>bCu T n β X ops draw S Q
def sqC[Mode](j:Bool)(ix iy:RC):RC:=λS Q=>bif j then JN S (λmid=>ix S λe S'=>match e with| .normal=>LeV β S' mid|e=>Q e S') (λmid=>iy mid Q)
 else ix S λe S'=>match e with| .normal=>iy S' Q|e=>Q e S'
def cnC(c:Operand)(ix iy:RC):RC:=λS Q=>match S.ev c with
 | .d (.lit (.bool b))=>OB b λb=>match b with|true=>ix S Q|false=>iy S Q
 |_=>False
def blC(id:Nat)(ic:RC):RC:=λS Q=>ic S λe S'=>match e with
 | .normal=>Q .normal S'
 | .exit i=>bif Nat.beq i id then Q .normal S' else Q (.exit i) S'
 |e=>Q e S'
def scC(ic:RC):RC:=λS Q=>ic S λe S'=>match e with| .goto _=>False|e=>Q e S'
def wK[Mode](c:Code):RC:=Code.rec (motive:=λ_=>RC) (λS Q=>Q .normal S) (λid ops draw=>rgC T n β X id ops draw) (λx _ ix iy=>sqC β (bRb x) ix iy) (λc _ _ ix iy=>cnC c ix iy) (λid _ ic=>blC id ic)
 (λc _ S Q=>OLp T n β X c S Q) (λf ps a b _ _ S Q=>TrV P n β (.rangeFunc f ps a b) S Q) (λid S Q=>Q (.exit id) S) (λ_ ic=>scC ic) (λ_ S Q=>Q .normal S) (λl S Q=>TrV P n β (.goto l) S Q) (λS Q=>Q .ret S) (λw S Q=>TrV P n β (.refuse w) S Q) c
end
section
variable{P:Program}{T:TT P}{n:Nat}{β:lS}{X:XP}
theorem aIk[Mode]{c:Code}{S S':VS}{Q:Exit->VS->Prop}(h:LeV β S S')(hc:TrV P n β c S' Q):TrV P n β c S Q:=λρ hρ=>by
 obtain⟨ρ',hβ,he⟩:=h ρ hρ;exact jZ he (hc ρ' hβ)
theorem aJy[Mode]{c:Code}{S:VS}{Q Q':Exit->VS->Prop}(h:TrV P n β c S Q)(hq:∀e S,Q e S->Q' e S):TrV P n β c S Q':=
 λρ hρ=>nJ (h ρ hρ) λe st ⟨S',ρ',h1,h2,h3⟩=>⟨S',ρ',h1,hq _ _ h2,h3⟩
theorem bPc[Mode]{x y:Code}{S:VS}{Q:Exit->VS->Prop}{N:VS->Prop}(h:TrV P n β x S λe S'=>match e with| .normal=>N S'|e=>Q e S')(h2:∀S',N S'->TrV P n β y S' Q):TrV P n β (.seq x y) S Q:=
 λρ hρ=>bH (nJ (h ρ hρ) λe st ⟨S',ρ',h1,hq,he⟩=>by
  cases e with
  |normal=>exact jZ he (h2 S' hq ρ' h1)
  |_=>exact⟨S',ρ',h1,hq,he⟩)
theorem bKc[Mode]{id:Nat}{ops:Array Oper}{draw:Bool}{S:VS}{Q:Exit->VS->Prop}(h:bCu T n β X ops draw S Q):TrV P n β (.region id ops draw) S Q:=by
 unfold bCu at h;cases draw with
 | true=>
  obtain⟨hb,h⟩:=h.h;simp only[f4] at hb;obtain⟨l⟩:=ops;obtain⟨es,bs,A,S',h1,h2,_,h4,h5,h6⟩:=bAj hb.1 (λs b hb=>by cases hb) (by simp) h;simp only[aF7,aC4] at h1;refineλρ hρ=>nJ (cJs T.mix hb.1 h1 (bGu hb.2.2) hb.2.1 (by simpa using h5) h2 ρ hρ) ?_;rintro e st ⟨rfl,ρ',hβ,he⟩;obtain⟨ρ'',hβ',he'⟩:=h4.lev ρ' hβ;exact⟨S',ρ'',hβ',h6,he.trans he'⟩
 | false=>
  obtain⟨hd,h⟩:=iS h;obtain⟨l⟩:=ops;have:=aSw (l:=l) (ops:=l) (Q:=Q) hd (λs b hb=>by cases hb) (λS' hS ρ hρ A M w0 a w hR=>by
   rw[show l.drop (0+l.length)=[] by simp];exact wpListIn_nil ⟨_,⟨S',ρ,hρ,hS,Ent.refl _⟩,hR⟩) h
  exactλρ hρ=>aV (this ρ hρ)
theorem pA[Mode]:∀{c:Code} {S:VS} {Q:Exit->VS->Prop},wK T n β X c S Q->TrV P n β c S Q
 | .skip,S,Q,h=>λρ hρ=>cCt ⟨S,ρ,hρ,h,Ent.refl _⟩
 | .label _,S,Q,h=>λρ hρ=>bKt ⟨S,ρ,hρ,h,Ent.refl _⟩
 | .ret,S,Q,h=>λρ hρ=>eK ⟨S,ρ,hρ,h,Ent.refl _⟩
 | .exit id,S,Q,h=>λρ hρ=>eU ⟨S,ρ,hρ,h,Ent.refl _⟩
 | .region id ops draw,S,Q,h=>by
  have h:rgC T n β X id ops draw S Q:=h;unfold rgC at h;split at h
  ·exact bKc h
  ·rename_i k hs _
   cases hb:Nat.ble 500000 k with
   | true=>
    rw[hb] at h;obtain⟨S',h1,h2⟩:=OMq.h h;exact aIk h1 (bKc (id:=id) h2)
   | false=>
    rw[hb] at h;have h1:=bKc (id:=id) (bVt (K:=λS=>bCu T n β X ops draw S Q) h);exact aIk (λρ hρ=>⟨ρ,hρ,bIm ρ⟩) h1
 | .seq x y,S,Q,h=>by
  have h:sqC β (bRb x) (wK T n β X x) (wK T n β X y) S Q:=h;unfold sqC at h;cases hj:bRb x with
  | true=>
   rw[hj] at h;obtain⟨mid,h1,h2⟩:=h.h;exact bPc (N:=λS'=>LeV β S' mid) (pA h1) λS' hl=>aIk hl (pA h2)
  | false=>
   rw[hj] at h;exact bPc (N:=λS'=>wK T n β X y S' Q) (pA h) λS' hl=>pA hl
 | .cond c x y,S,Q,h=>by
  have h:cnC c (wK T n β X x) (wK T n β X y) S Q:=h;unfold cnC at h;split at h
  ·rename_i b hb
   have h:=bCo h;exactλρ hρ=>aAe (b:=b) (by rw[sQ,hb];rfl) (λhb=>by subst hb;exact pA h ρ hρ) (λhb=>by subst hb;exact pA h ρ hρ)
  ·exact h.elim
 | .block id c,S,Q,h=>by
  have h:blC id (wK T n β X c) S Q:=h;unfold blC at h;intro ρ hρ;refine aXi (N:=λst=>∃(S':VS) (ρ':Rho),ρ'.β=β/\Q .normal S'/\Ent st (S'.at ρ')) (nJ (pA h ρ hρ) ?_) λ_ h=>h;rintro e st ⟨S',ρ',h1,hq,he⟩;cases e with
  |normal=>exact⟨S',ρ',h1,hq,he⟩
  | exit i=>
   simp only at hq;cases hb:Nat.beq i id with
   | true=>
    rw[hb] at hq;exact .inl ⟨f7 hb,S',ρ',h1,hq,he⟩
   | false=>
    rw[hb] at hq;exact .inr ⟨λe=>(by subst e;simp at hb),S',ρ',h1,hq,he⟩
  |_=>exact⟨S',ρ',h1,hq,he⟩
 | .scope c,S,Q,h=>by
  have h:scC (wK T n β X c) S Q:=h;unfold scC at h;refineλρ hρ=>nJ (bKx (Q:=λe st=>∃(S':VS) (ρ':Rho),ρ'.β=β/\(match(generalizing:=false) e with| .goto _=>False|e=>Q e S')/\Ent st (S'.at ρ')) (λl st ⟨S',ρ',_,hq,_⟩=>hq) (pA h ρ hρ)) ?_;rintro e st ⟨S',ρ',h1,hq,he⟩;cases e with
  |goto l=>exact hq.elim
  |_=>exact⟨S',ρ',h1,hq,he⟩
 | .loop c,S,Q,h=>h.h
 | .rangeFunc ..,S,Q,h=>h
 | .goto _,S,Q,h=>h
 | .refuse _,S,Q,h=>h
end
end Go.Am
end
section
section
section
namespace Go.Am
section
variable{P:Program}(T:TT P)
def rdV(S:VS):ResultVar->(AV->Prop)->Prop
 | .tmp t,K=>frc (lk S.env t) K
 | .cell a t,K=>match lk S.env a,T.ty.get t with
  | .bp h _ j,some (i,td)=>match ob S.objs h with
   |some (.box ds)=>bif aEa td then tdK i.size j ds λes=>K (.agg es) else bif Nat.beq i.size 1 then tdK 1 j ds λes=>one1 es λx=>K (.d x) else False
   |_=>False
  |_,_=>False
def bSd(S:VS)(r:AV):List ResultVar->Prop
 |[x]=>rdV T S x λv=>vA S.objs v=r/\okA r=true
 |[x,y]=>rdV T S x λv=>rdV T S y λu=>∃a b,vA S.objs v=a/\vA S.objs u=b/\r=.tup [a,b]/\(okA a&&okA b)=true/\(wO a&&wO b)=true
 |[x,y,z]=>rdV T S x λv=>rdV T S y λu=>rdV T S z λt=>∃a b c,vA S.objs v=a/\vA S.objs u=b/\vA S.objs t=c/\r=.tup [a,b,c]/\(okA a&&(okA b&&okA c))=true/\(wO a&&(wO b&&wO c))=true
 |[]=>r=.tup []
 |_=>False
variable{T}
theorem aAa{S:VS}{ρ:Rho}:∀{x:ResultVar} {K:AV->Prop},rdV T S x K->∃v,K v/\RVc P (S.at ρ) x (ρ.av v)
 | .tmp t,K,h=>⟨_,zW h,.tmp t rfl⟩
 | .cell a t,K,h=>by
  simp only[rdV] at h;split at h
  ·rename_i hh o j i td ha ht
   split at h
   ·rename_i ds hm
    obtain⟨p,hp,_⟩:=oM (ρ:=ρ) hm;cases hag:aEa td with
    | true=>
     rw[hag] at h;obtain⟨hl,h⟩:=aAd (K:=λes=>K (.agg es)) h;exact⟨_,h,.cell a t (aCi ha) hp (aPv ht hag rfl) aWk (by simpa using hl)⟩
    | false=>
     rw[hag] at h;obtain⟨h1,h⟩:=iS h;obtain⟨hl,h⟩:=aAd (K:=λes=>one1 es λx=>K (.d x)) h;obtain⟨d0,he,h⟩:=aSn (K:=λx=>K (.d x)) h;exact⟨_,h,.cell1 a t (aCi ha) hp (aJz ht hag (f7 h1)) (by rw[p8,bBb he];rfl)⟩
   ·exact h.elim
  ·exact h.elim
theorem cLk{S:VS}{r:AV}{rs:List ResultVar}{ρ:Rho}(hr:qW (S.at ρ).objs)(h:bSd T S r rs):∃r0,ResW P (S.at ρ) rs r0/\BV (S.at ρ).objs r0 r:=by
 unfold bSd at h;split at h
 ·obtain⟨v,⟨h1,h2⟩,hv⟩:=aAa (ρ:=ρ) h;exact⟨_,.one hv,aHx ρ hr h1 h2⟩
 ·obtain⟨v,h,hv⟩:=aAa (ρ:=ρ) h;obtain⟨u,⟨a,b,h1,h2,rfl,h3,h4⟩,hu⟩:=aAa (ρ:=ρ) h;simp only[f4] at h3;exact⟨_,.two hv hu,aBv (.cons (aHx ρ hr h1 h3.1) (.cons (aHx ρ hr h2 h3.2) .nil))⟩
 ·obtain⟨v,h,hv⟩:=aAa (ρ:=ρ) h;obtain⟨u,h,hu⟩:=aAa (ρ:=ρ) h;obtain⟨t,⟨a,b,c,h1,h2,h5,rfl,h3,h4⟩,ht⟩:=aAa (ρ:=ρ) h;simp only[f4] at h3;exact⟨_,.three hv hu ht,aBv (.cons (aHx ρ hr h1 h3.1) (.cons (aHx ρ hr h2 h3.2.1) (.cons (aHx ρ hr h5 h3.2.2) .nil)))⟩
 ·subst h;exact⟨_,.none,.same _⟩
 ·exact h.elim
end
theorem bPa[Mode]{P:Program}{n:Nat}{c:Code}{st:St}{Q Q':Exit->St->Prop}(h:Tr P n c st Q)(hq:∀e s,Q e s->∃s1,Ent s s1/\(qW s1.objs->Q' e s1)):Tr P n c st Q':=
 λA M w0 a w hR hn=>wpIn_mono (h A M w0 a w hR hn) λe a' w' ⟨s,h1,hR'⟩=>by
  obtain⟨s1,he,h2⟩:=hq e s h1;have hR1:=he A M w0 n a' w' hR';exact⟨s1,h2 (aSv hR1.inv.holds),hR1⟩
def aEd:Nat->List AV->List (Nat×AV)
 |_,[]=>[]
 |k,v::l=>(k,v)::aEd (k+1) l
theorem bCi:∀{l:List AV} {k j:Nat},lk (aEd k l) (k+j)=l.getD j .any
 |[],k,j=>by simp[aEd,lk]
 |v::l,k,0=>by simp[aEd,lk]
 | v::l,k,j+1=>by
  have:Nat.beq k (k+(j+1))=false:=by
   cases hb:Nat.beq k (k+(j+1)) with
   |false=>rfl
   |true=>have:=f7 hb;omega
  have h2:=bCi (l:=l) (k:=k+1) (j:=j);rw[show k+1+j=k+(j+1) by omega] at h2;simp only[aEd,lk,this,g6,h2]
  simp
def aLo:AV->Bool
 | .bp .. =>false
 | .ep .. =>false
 | .tup _=>false
 | .fn _ _=>false
 | .mf _ _=>false
 |_=>true
def okR:AV->Bool
 | .bp .. =>false
 | .ep .. =>false
 | .tup vs=>vs.all aLo
 | .fn _ vs=>vs.all aLo
 | .mf _ vs=>vs.all aLo
 |_=>true
theorem cNp{w:World}{X:aR}{x:AV}{v:Value}(h:VR w X x v)(ρ:Rho)(hx:aLo x=true):ρ.a1 x=x:=by
 cases h with
 |any=>rfl
 |d h=>show AV.d _=_;rw[h.nohv ρ]
 |agg h=>show AV.agg _=_;rw[h.nohv ρ]
 |cp=>rfl
 |fl=>rfl
 |bp=>simp[aLo] at hx
 |ep=>simp[aLo] at hx
 |tup=>simp[aLo] at hx
 |fn=>simp[aLo] at hx
 |mf=>simp[aLo] at hx
theorem bSc{w:World}{X:aR}{vs:List AV}{us:List Value}(h:∀i,i<vs.length->VR w X (vs.getD i .any) (us.getD i undef))(ρ:Rho)(hx:(vs.all aLo)=true):vs.map ρ.a1=vs:=by
 refine bCb λx hxm=>?_;obtain⟨i,hi,rfl⟩:=n6 hxm;have h1:=h i hi;simp only[List.getD,g9 hi,u7] at h1;exact cNp h1 ρ (k6.1 hx _ hxm)
theorem cLh{w:World}{X:aR}{x:AV}{v:Value}(h:VR w X x v)(ρ:Rho)(hx:okR x=true):ρ.av x=x:=by
 cases h with
 |any=>rfl
 |d h=>show AV.d _=_;rw[h.nohv ρ]
 |agg h=>show AV.agg _=_;rw[h.nohv ρ]
 |cp=>rfl
 |fl=>rfl
 |bp=>simp[okR] at hx
 |ep=>simp[okR] at hx
 |tup hl h=>show AV.tup _=_;rw[bSc h ρ hx]
 |fn hl h=>show AV.fn _ _=_;rw[bSc h ρ hx]
 |mf hl h=>show AV.mf _ _=_;rw[bSc h ρ hx]
theorem bZp[Mode]{S:VS}{ρ:Rho}{d:Nat}{r:AV}(hr:okR r=true):Ent ((S.at ρ).set d r) ((VS.mk ((d,r)::S.env) S.objs).at ρ):=by
 intro A M w0 n a w hR;have h:=hR.env d;simp only[St.set,fD] at h;have e:=cLh h ρ hr;have:=at_set (ρ:=ρ) S d r;rw[e] at this;exact this▸hR
def aLr(β:lS):Rho:=⟨β,λ_=>0,λ_=>0,λ_=>undef⟩
theorem bUz[Mode]{args:List AV}{ρ:Rho}(h:args.all okR=true):Ent ⟨entry args,[]⟩ ((VS.mk (aEd 0 args) []).at ρ):=by
 intro A M w0 n a w hR;have e:(λk=>ρ.av (lk (aEd 0 args) k))=entry args:=by
  funext k
  have h1:=hR.env k;have h2:=bCi (l:=args) (k:=0) (j:=k);rw[s8] at h2;rw[h2];show ρ.av (args.getD k .any)=args.getD k .any;refine cLh h1 ρ ?_;show okR (args.getD k .any)=true
  by_cases hk:k<args.length
  ·simp only[List.getD,g9 hk,u7];exact k6.1 h _ (j9 hk)
  ·simp[List.getD,aC3 (show args.length<=k by omega),okR]
 show R A M w0 n ⟨λk=>ρ.av (lk (aEd 0 args) k),[]⟩ a w;rw[e];exact hR
theorem fnx[Mode]{P:Program}(T:TT P)(X:XP){f:FuncId}{fn:Func}{c:Code}{args:List AV}{r:AV}{N:Nat}(rs:List ResultVar)(hf:P.funcs[f]?=some fn)(hr:fn.results=rs.toArray)(hn:fn.ntmps=N)
  (h:wK T N (λ_=>(0,0,undef)) X c ⟨aEd 0 args,[]⟩ λe S=>e=.ret/\bSd T S r rs)(hb:fn.body=some c:=by exact rfl)(ha:(Nat.ble args.length N&&args.all okR)=true:=by exact rfl):Fn P f args r:=by
 simp only[f4] at ha;refine hZ hf hb hr hn (f5 ha.1) ?_;refine bPa (jZ (bUz (ρ:=aLr λ_=>(0,0,undef)) ha.2) (pA h _ rfl)) ?_;rintro e s ⟨S',ρ',hβ,⟨he,hres⟩,hent⟩;refine⟨_,hent,λhro=>⟨he,?_⟩⟩;obtain⟨r0,h1,h2⟩:=cLk hro hres;exact⟨r0,_,h1,by simp,h2⟩
end Go.Am
end
section
namespace Go.Am
def bFy(env:List (Nat×AV)):List Nat->List (Nat×AV)->List (Nat×AV)
 |[],us=>us
 |k::ks,us=>(k,lk env k)::bFy env ks us
def aZd(objs:List (Nat×VO)):List Nat->List (Nat×VO)->List (Nat×VO)
 |[],os=>os
 | h::hs,os=>match ob objs h with
  |some m=>(h,m)::aZd objs hs os
  |none=>aZd objs hs os
def VS.pt(S:VS)(ks:List Nat)(us:List (Nat×AV))(hs:List Nat)(os:List (Nat×VO)):VS:=⟨bFy S.env ks us,aZd S.objs hs os⟩
def aZc(env:List (Nat×AV)):List Nat->List (Nat×AV)->(List (Nat×AV)->Prop)->Prop
 |[],us,K=>K us
 |k::ks,us,K=>frc (lk env k) λv=>aZc env ks us λr=>K ((k,v)::r)
def aMk(objs:List (Nat×VO)):List Nat->List (Nat×VO)->(List (Nat×VO)->Prop)->Prop
 |[],os,K=>K os
 | h::hs,os,K=>match ob objs h with
  |some m=>aMk objs hs os λr=>K ((h,m)::r)
  |none=>aMk objs hs os K
def VS.ptK(S:VS)(ks:List Nat)(us:List (Nat×AV))(hs:List Nat)(os:List (Nat×VO))(K:VS->Prop):Prop:=aZc S.env ks us λenv=>aMk S.objs hs os λobjs=>K ⟨env,objs⟩
theorem bIh{env:List (Nat×AV)}{us:List (Nat×AV)}:∀{ks:List Nat} {K:List (Nat×AV)->Prop},aZc env ks us K->K (bFy env ks us)
 |[],_,h=>h
 |k::ks,K,h=>bIh (K:=λr=>K ((k,lk env k)::r)) (zW (K:=λv=>aZc env ks us λr=>K ((k,v)::r)) h)
theorem aWi{objs:List (Nat×VO)}{os:List (Nat×VO)}:∀{hs:List Nat} {K:List (Nat×VO)->Prop},aMk objs hs os K->K (aZd objs hs os)
 |[],_,h=>h
 | k::hs,K,h=>by
  simp only[aMk] at h;simp only[aZd];split at h
  ·rename_i m hm;exact aWi (K:=λr=>K ((k,m)::r)) h
  ·exact aWi h
theorem aPg{S:VS}{ks:List Nat}{us:List (Nat×AV)}{hs:List Nat}{os:List (Nat×VO)}{K:VS->Prop}(h:S.ptK ks us hs os K):K (S.pt ks us hs os):=
 aWi (K:=λobjs=>K ⟨bFy S.env ks us,objs⟩) (bIh (K:=λenv=>aMk S.objs hs os λobjs=>K ⟨env,objs⟩) h)
def rl:List (Nat×Nat)->Nat->Nat
 |[],h=>h
 |(a,b)::l,h=>bif Nat.beq a h then b else rl l h
def rnD(rn:List (Nat×Nat)):D->D
 | .hv q h j=>.hv q (rl rn h) j
 |x=>x
def rn0(rn:List (Nat×Nat)):AV->AV
 | .d x=>.d (rnD rn x)
 | .agg xs=>.agg (xs.map (rnD rn))
 | .bp h o j=>.bp (rl rn h) o j
 | .ep v k i c=>match v with
  | .map (some h)=>.ep (.map (some (rl rn h))) k i c
  |v=>.ep v k i c
 |x=>x
def rn1(rn:List (Nat×Nat)):AV->AV
 | .tup vs=>.tup (vs.map (rn0 rn))
 | .fn f vs=>.fn f (vs.map (rn0 rn))
 | .mf f vs=>.mf f (vs.map (rn0 rn))
 |x=>rn0 rn x
def rnA(rn:List (Nat×Nat)):AV->AV
 | .tup vs=>.tup (vs.map (rn1 rn))
 | .fn f vs=>.fn f (vs.map (rn1 rn))
 | .mf f vs=>.mf f (vs.map (rn1 rn))
 |x=>rn0 rn x
def rnO(rn:List (Nat×Nat)):VO->VO
 | .box ds=>.box (ds.map (rnD rn))
 |x=>x
def Rho.ren(ρ:Rho)(rn:List (Nat×Nat)):Rho:=⟨ρ.β,λh=>ρ.bb (rl rn h),λh=>ρ.oo (rl rn h),λh=>ρ.ss (rl rn h)⟩
def aXa:List (Nat×Nat)->Bool
 |[]=>true
 |p::l=>!(Nat.ble 100000 p.1)&&aXa l
theorem bXd:∀{rn:List (Nat×Nat)} {h:Nat},aXa rn=true->Nat.ble 100000 h=true->rl rn h=h
 |[],_,_,_=>rfl
 | p::l,h,hr,hb=>by
  simp only[aXa,f4,l6] at hr;simp only[rl];cases hp:Nat.beq p.1 h with
  |true=>have:=f7 hp;rw[this] at hr;rw[hb] at hr;cases hr.1
  |false=>exact bXd hr.2 hb
section
variable{ρ:Rho}{rn:List (Nat×Nat)}(hr:aXa rn=true)
include hr
theorem bAh(h:Nat):(ρ.ren rn).bb h=ρ.bb (rl rn h)/\(ρ.ren rn).oo h=ρ.oo (rl rn h)/\(ρ.ren rn).ss h=ρ.ss (rl rn h):=by
 cases hb:Nat.ble 100000 h with
 |false=>simp[Rho.bb,Rho.oo,Rho.ss,hb,Rho.ren]
 |true=>simp[Rho.bb,Rho.oo,Rho.ss,hb,Rho.ren,bXd hr hb]
theorem bJy(x:D):(ρ.ren rn).dd x=ρ.dd (rnD rn x):=by
 cases x with
 | hv q h j=>
  obtain⟨h1,h2,h3⟩:=bAh (ρ:=ρ) hr h;simp only[Rho.dd,rnD,h1,h2,h3]
 |_=>rfl
omit hr in
theorem xN{α β γ:Type}{f:α->β}{g:γ->β}{k:α->γ}(h:∀x,f x=g (k x))(l:List α):l.map f=(l.map k).map g:=by
 rw[aA6];exact aD1 λx _=>h x
theorem xY(x:AV):(ρ.ren rn).a0 x=ρ.a0 (rn0 rn x):=by
 cases x with
 |d x=>simp only[Rho.a0,rn0,bJy hr]
 |agg xs=>simp only[Rho.a0,rn0];rw[xN (bJy hr) xs]
 |bp h o j=>obtain⟨h1,h2,_⟩:=bAh (ρ:=ρ) hr h;simp only[Rho.a0,rn0,h1,h2]
 | ep v k i c=>
  cases v with
  | map r=>cases r with
   |none=>rfl
   |some h=>obtain⟨_,_,h3⟩:=bAh (ρ:=ρ) hr h;simp only[Rho.a0,rn0,h3]
  |_=>rfl
 |_=>rfl
theorem bJx(x:AV):(ρ.ren rn).a1 x=ρ.a1 (rn1 rn x):=by
 cases x with
 |tup vs=>simp only[Rho.a1,rn1];rw[xN (xY hr) vs]
 |fn f vs=>simp only[Rho.a1,rn1];rw[xN (xY hr) vs]
 |mf f vs=>simp only[Rho.a1,rn1];rw[xN (xY hr) vs]
 |any=>rfl
 |d x=>exact xY hr (.d x)
 |agg x=>exact xY hr (.agg x)
 |cp x=>rfl
 |bp b o j=>exact xY hr (.bp b o j)
 | ep v k i c=>
  have:=xY (ρ:=ρ) hr (.ep v k i c);cases v with
  |map r=>cases r<;>exact this
  |_=>exact this
 |fl=>rfl
theorem cLi(x:AV):(ρ.ren rn).av x=ρ.av (rnA rn x):=by
 cases x with
 |tup vs=>simp only[Rho.av,rnA];rw[xN (bJx hr) vs]
 |fn f vs=>simp only[Rho.av,rnA];rw[xN (bJx hr) vs]
 |mf f vs=>simp only[Rho.av,rnA];rw[xN (bJx hr) vs]
 |any=>rfl
 |d x=>exact xY hr (.d x)
 |agg x=>exact xY hr (.agg x)
 |cp x=>rfl
 |bp b o j=>exact xY hr (.bp b o j)
 | ep v k i c=>
  have:=xY (ρ:=ρ) hr (.ep v k i c);cases v with
  |map r=>cases r<;>exact this
  |_=>exact this
 |fl=>rfl
theorem cLj(h:Nat)(m:VO):(ρ.ren rn).mo h m=ρ.mo (rl rn h) (rnO rn m):=by
 obtain⟨h1,h2,h3⟩:=bAh (ρ:=ρ) hr h;cases m with
 |box ds=>simp only[Rho.mo,rnO,h1,h2];rw[xN (bJy hr) ds]
 |arr e k rows=>simp only[Rho.mo,rnO,h3]
 |map agg es=>simp only[Rho.mo,rnO,h1]
 |raw m=>rfl
 |gen H=>simp only[Rho.mo,rnO,h1,h3]
end
theorem bVw{env:List (Nat×AV)}{f:AV->AV}:∀{l:List (Nat×AV)},l.map (λp=>lk env p.1)=l.map (λp=>f p.2)->∀k,lk l k=.any\/f (lk l k)=lk env k
 |[],_,k=>.inl rfl
 | p::l,h,k=>by
  simp only[j3,aC7] at h;simp only[lk];cases hb:Nat.beq p.1 k with
  |true=>have:=f7 hb;subst this;exact .inr h.1.symm
  |false=>exact bVw h.2 k
def aLq:List (Nat×VO)->Nat->Nat
 |[],_=>0
 |(k,_)::l,h=>bif Nat.beq k h then 0 else aLq l h+1
theorem bAa{ρ:Rho}:∀{objs:List (Nat×VO)} {h:Nat} {m:VO},ob objs h=some m->(objs.map λp=>ρ.mo p.1 p.2)[aLq objs h]?=some (ρ.mo h m)/\(objs.map (·.1))[aLq objs h]?=some h
 |[],_,_,h=>by cases h
 | (k,x)::l,h,m,hm=>by
  simp only[ob] at hm;simp only[aLq];cases hb:Nat.beq k h with
  | true=>
   rw[hb] at hm;have:=f7 hb;subst this
   simp at hm;subst hm
   simp
  | false=>
   rw[hb] at hm;have:=bAa (ρ:=ρ) (by simpa using hm)
   simpa using this
theorem bDm{objs:List (Nat×VO)}:∀{l:List Nat},(∀h∈l,∃m,ob objs h=some m)->apart l=true->apart (l.map (aLq objs))=true
 |[],_,_=>rfl
 | h ::l,hl,ha=>by
  simp only[apart] at ha;cases hm:aY h l with
  |true=>rw[hm] at ha;simp at ha
  | false=>
   rw [hm] at ha;simp only[j3,apart];have:aY (aLq objs h) (l.map (aLq objs))=false:=by
    cases hq:aY (aLq objs h) (l.map (aLq objs)) with
    |false=>rfl
    | true=>
     obtain⟨g,hg,he⟩:=l5.1 (iV.1 hq);obtain⟨m1,h1⟩:=hl h (by simp);obtain⟨m2,h2⟩:=hl g (by simp[hg]);have e1:=(bAa (ρ:=aLr λ_=>(0,0,undef)) h1).2;have e2:=(bAa (ρ:=aLr λ_=>(0,0,undef)) h2).2;rw[he] at e2;rw[e1] at e2;cases e2;rw[iV.2 hg] at hm;cases hm
   rw[this];simp only[g6];exact bDm (λg hg=>hl g (by simp[hg])) (by simpa using ha)
theorem bJk{ρ:Rho}{rn:List (Nat×Nat)}(hr:aXa rn=true){objs:List (Nat×VO)}:∀{l:List (Nat×VO)},l.map (λp=>ob objs (rl rn p.1))=l.map (λp=>some (rnO rn p.2))->pick (objs.map λp=>ρ.mo p.1 p.2) ((l.map λp=>rl rn p.1).map (aLq objs))=some (l.map λp=>(ρ.ren rn).mo p.1 p.2)
 |[],_=>rfl
 | p::l,h=>by
  simp only[j3,aC7] at h;have h1:=(bAa (ρ:=ρ) h.1).1;have h2:=bJk (ρ:=ρ) hr (l:=l) h.2;simp only[j3,pick,h1];simp only[aA6] at h2|-;rw[h2];simp only[cLj hr]
theorem lev[Mode](rn:List (Nat×Nat)){β:lS}{S S':VS}(h1:S'.env.map (λp=>lk S.env p.1)=S'.env.map (λp=>rnA rn p.2):=by exact rfl)(h2:S'.objs.map (λp=>ob S.objs (rl rn p.1))=S'.objs.map (λp=>some (rnO rn p.2)):=by exact rfl)
  (h3:(aXa rn&&apart (S'.objs.map λp=>rl rn p.1))=true:=by exact rfl):LeV β S S':=by
 simp only[f4] at h3;intro ρ hρ;refine⟨ρ.ren rn,hρ,?_⟩;unfold VS.at;refine bE _ (bDm (objs:=S.objs) (λh hh=>?_) h3.2) (bJk h3.1 h2) λk=>?_
 ·obtain⟨p,hp,rfl⟩:=l5.1 hh;have:(λp:Nat×VO=>ob S.objs (rl rn p.1)) p=(λp:Nat×VO=>some (rnO rn p.2)) p:=List.map_inj_left.1 h2 p hp;exact⟨_,this⟩
 ·rcases bVw h1 k with h|h
  ·left;rw[h];rfl
  ·right;rw[cLi h3.1,h]
section
variable{α γ:Type}{r:γ}{x y:Option γ}{g:α->Option γ}
theorem br{c:Bool}{K:Bool->Prop}(h:(bif c then x else y)=some r)(ht:x=some r->K true)(hf:y=some r->K false):OB c K:=by
 cases c with
 |true=>exact⟨ht h⟩
 |false=>exact⟨hf h⟩
theorem brp{c:Bool}{p q:Prop}{K:Bool->Prop}(h:bif c then p else q)(ht:p->K true)(hf:q->K false):OB c K:=by
 cases c with
 |true=>exact⟨ht h⟩
 |false=>exact⟨hf h⟩
theorem oi{f:α->List D}{xs:List α}{p:Int}{K:List D->Prop}(h:(idx xs p).bind g=some r)(k:∀x,g x=some r->K (f x)):bGm (xs.map f) p K:=by
 obtain⟨x,hx,h⟩:=bind_some h;exact⟨⟨_,fM f hx,k x h⟩⟩
theorem ol{f:α->List D}{xs:List α}{K:Int->Prop}(k:K xs.length):bBg (xs.map f) K:=⟨⟨xs.length,by simp,k⟩⟩
theorem oap{f:α->List D}{k0 bytes:Nat}{xs ys:List α}{g:List α->Option γ}{K:List (List D)->Prop}(h:(app bytes xs ys).bind g=some r)(k:∀zs,g zs=some r->K (zs.map f))(hk:∀x,(f x).length=k0:=by exactλ_=>rfl):bPg k0 bytes (xs.map f) (ys.map f) K:=by
 obtain⟨zs,hz,h⟩:=bind_some h;obtain⟨h1,rfl⟩:=aIq hz;refine⟨⟨_,?_,gB hk,k _ h⟩⟩;simp only[app,m8,h1,aF2,v7]
theorem osb{f:α->List D}{xs:List α}{lo hi:Int}{g:List α->Option γ}{K:List (List D)->Prop}(h:(sub xs lo hi).bind g=some r)(k:∀zs,g zs=some r->K (zs.map f)):bBh (xs.map f) lo hi K:=by
 obtain⟨zs,hz,h⟩:=bind_some h;exact⟨⟨_,cId f hz,k _ h⟩⟩
theorem jg{S:VS}{m t:Nat}{ds:List Nat}{A:(VS->Prop)->Prop}{B:VS->Prop}{X:Option Bool}{g:Bool->Option γ}(h:X.bind g=some r)(ha:∀x,X=some x->A (GN S m t ds x))(hb:∀x,g x=some r->B ⟨(t,.b x)::qX ds S.env,S.objs⟩):JG S m t ds A B:=by
 obtain⟨x,hx,h⟩:=bind_some h;exact⟨⟨x,ha x hx,hb x h⟩⟩
theorem jt{S S':VS}{m t:Nat}{ds:List Nat}{v x:Bool}(h:some v=some x)(h1:aNw m S'.env=S.env:=by exact rfl)(h2:bBc (t::ds) m S'.env=true:=by exact rfl)(h3:lk S'.env t=.b v:=by exact rfl)(h4:S'.objs=S.objs:=by exact rfl):GN S m t ds x S':=by
 cases h;exact⟨h1,h2,h3,h4⟩
theorem jo{S:VS}{m t:Nat}{ds:List Nat}{A:(VS->Prop)->Prop}{B:VS->Prop}{X:Option Bool}{c:Bool}{g:Bool->Option γ}(h:X.bind g=some r)(ha:∀x,X=some x->A (GN S m t ds x))(hb:∀x,g x=some r->B ⟨(t,.b x)::qX ds S.env,S.objs⟩)(hc:c=true:=by kernel_rfl):JO c S m t ds A B:=by
 obtain⟨x,hx,h⟩:=bind_some h;exact⟨⟨hc,x,ha x hx,hb x h⟩⟩
end
theorem xlp[Mode]{P:Program}{T:TT P}{n:Nat}{β:lS}{X:XP}{c:Code}{S:VS}{Q:Exit->VS->Prop}{A R:Type}{r:R}{k0:Nat}(ks hs:List Nat)(σ:A->List (Nat×AV)×List (Nat×VO))(F:Nat->A->Option R)(a0:A)(h0:F k0 a0=some r)(he:LeV β S (S.pt ks (σ a0).1 hs (σ a0).2))
  (body:∀k a,F (k+1) a=some r->S.ptK ks (σ a).1 hs (σ a).2 λS1=>wK T n β X c S1 λe S'=>match e with| .normal=>∃a',F k a'=some r/\LeV β S' (S.pt ks (σ a').1 hs (σ a').2)|e=>Q e S')(hz:∀a,F 0 a=none:=by exactλ_=>rfl):OLp T n β X c S Q:=by
 refine⟨aIk he λρ hρ=>?_⟩;refine aUg (λs:A×{ρ:Rho // ρ.β=β}=>(S.pt ks (σ s.1).1 hs (σ s.1).2).at s.2.1) (λk s=>F k s.1) r (λs=>hz s.1) ?_ k0 (a0,⟨ρ,hρ⟩) h0;rintro k ⟨a,ρ1,h1⟩ hk;refine nJ (pA (aPg (body k a hk)) ρ1 h1) ?_;rintro e st ⟨S',ρ',hβ,hq,hent⟩;cases e with
 | normal=>
  obtain⟨a',ha,hl⟩:=hq;obtain⟨ρ2,h2,he2⟩:=hl ρ' hβ;exact⟨(a',⟨ρ2,h2⟩),ha,hent.trans he2⟩
 |_=>exact⟨S',ρ',hβ,hq,hent⟩
end Go.Am
end
end
section
section
namespace Go.Am
def hsD:D->List Nat
 | .hv _ h _=>[h]
 |_=>[]
def hs0:AV->List Nat
 | .d x=>hsD x
 | .agg xs=>xs.flatMap hsD
 | .bp h _ _=>[h]
 |_=>[]
def hs1:AV->List Nat
 | .tup vs=>vs.flatMap hs0
 | .fn _ vs=>vs.flatMap hs0
 |x=>hs0 x
def hsA:AV->List Nat
 | .tup vs=>vs.flatMap hs1
 | .fn _ vs=>vs.flatMap hs1
 |x=>hs0 x
def inX(objs:List (Nat×VO))(h:Nat):List Nat:=match ob objs h with
 |some (.box ds)=>ds.flatMap hsD
 |_=>[]
def aPx(objs:List (Nat×VO))(v:AV):List Nat:=hsA v++(hsA v).flatMap (inX objs)
section
variable{objs objs':List (Nat×VO)}
theorem bFi{x:D}(h:∀k∈hsD x,ob objs' k=ob objs k):vD1 objs' x=vD1 objs x:=by
 cases x with
 |hv q k j=>simp only[vD1,h k (by simp[hsD])]
 |_=>rfl
theorem aQf{xs:List D}(h:∀k∈xs.flatMap hsD,ob objs' k=ob objs k):xs.map (vD1 objs')=xs.map (vD1 objs):=
 aD1 λx hx=>bFi λk hk=>h k (aB7.2 ⟨x,hx,hk⟩)
theorem yF{x:AV}(h:∀k∈hs0 x,ob objs' k=ob objs k)(h2:∀k∈hs0 x,∀q∈inX objs k,ob objs' q=ob objs q):vA0 objs' x=vA0 objs x:=by
 cases x with
 |d x=>simp only[vA0];rw[bFi h]
 |agg xs=>simp only[vA0];rw[aQf h]
 | bp k o j=>
  have e:=h k (by simp[hs0]);simp only[vA0,e]
  split
  ·rename_i ds hm
   have:(ds.drop j).map (vD1 objs')=(ds.drop j).map (vD1 objs):=aQf λq hq=>h2 k (by simp[hs0]) q (by
    simp only[inX,hm];obtain⟨x,hx,hq⟩:=aB7.1 hq;exact aB7.2 ⟨x,List.mem_of_mem_drop hx,hq⟩)
   rw[this]
  ·rfl
 |_=>rfl
theorem bYa{x:AV}(h:∀k∈hs1 x,ob objs' k=ob objs k)(h2:∀k∈hs1 x,∀q∈inX objs k,ob objs' q=ob objs q):vA1 objs' x=vA1 objs x:=by
 have key:∀vs:List AV,(∀k∈vs.flatMap hs0,ob objs' k=ob objs k)->(∀k∈vs.flatMap hs0,∀q∈inX objs k,ob objs' q=ob objs q)->vs.map (vA0 objs')=vs.map (vA0 objs):=λvs h h2=>
  aD1 λx hx=>yF (λk hk=>h k (aB7.2 ⟨x,hx,hk⟩)) λk hk=>h2 k (aB7.2 ⟨x,hx,hk⟩)
 cases x with
 |tup vs=>simp only[vA1];rw[key vs h h2]
 |fn f vs=>simp only[vA1];rw[key vs h h2]
 |any=>rfl
 |d x=>exact yF (x:=.d x) h h2
 |agg x=>exact yF (x:=.agg x) h h2
 |cp x=>rfl
 |bp b o j=>exact yF (x:=.bp b o j) h h2
 |ep=>rfl
 |fl=>rfl
 |mf=>rfl
theorem bKz{x:AV}(h:∀k∈aPx objs x,ob objs' k=ob objs k):vA objs' x=vA objs x:=by
 have h1:∀k∈hsA x,ob objs' k=ob objs k:=λk hk=>h k (i6.2 (.inl hk));have h2:∀k∈hsA x,∀q∈inX objs k,ob objs' q=ob objs q:=λk hk q hq=>h q (i6.2 (.inr (aB7.2 ⟨k,hk,hq⟩)));have key:∀vs:List AV,(∀k∈vs.flatMap hs1,ob objs' k=ob objs k)->(∀k∈vs.flatMap hs1,∀q∈inX objs k,ob objs' q=ob objs q)->vs.map (vA1 objs')=vs.map (vA1 objs):=λvs h h2=>
  aD1 λx hx=>bYa (λk hk=>h k (aB7.2 ⟨x,hx,hk⟩)) λk hk=>h2 k (aB7.2 ⟨x,hx,hk⟩)
 cases x with
 |tup vs=>simp only[vA];rw[key vs h1 h2]
 |fn f vs=>simp only[vA];rw[key vs h1 h2]
 |any=>rfl
 |d x=>exact yF (x:=.d x) h1 h2
 |agg x=>exact yF (x:=.agg x) h1 h2
 |cp x=>rfl
 |bp b o j=>exact yF (x:=.bp b o j) h1 h2
 |ep=>rfl
 |fl=>rfl
 |mf=>rfl
end
theorem bDa[Mode]{P:Program}{n:Nat}{o:Oper}{st:St}{Q:St->Prop}(h:qW st.objs->Step P n o st Q):Step P n o st Q:=
 λA M w0 a w hR=>h (aSv hR.inv.holds) A M w0 a w hR
def nlA:AV->AV->AV
 | .d (.lit (.slice none 0 0)),.d (.sl k _)=>.d (.sl k [])
 |a,_=>a
def nlL:List AV->List AV->List AV
 |a::l,b::m=>nlA a b::nlL l m
 |l,_=>l
theorem cEi(a b:AV):nlA a b=a\/(a=.d (.lit (.slice none 0 0))/\∃k,nlA a b=.d (.sl k [])):=by
 unfold nlA
 split
 ·exact .inr ⟨rfl,_,rfl⟩
 ·exact .inl rfl
theorem aMq{objs:List (Nat×VO)}{ρ:Rho}{fs:List MO}:∀{ars bs:List AV},(∀x∈ars,okA (vA objs x)=true->BV fs (ρ.av x) (vA objs x))->(nlL (ars.map (vA objs)) bs).all okA=true->BVs fs (ars.map ρ.av) (nlL (ars.map (vA objs)) bs)
 | [],_,_,_=>by
  rename_i bs
  cases bs<;>exact .nil
 | a::l,[],h,ho=>by
  simp only[j3,nlL,aA9,f4] at ho|-;refine .cons (h a (by simp) ho.1) ?_;have:nlL (l.map (vA objs)) []=l.map (vA objs):=by cases l<;>rfl
  have:=aMq (ars:=l) (bs:=[]) (λx hx=>h x (by simp[hx])) (by rw[this];exact ho.2)
  rwa[show nlL (l.map (vA objs)) []=l.map (vA objs) by cases l<;>rfl] at this
 | a ::l,b::m,h,ho=>by
  simp only[j3,nlL,aA9,f4] at ho|-;refine .cons ?_ (aMq (λx hx=>h x (by simp[hx])) ho.2)
  rcases cEi (vA objs a) b with he|⟨he,k,hk⟩
  ·rw[he] at ho|-;exact h a (by simp) ho.1
  ·rw [hk];have:=h a (by simp) (by rw[he];rfl);have e:a=.d (.lit (.slice none 0 0)):=by
    cases a with
    | d x=>
     cases x with
     | hv q g j=>
      simp only[vA,vA0,vD1] at he;split at he<;>cases he
     |lit v=>exact he
     |_=>cases he
    | bp b o j=>
     simp only[vA,vA0] at he;split at he
     ·cases hx:(Nat.ble j _&&_)<;>rw[hx] at he<;>cases he
     ·cases he
    |_=>cases he
   rw[e];exact .d (.nil k)
def bIo:List Nat->(List Nat->Prop)->Prop
 |[],K=>K []
 |x::l,K=>bIo l λr=>K (x::r)
theorem bIp:∀{l:List Nat} {K:List Nat->Prop},bIo l K->K l
 |[],_,h=>h
 |x::l,K,h=>bIp (K:=λr=>K (x::r)) h
def lE(S:VS)(l:List Operand):Callee->Option (FuncId×List AV)
 | .value (.func f)=>some (f,l.map S.ev)
 | .value (.tmp t)=>match lk S.env t with
  | .fn f caps=>bif aQx caps then some (f,l.map S.ev++caps) else none
  |_=>none
 |_=>none
section
variable{P:Program}{n d:Nat}{S:VS}{ty:TypeId}{pos:String}{af:Array Edge}{gd:Option (Nat×Bool)}{K:Eff->Prop}{c:Callee}{l:List Operand}{ts:Array TypeId}{f:FuncId}{ars:List AV}
theorem aFm{S':VS}{us:List Nat}(hA:Agr (.call ⟨c,l.toArray,ts⟩) S S' us)(hc:lE S l c=some (f,ars))(he:∀args w,(callFunc f args).run P w=.ok (.enter f args) w)(ρ:Rho):∃a0,lH P (S'.at ρ) c l f a0/\a0=ars.map ρ.av:=by
 unfold lE at hc;have hl:∀x∈l,S'.ev x=S.ev x:=λx hx=>hA.ev x (by cases c<;>simp[Op.operands,Call.operands,hx]);split at hc
 ·cases hc;exact⟨_,.func _ _ he,aOa ρ hl⟩
 ·rename_i t
  split at hc
  ·rename_i caps ht
   cases hf:aQx caps with
   |false=>rw[hf] at hc;cases hc
   | true=>
    rw[hf] at hc;cases hc;have ht':lk S'.env t=.fn f caps:=by
     have:=hA.ev (.tmp t) (by simp[Op.operands,Call.operands]);exact this.trans ht
    refine⟨_,.clo t f (caps.map ρ.a1) l he (aCi ht'),?_⟩;rw[aOa ρ hl,v7,bGr ρ hf]
  ·cases hc
 ·cases hc
theorem bCq{r:AV}(h:r.one1=true)(ρ:Rho):ρ.av r=r/\ρ.a1 r=r:=by
 cases r with
 |d x=>obtain⟨v,rfl⟩:=D.isLit_spec h;exact⟨rfl,rfl⟩
 | agg xs=>
  have e:xs.map ρ.dd=xs:=rY (p:=D.isLit) (λx hx=>by obtain⟨v,rfl⟩:=D.isLit_spec hx;rfl) h;exact⟨aA5 AV.agg e,aA5 AV.agg e⟩
 |_=>simp[AV.one1] at h
theorem cAo{r:AV}(h:r.isLit=true)(ρ:Rho):ρ.av r=r:=by
 cases r with
 | tup vs=>
  simp only[AV.isLit] at h;show AV.tup _=_;rw[rY (p:=AV.one1) (λx hx=>(bCq hx ρ).2) h]
 |d x=>exact(bCq (r:=.d x) h ρ).1
 |agg xs=>exact(bCq (r:=.agg xs) h ρ).1
 |_=>simp[AV.isLit,AV.one1] at h
theorem bFh{ars:List AV}{objs:List (Nat×VO)}{x:AV}(hx:x∈ars){k:Nat}(hk:k∈aPx objs x):k∈ars.flatMap (aPx objs):=aB7.2 ⟨x,hx,hk⟩
theorem ocl[Mode]{args':List AV}{r:AV}(he:∀args w,(callFunc f args).run P w=.ok (.enter f args) w)(hf:Fn P f args' r)(hd:d<n)(hc:lE S l c=some (f,ars))(hv:nlL (ars.map (vA S.objs)) args'=args')(hok:(fU l&&args'.all okA)=true)(hl:r.isLit=true)(k:K (.r r (ars.flatMap (aPx S.objs)))):
  bY P n ⟨some d,.call ⟨c,l.toArray,ts⟩,ty,pos,af,gd⟩ S K:=by
 simp only[f4] at hok;refine dP k λS' hA ρ=>bDa λhro=>?_;obtain⟨a0,h1,h2⟩:=aFm hA hc he ρ;have e:ρ.av r=r:=cAo hl ρ;rw[e];refine pB hd h1 h2 hok.1 ?_ hf hl;have hro':qW (S'.objs.map λp=>ρ.mo p.1 p.2):=hro;have hok2:=hok.2;rw[<-hv] at hok2|-;exact aMq (λx hx ha=>aHx ρ hro' (bKz λk hk=>hA.ob k (bFh hx hk)) ha) hok2
theorem ocd[Mode]{args':List AV}{r:AV}(he:∀args w,(callFunc f args).run P w=.ok (.enter f args) w)(hf:Fn P f args' r)(hd:d<n)(hc:lE S l c=some (f,ars))(hv:nlL ars args'=args')(hok:(fU l&&ars.all okA)=true)(hl:okR r=true)(k:K (.p r)):
  bY P n ⟨some d,.call ⟨c,l.toArray,ts⟩,ty,pos,af,gd⟩ S K:=by
 simp only[f4] at hok;refine⟨⟨_,k,λS' hA _ ρ=>?_⟩⟩;obtain⟨a0,h1,h2⟩:=aFm hA hc he ρ;rw[rY (λx=>qB ρ (x:=x)) hok.2] at h2;have hb:BVs [] ars args':=by
  rw [<-hv];have key:∀{ars bs:List AV},BVs [] ars (nlL ars bs):=by
   intro ars
   induction ars with
   |nil=>intro bs;cases bs<;>exact .nil
   | cons a l ih=>
    intro bs;cases bs with
    |nil=>exact BVs.refl _ _
    | cons b m=>
     refine .cons ?_ ih
     rcases cEi a b with he|⟨he,k,hk⟩
     ·rw[he];exact .same _
     ·rw[hk,he];exact .d (.nil k)
  exact key
 exact cM (mZ hd h1 h2 hok.1 hb hf) λs hs=>⟨ρ,rfl,hs▸bZp (S:=S') hl⟩
section
variable{α γ:Type}{sh:Option α}{r:γ}{g:α->Option γ}{enc:α->AV}{args':List AV}
theorem cl[Mode](he:∀args w,(callFunc f args).run P w=.ok (.enter f args) w)(hf:∀x,sh=some x->Fn P f args' (enc x))(h:sh.bind g=some r)(k:∀x,g x=some r->bIo (ars.flatMap (aPx S.objs)) λus=>K (.r (enc x) us))
  (hc:lE S l c=some (f,ars):=by exact rfl)(hv:nlL (ars.map (vA S.objs)) args'=args':=by exact rfl)(hok:(Nat.ble (d+1) n&&(fU l&&args'.all okA))=true:=by exact rfl)(hl:∀x,(enc x).isLit=true:=by exactλ_=>rfl):
  bY P n ⟨some d,.call ⟨c,l.toArray,ts⟩,ty,pos,af,gd⟩ S K:=by
 obtain⟨x,hx,h⟩:=bind_some h;simp only[f4] at hok;exact ocl he (hf x hx) (f5 hok.1) hc hv (by simp only[f4];exact hok.2) (hl x) (bIp (K:=λus=>K (.r (enc x) us)) (k x h))
theorem cd[Mode](he:∀args w,(callFunc f args).run P w=.ok (.enter f args) w)(hf:∀x,sh=some x->Fn P f args' (enc x))(h:sh.bind g=some r)(k:∀x,g x=some r->K (.p (enc x)))
  (hc:lE S l c=some (f,ars):=by exact rfl)(hv:nlL ars args'=args':=by exact rfl)(hok:(Nat.ble (d+1) n&&(fU l&&ars.all okA))=true:=by exact rfl)(hl:∀x,okR (enc x)=true:=by exactλ_=>rfl):
  bY P n ⟨some d,.call ⟨c,l.toArray,ts⟩,ty,pos,af,gd⟩ S K:=by
 obtain⟨x,hx,h⟩:=bind_some h;simp only[f4] at hok;exact ocd he (hf x hx) (f5 hok.1) hc hv (by simp only[f4];exact hok.2) (hl x) (k x h)
end
end
theorem obt{K:Bool->Prop}(k:K true):OB true K:=⟨k⟩
theorem obf{K:Bool->Prop}(k:K false):OB false K:=⟨k⟩
section
variable{α γ:Type}{r:γ}
theorem onz{q:Int}{p:Prop}{g:Unit->Option γ}(h:(chk (!decide (q=0))).bind g=some r)(k:g ()=some r->p):q≠0/\p:=by
 obtain⟨u,hu,h⟩:=bind_some h;exact⟨cNh hu,k h⟩
theorem oge{q:Int}{p:Prop}{g:Unit->Option γ}(h:(chk (decide (0<=q))).bind g=some r)(k:g ()=some r->p):0<=q/\p:=by
 obtain⟨u,hu,h⟩:=bind_some h;exact⟨aYw hu,k h⟩
theorem oiy{f:α->List D}{g:α->Option γ}{xs:List α}{p:Int}{K:List D->Prop}(h:(idx xs p).bind g=some r)(k:∀x,idx xs p=some x->g x=some r->K (f x)):bGm (xs.map f) p K:=by
 obtain⟨x,hx,h⟩:=bind_some h;exact⟨⟨_,fM f hx,k x hx h⟩⟩
end
section
variable{P:Program}{n d:Nat}{S:VS}{ty:TypeId}{pos:String}{af:Array Edge}{gd:Option (Nat×Bool)}{K:Eff->Prop}{x y:Operand}{t u:TypeId}
theorem bCp[Mode]{α:Type}[DecidableEq α]{enc:α->List D}{a b:α}(hg:P.eqGuardType P.depth t=false)(he:aDw P t enc)(k:K (.p (.b (decide (a=b)))))(hx:S.ev x=.agg (enc a):=by exact rfl)(hy:S.ev y=.agg (enc b):=by exact rfl)
  (hl:(Nat.ble (d+1) n&&(dY (enc a)&&dY (enc b)))=true:=by exact rfl)(hv:(enc a++enc b).any hvD=false:=by exact rfl):bY P n ⟨some d,.binOp .eql t x y u,ty,pos,af,gd⟩ S K:=by
 simp only[f4] at hl;rw[List.any_append,j7] at hv;refine dP (us:=[]) k λS' hA ρ=>?_;have h1:=evS (ρ:=ρ) hA (by simp[Op.operands]) hx;have h2:=evS (ρ:=ρ) hA (by simp[Op.operands]) hy;have e1:ρ.av (.agg (enc a))=.agg (enc a):=by show AV.agg _=_;rw[aAl ρ hv.1]
 have e2:ρ.av (.agg (enc b))=.agg (enc b):=by show AV.agg _=_;rw[aAl ρ hv.2]
 exact cNq (f5 hl.1) (h1.trans e1) (h2.trans e2) hl.2.1 hl.2.2 hg he
theorem bRm[Mode]{α:Type}[DecidableEq α]{enc:α->List D}{a b:α}(hg:P.eqGuardType P.depth t=false)(he:aDw P t enc)(k:K (.p (.b (!decide (a=b)))))(hx:S.ev x=.agg (enc a):=by exact rfl)(hy:S.ev y=.agg (enc b):=by exact rfl)
  (hl:(Nat.ble (d+1) n&&(dY (enc a)&&dY (enc b)))=true:=by exact rfl)(hv:(enc a++enc b).any hvD=false:=by exact rfl):bY P n ⟨some d,.binOp .neq t x y u,ty,pos,af,gd⟩ S K:=by
 simp only[f4] at hl;rw[List.any_append,j7] at hv;refine dP (us:=[]) k λS' hA ρ=>?_;have h1:=evS (ρ:=ρ) hA (by simp[Op.operands]) hx;have h2:=evS (ρ:=ρ) hA (by simp[Op.operands]) hy;have e1:ρ.av (.agg (enc a))=.agg (enc a):=by show AV.agg _=_;rw[aAl ρ hv.1]
 have e2:ρ.av (.agg (enc b))=.agg (enc b):=by show AV.agg _=_;rw[aAl ρ hv.2]
 exact cNs (f5 hl.1) (h1.trans e1) (h2.trans e2) hl.2.1 hl.2.2 hg he
theorem cNi[Mode]{p q:Int}(k:K (.p (.i (bYs p q))))(hx:S.ev x=.i p:=by exact rfl)(hy:S.ev y=.i q:=by exact rfl)(hl:Nat.ble (d+1) n=true:=by exact rfl):bY P n ⟨some d,.binOp .and t x y u,ty,pos,af,gd⟩ S K:=
 dP (us:=[]) k λ_ hA _=>bAm (f5 hl) (evS hA (by simp[Op.operands]) hx) (evS hA (by simp[Op.operands]) hy) (.inl ⟨rfl,rfl⟩)
theorem cEj[Mode]{p q:Int}(k:K (.p (.i (bBk p q))))(hx:S.ev x=.i p:=by exact rfl)(hy:S.ev y=.i q:=by exact rfl)(hl:Nat.ble (d+1) n=true:=by exact rfl):bY P n ⟨some d,.binOp .xor t x y u,ty,pos,af,gd⟩ S K:=
 dP (us:=[]) k λ_ hA _=>bAm (f5 hl) (evS hA (by simp[Op.operands]) hx) (evS hA (by simp[Op.operands]) hy) (.inr (.inr ⟨rfl,rfl⟩))
theorem bRk[Mode]{k0:IntKind}{p q:Int}{ts:Array TypeId}(k:K (.p (.d (.lit (.int k0 (max p q))))))(hx:S.ev x=.d (.lit (.int k0 p)):=by exact rfl)(hy:S.ev y=.d (.lit (.int k0 q)):=by exact rfl)(hl:Nat.ble (d+1) n=true:=by exact rfl):
  bY P n ⟨some d,.call {callee:=.builtin .max,args:= #[x,y],argTypes:=ts},ty,pos,af,gd⟩ S K:=
 dP (us:=[]) k λ_ hA _=>bSk (f5 hl) (evS hA (by simp[Op.operands,Call.operands]) hx) (evS hA (by simp[Op.operands,Call.operands]) hy)
theorem cKu[Mode]{k0:IntKind}{p q:Int}{ts:Array TypeId}(k:K (.p (.d (.lit (.int k0 (min p q))))))(hx:S.ev x=.d (.lit (.int k0 p)):=by exact rfl)(hy:S.ev y=.d (.lit (.int k0 q)):=by exact rfl)(hl:Nat.ble (d+1) n=true:=by exact rfl):
  bY P n ⟨some d,.call {callee:=.builtin .min,args:= #[x,y],argTypes:=ts},ty,pos,af,gd⟩ S K:=
 dP (us:=[]) k λ_ hA _=>cEs (f5 hl) (evS hA (by simp[Op.operands,Call.operands]) hx) (evS hA (by simp[Op.operands,Call.operands]) hy)
end
end Go.Am
end
section
section
namespace Go.Am
section
variable{P:Program}{n d:Nat}{st:St}{o:Oper}
end
section
variable{P:Program}{n d:Nat}{st:St}{o:Oper}
end
end Go.Am
end
section
namespace Go.Am
def aFt(n:Int):List D:=[.lit (.int .u8 n)]
def lZ(a b:Str):Option Str:=if a.length+b.length<=9223372036854775807 then some (a++b) else none
theorem bXl{a b c:Str}(h:lZ a b=some c):a.length+b.length<=9223372036854775807/\c=a++b:=by
 unfold lZ at h;split at h
 ·rename_i hc;cases h;exact⟨hc,rfl⟩
 ·cases h
def sat(s:Str)(i:Int):Option Int:=if 0<=i then(s[i.toNat]?).map λb=>(b.toNat:Int) else none
theorem cCj{s:Str}{i r:Int}(h:sat s i=some r):0<=i/\∃b,s[i.toNat]?=some b/\r=b.toNat:=by
 unfold sat at h;split at h
 ·rename_i hc
  cases hb:s[i.toNat]? with
  |none=>rw[hb] at h;cases h
  |some b=>rw[hb] at h;cases h;exact⟨hc,b,rfl,rfl⟩
 ·cases h
theorem bTy(a b:Str):(⟨a.toArray⟩:ByteArray)++⟨b.toArray⟩=⟨(a++b).toArray⟩:=by
 apply ByteArray.ext;rw[ByteArray.data_append]
 simp
theorem pC(a:Str):(⟨a.toArray⟩:ByteArray).size=a.length:=rfl
theorem bDn(a:Str):(⟨a.toArray⟩:ByteArray).toList=a:=by
 rw[ByteArray.toList_eq]
theorem aNp(a:Str)(l h:Nat):(⟨a.toArray⟩:ByteArray).extract l h=⟨((a.take h).drop l).toArray⟩:=by
 apply ByteArray.ext;rw[ByteArray.data_extract]
 simp[List.extract_eq_take_drop,List.drop_take]
section
variable{P:Program}{n d:Nat}{st:St}{x y:Operand}{t u ty:TypeId}{pos:String}{af:Array Edge}{gd:Option (Nat×Bool)}{a b c:Str}
theorem cLr[Mode](hd:d<n)(hx:st.eval x=.d (.lit (sv a)))(hy:st.eval y=.d (.lit (sv b)))(h:lZ a b=some c):
  aQ P n ⟨some d,.binOp .add t x y u,ty,pos,af,gd⟩ st (st.set d (.d (.lit (sv c)))):=
 gH rfl hd rfl λA M w0 ac w hR=>by
  obtain⟨h1,rfl⟩:=bXl h;have h2:¬(((⟨a.toArray⟩:ByteArray).size+(⟨b.toArray⟩:ByteArray).size:Nat):Int)>IntKind.i64.max:=by
   rw[pC,pC];simp[IntKind.max,IntKind.bits,IntKind.signed];omega
  simp only[execOp,hR.lit hx,hR.lit hy,sv,eqGuard,binOp,Op.stringOp,h2,aB8,bTy]
  rfl
theorem cNv[Mode](hd:d<n)(hx:st.eval x=.d (.lit (sv a)))(hy:st.eval y=.d (.lit (sv b))):
  aQ P n ⟨some d,.binOp .eql t x y u,ty,pos,af,gd⟩ st (st.set d (.b (decide (a=b)))):=
 gH rfl hd rfl λA M w0 ac w hR=>by
  simp only[execOp,hR.lit hx,hR.lit hy,sv,eqGuard,binOp,Op.stringOp,bDn]
  by_cases h:a=b<;>simp[h]
theorem cNw[Mode](hd:d<n)(hx:st.eval x=.d (.lit (sv a)))(hy:st.eval y=.d (.lit (sv b))):
  aQ P n ⟨some d,.binOp .neq t x y u,ty,pos,af,gd⟩ st (st.set d (.b (!decide (a=b)))):=
 gH rfl hd rfl λA M w0 ac w hR=>by
  simp only[execOp,hR.lit hx,hR.lit hy,sv,eqGuard,binOp,Op.stringOp,bDn]
  by_cases h:a=b<;>simp[h]
theorem cLt[Mode](hd:d<n)(hx:st.eval x=.d (.lit (sv a)))(ht:P.underlying t=some .string):
  aQ P n ⟨some d,.call {callee:=.builtin .len,args:= #[x],argTypes:= #[t]},ty,pos,af,gd⟩ st (st.set d (.i a.length)):=
 gH rfl hd rfl λA M w0 ac w hR=>by
  simp[execOp,resolve,hR.lit hx,sv,invoke,builtin,Builtin.len_,goInt,run_underlying ht,pC]
theorem cLs[Mode]{k:IntKind}{i r:Int}(hd:d<n)(hx:st.eval x=.d (.lit (sv a)))(hy:st.eval y=.d (.lit (.int k i)))(ht:P.underlying t=some .string)(h:sat a i=some r):
  aQ P n ⟨some d,.index t x y,ty,pos,af,gd⟩ st (st.set d (.d (.lit (.int .u8 r)))):=
 gH rfl hd rfl λA M w0 ac w hR=>by
  obtain⟨h0,b,hb,rfl⟩:=cCj h;have hg:(⟨a.toArray⟩:ByteArray)[i.toNat]?=some b:=by
   obtain⟨hlt,rfl⟩:=g7.1 hb;rw[getElem?_pos (⟨a.toArray⟩:ByteArray) i.toNat (by rw[pC];exact hlt)]
   rfl
  simp[execOp,hR.lit hx,hR.lit hy,sv,Instr.index,asIntOf,run_underlying ht,h0,hg]
theorem cLu[Mode]{lo hi:Option Operand}{p q:Int}(hd:d<n)(ht:P.underlying t=some .string)(hx:st.eval x=.d (.lit (sv a)))(hlo:nE st lo 0=some p)(hhi:nE st hi a.length=some q)(hs:sub a p q=some c):
  aQ P n ⟨some d,.slice t x lo hi none,ty,pos,af,gd⟩ st (st.set d (.d (.lit (sv c)))):=
 gH rfl hd rfl λA M w0 ac w hR=>by
  obtain⟨h1,h2,h3,rfl⟩:=aXh hs;have b1:lo=none/\p=0\/∃y kd,lo=some y/\ac.eval y=.int kd p:=by
   cases lo with
   |none=>left;simp only[nE,m7] at hlo;exact⟨rfl,hlo.symm⟩
   | some y=>
    right
    simp only[nE] at hlo;split at hlo
    ·rename_i kd p' he;cases hlo;exact⟨y,kd,rfl,hR.lit he⟩
    ·cases hlo
  have b2:hi=none/\q=a.length\/∃y kd,hi=some y/\ac.eval y=.int kd q:=by
   cases hi with
   |none=>left;simp only[nE,m7] at hhi;exact⟨rfl,hhi.symm⟩
   | some y=>
    right
    simp only[nE] at hhi;split at hhi
    ·rename_i kd p' he;cases hhi;exact⟨y,kd,rfl,hR.lit he⟩
    ·cases hhi
  have e1:(Instr.sliceBounds false a.length a.length (lo.map ac.eval) (hi.map ac.eval) none).run P w=.ok (p.toNat,q.toNat,a.length) w:=by
   rcases b1 with⟨rfl,rfl⟩|⟨y,kd,rfl,hy⟩<;>rcases b2 with⟨rfl,rfl⟩|⟨y',kd',rfl,hy'⟩
   ·simp[Instr.sliceBounds]
   ·simp[Instr.sliceBounds,Instr.sliceBound,asIntOf,hy',show 0<=q by omega,show q<=(a.length:Int) by omega]
   ·simp[Instr.sliceBounds,Instr.sliceBound,asIntOf,hy,h1,show p<=(a.length:Int) by omega]
   ·simp[Instr.sliceBounds,Instr.sliceBound,asIntOf,hy',hy,h1,show 0<=q by omega,show q<=(a.length:Int) by omega]
    intro h0
    omega
  simp[execOp,Instr.sliceAt,Instr.slice,run_underlying ht,hR.lit hx,sv,pC,e1,aNp]
end
section
variable{P:Program}{n d:Nat}{S:VS}{ty:TypeId}{pos:String}{af:Array Edge}{gd:Option (Nat×Bool)}{K:Eff->Prop}{x y:Operand}{t u:TypeId}{γ:Type}{r:γ}{a b:Str}
theorem cEm[Mode]{g:Str->Option γ}(h:(lZ a b).bind g=some r)(k:∀z,g z=some r->K (.p (.d (.lit (sv z)))))(hx:S.ev x=.d (.lit (sv a)):=by exact rfl)(hy:S.ev y=.d (.lit (sv b)):=by exact rfl)(hl:Nat.ble (d+1) n=true:=by exact rfl):
  bY P n ⟨some d,.binOp .add t x y u,ty,pos,af,gd⟩ S K:=by
 obtain⟨z,hz,h⟩:=bind_some h;exact dP (us:=[]) (k z h) λ_ hA _=>cLr (f5 hl) (evS hA (by simp[Op.operands]) hx) (evS hA (by simp[Op.operands]) hy) hz
theorem cNo[Mode]{kk:IntKind}{i:Int}{g:Int->Option γ}(ht:P.underlying t=some .string)(h:(sat a i).bind g=some r)(k:∀z,g z=some r->K (.p (.d (.lit (.int .u8 z)))))(hx:S.ev x=.d (.lit (sv a)):=by exact rfl)(hy:S.ev y=.d (.lit (.int kk i)):=by exact rfl)(hl:Nat.ble (d+1) n=true:=by exact rfl):
  bY P n ⟨some d,.index t x y,ty,pos,af,gd⟩ S K:=by
 obtain⟨z,hz,h⟩:=bind_some h;exact dP (us:=[]) (k z h) λ_ hA _=>cLs (f5 hl) (evS hA (by simp[Op.operands]) hx) (evS hA (by simp[Op.operands]) hy) ht hz
theorem cBt[Mode](k:K (.p (.b (decide (a=b)))))(hx:S.ev x=.d (.lit (sv a)):=by exact rfl)(hy:S.ev y=.d (.lit (sv b)):=by exact rfl)(hl:Nat.ble (d+1) n=true:=by exact rfl):
  bY P n ⟨some d,.binOp .eql t x y u,ty,pos,af,gd⟩ S K:=
 dP (us:=[]) k λ_ hA _=>cNv (f5 hl) (evS hA (by simp[Op.operands]) hx) (evS hA (by simp[Op.operands]) hy)
theorem cBu[Mode](k:K (.p (.b (!decide (a=b)))))(hx:S.ev x=.d (.lit (sv a)):=by exact rfl)(hy:S.ev y=.d (.lit (sv b)):=by exact rfl)(hl:Nat.ble (d+1) n=true:=by exact rfl):
  bY P n ⟨some d,.binOp .neq t x y u,ty,pos,af,gd⟩ S K:=
 dP (us:=[]) k λ_ hA _=>cNw (f5 hl) (evS hA (by simp[Op.operands]) hx) (evS hA (by simp[Op.operands]) hy)
theorem cEn[Mode](ht:P.underlying t=some .string)(k:K (.p (.i a.length)))(hx:S.ev x=.d (.lit (sv a)):=by exact rfl)(hl:Nat.ble (d+1) n=true:=by exact rfl):
  bY P n ⟨some d,.call {callee:=.builtin .len,args:= #[x],argTypes:= #[t]},ty,pos,af,gd⟩ S K:=
 dP (us:=[]) k λ_ hA _=>cLt (f5 hl) (evS hA (by simp[Op.operands,Call.operands]) hx) ht
def bFw(S:VS):Option Operand->Int->Option Int
 |none,z=>some z
 |some x,_=>match S.ev x with| .d (.lit (.int _ p))=>some p|_=>none
theorem bUc{S':VS}{us:List Nat}{op:Op}{lo:Option Operand}{z p:Int}{ρ:Rho}(hA:Agr op S S' us)(hm:∀x,lo=some x->x∈op.operands.toList)(h:bFw S lo z=some p):nE (S'.at ρ) lo z=some p:=by
 cases lo with
 |none=>exact h
 | some x=>
  simp only[bFw] at h;split at h
  ·rename_i kd q hq
   cases h;have:=evS (ρ:=ρ) hA (hm x rfl) hq;simp only[nE,this]
   rfl
  ·cases h
theorem cEo[Mode]{lo hi:Option Operand}{p q:Int}{g:Str->Option γ}(ht:P.underlying t=some .string)(h:(sub a p q).bind g=some r)(k:∀z,g z=some r->K (.p (.d (.lit (sv z)))))(hx:S.ev x=.d (.lit (sv a)):=by exact rfl)
  (hlo:bFw S lo 0=some p:=by exact rfl)(hhi:bFw S hi a.length=some q:=by exact rfl)(hl:Nat.ble (d+1) n=true:=by exact rfl):bY P n ⟨some d,.slice t x lo hi none,ty,pos,af,gd⟩ S K:=by
 obtain⟨z,hz,h⟩:=bind_some h;exact dP (us:=[]) (k z h) λ_ hA _=>cLu (f5 hl) ht (evS hA (by simp[Op.operands]) hx) (bUc hA (λx e=>by subst e;simp[Op.operands]) hlo) (bUc hA (λx e=>by subst e;simp[Op.operands]) hhi) hz
end
end Go.Am
end
section
namespace Go.Am
section
variable{P:Program}{n d:Nat}{st:St}{o:Oper}{f e k j:Nat}{vs:List Value}{v:Value}{α:Type}{g:α->List D}{c c':List (List α)}{row:List α}
end
theorem bLy[Mode]{env:Nat->AV}{objs:List MO}{i e k bytes:Nat}{vs:List Value}{v:Value}{α:Type}{g:α->List D}{c c':List (List α)}{row:List α}(keepers final:List MO)
  (ho:objs=keepers++[.arr v e k (row.map g)])(hi:keepers[i]?=some (.fam e k vs (c.map λr=>r.map g)))(hb:app bytes c [row]=some c')(hfi:keepers.set i (.fam e k (vs++[v]) (c'.map λr=>r.map g))=final):
  Ent ⟨env,objs⟩ ⟨env,final⟩:=by
 subst ho;subst hfi;have hc:c'=c++[row]:=by
  unfold app at hb;split at hb
  ·exact(z7 hb).symm
  ·cases hb
 subst hc;have:=bZo (env:=env) (v:=v) (rows:=row.map g) hi
 simpa using this
theorem bUw{α:Type}{fs:List MO}(i j:Nat){v0:Value}{e0 e k:Nat}{vs:List Value}{g:α->List D}{c:List (List α)}(ho:fs[i]?=some (.arr v0 e0 1 (vs.map λv=>[.lit v])))(hf:fs[j]?=some (.fam e k vs (c.map λr=>r.map g))){h:List α->List D}(hh:∀r,h r=[.sl k (r.map g)]):
  DV fs (.lit v0) (.sl 1 (c.map h)):=by
 have e1:c.map h=(c.map λr=>r.map g).map λrows=>[.sl k rows]:=by
  rw[aA6];exact aD1 λr _=>hh r
 rw[e1];exact .nest v0 e0 e k vs _ (i8 ho) (i8 hf)
end Go.Am
end
end
end
end
