/- Several texts, one behind the other. -/
import Derived.Test.YtammglnfelkbpaaGreatDoorAmMap
import Derived.KernelRfl
import Derived.Test.YtammglnfelkbpaaGreatDoorAmClose
import Derived.Maps.RangeRun
import Derived.Test.YtammglnfelkbpaaGreatDoorAmGen
section
section
section
namespace Go.Am
theorem bDx{objs objs':List MO}(hf:objs'.map MO.foot=objs.map MO.foot){b o:Nat}(h:fJ objs' b o):fJ objs b o:=by
 obtain⟨m,hm,h⟩:=h;have:m.foot∈objs.map MO.foot:=hf▸l5.2 ⟨m,hm,rfl⟩;obtain⟨m',hm',e⟩:=l5.1 this;exact⟨m',hm',e▸h⟩
theorem aRz{A:aR}{objs objs':List MO}(hf:objs'.map MO.foot=objs.map MO.foot):aU A objs'=aU A objs:=by
 funext b o
 exact propext ⟨λh=>h.imp id (bDx hf),λh=>h.imp id (bDx hf.symm)⟩
theorem cCm{objs objs':List MO}(hf:objs'.map MO.foot=objs.map MO.foot)(h:Sep objs):Sep objs':=by
 have e:∀l:List MO,Sep l↔(l.map MO.foot).Pairwise λf g=>∀b o,f b o->¬g b o:=λl=>by simp only[Sep,List.pairwise_map]
 rw[e,hf,<-e];exact h
theorem bIt{objs objs':List MO}(hf:objs'.map MO.foot=objs.map MO.foot){m:MO}(hm:m∈objs'):∃m'∈objs,m'.foot=m.foot:=
 l5.1 (show m.foot∈objs.map MO.foot from hf▸l5.2 ⟨m,hm,rfl⟩)
theorem Inv.exch[Mode]{w:World}{A:aR}{objs objs':List MO}(hf:objs'.map MO.foot=objs.map MO.foot)(h:Inv w A objs)(hh:∀m∈objs',m.holds w (aU A objs)):Inv w A objs':=by
 refine⟨cCm hf h.sep,λm hm b o hb=>?_,λm hm=>?_,?_⟩
 ·obtain⟨m',h1,h2⟩:=bIt hf hm;exact h.apart m' h1 b o (h2▸hb)
 ·rw[aRz hf];exact hh m hm
 ·rw[aRz hf];exact h.amb
theorem R.exch[Mode]{A M:aR}{w0:W0}{n:Nat}{env:Nat->AV}{objs objs':List MO}{a:Act}{w:World}(hf:objs'.map MO.foot=objs.map MO.foot)(hR:R A M w0 n ⟨env,objs⟩ a w)(hh:∀m∈objs',m.holds w (aU A objs)):R A M w0 n ⟨env,objs'⟩ a w:=by
 have e:=aRz (A:=A) hf;refine⟨hR.size,?_,λk=>?_,hR.inv.exch hf hh,hR.keeps,λm hm b o hb=>?_,hR.old⟩
 ·have:=hR.defers;simp only at this|-;rw[e];exact this
 ·have:=hR.env k;simp only at this|-;rw[e];exact this
 ·obtain⟨m',h1,h2⟩:=bIt hf hm;exact hR.own m' h1 b o (h2▸hb)
theorem aAq{objs:List MO}{i:Nat}{m m':MO}(hm:objs[i]?=some m)(hf:m'.foot=m.foot):(objs.set i m').map MO.foot=objs.map MO.foot:=by
 rw[List.map_set];obtain⟨hi,rfl⟩:=g7.1 hm;rw[hf,<-List.getElem_map MO.foot (h:=by simpa using hi),List.set_getElem_self]
theorem aEu{objs:List MO}{i:Nat}{m x:MO}(hx:x∈objs.set i m):x=m\/x∈objs:=by
 rcases aC0 hx with h|h
 ·exact .inr h
 ·exact .inl h
theorem aUf[Mode]{P:Program}{n i r:Nat}{o:Oper}{st:St}{agg:Bool}{es:List (Value×List D)}{Q:St->Prop}(hm:st.objs[i]?=some (mx r agg es))(h:∀bs ck,(agg=false->∀e∈es,e.2.length=1)->Step P n o ⟨st.env,st.objs.set i (.map r (es.map (elE agg)) bs ck)⟩ Q):Step P n o st Q:=
 λA M w0 a w hR K R' hK=>by
  obtain⟨h1,bs,ck,hh⟩:=bRf (hR.inv.holds _ (i8 hm));refine h bs ck h1 A M w0 a w (R.exch (objs:=st.objs) (aAq hm rfl) hR λx hx=>?_) K R' hK
  rcases aEu hx with rfl|hx
  ·exact hh
  ·exact hR.inv.holds x hx
theorem aMg[Mode]{env:Nat->AV}{objs:List MO}{i r:Nat}{agg:Bool}{es:List (Value×List D)}{bs:List Nat}{ck:Nat}(hi:i<objs.length)(h1:agg=false->∀e∈es,e.2.length=1):Ent ⟨env,objs.set i (.map r (es.map (elE agg)) bs ck)⟩ ⟨env,objs.set i (mx r agg es)⟩:=
 λA M w0 n a w hR=>by
  have e:(objs.set i (mx r agg es))=(objs.set i (.map r (es.map (elE agg)) bs ck)).set i (mx r agg es):=by simp
  have hm:(objs.set i (.map r (es.map (elE agg)) bs ck))[i]?=some (.map r (es.map (elE agg)) bs ck):=by simp[hi]
  rw[e];refine R.exch (aAq hm rfl) hR λx hx=>?_
  rcases aEu hx with rfl|hx
  ·exact cNg h1 (hR.inv.holds _ (i8 hm))
  ·exact hR.inv.holds x hx
end Go.Am
end
section
namespace Go.Am
structure Rho where
 β:Nat->Nat×Nat×Value
 b:Nat->Nat
 o:Nat->Nat
 s:Nat->Value
namespace Rho
variable(ρ:Rho)
def bb(h:Nat):Nat:=bif Nat.ble 100000 h then(ρ.β h).1 else ρ.b h
def oo(h:Nat):Nat:=bif Nat.ble 100000 h then(ρ.β h).2.1 else ρ.o h
def ss(h:Nat):Value:=bif Nat.ble 100000 h then(ρ.β h).2.2 else ρ.s h
def dd:D->D
 | .hv q h j=>match q with
  |0=>.lit (ρ.ss h)
  |1=>.lit (.map (some (ρ.bb h)))
  |_=>.lit (.pointer (some ⟨ρ.bb h,ρ.oo h+j,none⟩))
 |x=>x
def a0:AV->AV
 | .d x=>.d (ρ.dd x)
 | .agg xs=>.agg (xs.map ρ.dd)
 | .bp h _ j=>.bp (ρ.bb h) (ρ.oo h) j
 | .ep v k i c=>match v with
  | .map (some h)=>.ep (ρ.ss h) k i c
  |_=>.any
 |x=>x
def a1:AV->AV
 | .tup vs=>.tup (vs.map ρ.a0)
 | .fn f vs=>.fn f (vs.map ρ.a0)
 | .mf f vs=>.mf f (vs.map ρ.a0)
 |x=>ρ.a0 x
def av:AV->AV
 | .tup vs=>.tup (vs.map ρ.a1)
 | .fn f vs=>.fn f (vs.map ρ.a1)
 | .mf f vs=>.mf f (vs.map ρ.a1)
 |x=>ρ.a0 x
end Rho
inductive VO where
 |box (ds:List D)
 |arr (e k:Nat) (rows:List (List D))
 |map (agg:Bool) (es:List (Value×List D))
 |raw (m:MO)
 |gen (H:Nat->Value->World->aR->Prop)
def Rho.mo(ρ:Rho)(h:Nat):VO->MO
 | .box ds=>.box (ρ.bb h) (ρ.oo h) (ds.map ρ.dd)
 | .arr e k rows=>.arr (ρ.ss h) e k rows
 | .map agg es=>mx (ρ.bb h) agg es
 | .raw m=>m
 | .gen H=>.ext (λb _=>b=ρ.bb h) (H (ρ.bb h) (ρ.ss h))
structure VS where
 env:List (Nat×AV)
 objs:List (Nat×VO)
def lk:List (Nat×AV)->Nat->AV
 |[],_=>.any
 |(k,v)::l,j=>bif Nat.beq k j then v else lk l j
def ob:List (Nat×VO)->Nat->Option VO
 |[],_=>none
 |(k,m)::l,h=>bif Nat.beq k h then some m else ob l h
def fB(h:Nat)(m:VO):List (Nat×VO)->List (Nat×VO)
 |[]=>[(h,m)]
 |(k,x)::l=>bif Nat.beq k h then(k,m)::l else(k,x)::fB h m l
def gF(h:Nat):List (Nat×VO)->List (Nat×VO)
 |[]=>[]
 |(k,x)::l=>bif Nat.beq k h then l else(k,x)::gF h l
def chg:List (Nat×Option VO)->List (Nat×VO)->List (Nat×VO)
 |[],l=>l
 |(h,some m)::c,l=>chg c (fB h m l)
 |(h,none)::c,l=>chg c (gF h l)
def VS.at(S:VS)(ρ:Rho):St:=⟨λk=>ρ.av (lk S.env k),S.objs.map λp=>ρ.mo p.1 p.2⟩
def VS.ev(S:VS):Operand->AV
 | .tmp t=>lk S.env t
 | .const v=>.d (.lit v)
 | .global _=>.any
 | .func f=>.fn f []
structure Eff where
 v:AV
 ch:List (Nat×Option VO)
 us:List Nat
 nw:List Nat
abbrev Eff.p(v:AV):Eff:=⟨v,[],[],[]⟩
abbrev Eff.r(v:AV)(us:List Nat):Eff:=⟨v,[],us,[]⟩
def VS.app(S:VS)(d:Option Nat)(e:Eff):VS:=
 ⟨match d with|some d=>(d,e.v)::S.env|none=>S.env,chg e.ch S.objs⟩
def aAm(h:Nat):D->Bool
 | .hv _ k _=>Nat.beq k h
 |_=>false
def xR(h:Nat):AV->Bool
 | .d x=>aAm h x
 | .agg xs=>xs.any (aAm h)
 | .bp k _ _=>Nat.beq k h
 | .ep v _ _ _=>match v with
  | .map (some k)=>Nat.beq k h
  |_=>false
 |_=>false
def aSl(h:Nat):AV->Bool
 | .tup vs=>vs.any (xR h)
 | .fn _ vs=>vs.any (xR h)
 | .mf _ vs=>vs.any (xR h)
 |x=>xR h x
def qH(h:Nat):AV->Bool
 | .tup vs=>vs.any (aSl h)
 | .fn _ vs=>vs.any (aSl h)
 | .mf _ vs=>vs.any (aSl h)
 |x=>xR h x
def aEm(h:Nat):VO->Bool
 | .box ds=>ds.any (aAm h)
 |_=>false
def lV(h:Nat)(S:VS):Bool:=S.env.any (λp=>qH h p.2)||S.objs.any λp=>Nat.beq p.1 h||aEm h p.2
structure Off(h:Nat)(ρ ρ':Rho):Prop where
 β:ρ'.β=ρ.β
 b:∀k,Nat.beq k h=false->ρ'.b k=ρ.b k
 o:∀k,Nat.beq k h=false->ρ'.o k=ρ.o k
 s:∀k,Nat.beq k h=false->ρ'.s k=ρ.s k
section
variable{h:Nat}{ρ ρ':Rho}
theorem Off.bb(H:Off h ρ ρ'){k:Nat}(hk:Nat.beq k h=false):ρ'.bb k=ρ.bb k:=by simp[Rho.bb,H.β,H.b k hk]
theorem Off.oo(H:Off h ρ ρ'){k:Nat}(hk:Nat.beq k h=false):ρ'.oo k=ρ.oo k:=by simp[Rho.oo,H.β,H.o k hk]
theorem Off.ss(H:Off h ρ ρ'){k:Nat}(hk:Nat.beq k h=false):ρ'.ss k=ρ.ss k:=by simp[Rho.ss,H.β,H.s k hk]
theorem Off.dd(H:Off h ρ ρ'){x:D}(hx:aAm h x=false):ρ'.dd x=ρ.dd x:=by
 cases x with
 | hv q k j=>
  have hk:Nat.beq k h=false:=hx;simp only[Rho.dd,H.bb hk,H.oo hk,H.ss hk]
 |_=>rfl
theorem rZ{α β:Type}{f g:α->β}{p:α->Bool}(hp:∀x,p x=false->f x=g x):∀{l:List α},l.any p=false->l.map f=l.map g
 |[],_=>rfl
 | x::l,h=>by
  simp only[y0,j7] at h;simp only[j3,hp x h.1,rZ hp h.2]
theorem Off.a0(H:Off h ρ ρ'){x:AV}(hx:xR h x=false):ρ'.a0 x=ρ.a0 x:=by
 cases x with
 |d x=>simp only[Rho.a0,H.dd hx]
 |agg xs=>simp only[Rho.a0,rZ (λx=>H.dd (x:=x)) hx]
 | bp k o j=>
  have hk:Nat.beq k h=false:=hx;simp only[Rho.a0,H.bb hk,H.oo hk]
 | ep v k i c=>
  cases v with
  | map r=>cases r with
   |none=>rfl
   | some k=>
    have hk:Nat.beq k h=false:=hx;simp only[Rho.a0,H.ss hk]
  |_=>rfl
 |_=>rfl
theorem Off.a1(H:Off h ρ ρ'){x:AV}(hx:aSl h x=false):ρ'.a1 x=ρ.a1 x:=by
 cases x with
 |tup vs=>simp only[Rho.a1,rZ (λx=>H.a0 (x:=x)) hx]
 |fn f vs=>simp only[Rho.a1,rZ (λx=>H.a0 (x:=x)) hx]
 |mf f vs=>simp only[Rho.a1,rZ (λx=>H.a0 (x:=x)) hx]
 |any=>rfl
 |d x=>exact H.a0 (x:=.d x) hx
 |agg x=>exact H.a0 (x:=.agg x) hx
 |cp x=>rfl
 |bp b o j=>exact H.a0 (x:=.bp b o j) hx
 |ep v k i c=>exact H.a0 (x:=.ep v k i c) hx
 |fl n k r=>rfl
theorem Off.av(H:Off h ρ ρ'){x:AV}(hx:qH h x=false):ρ'.av x=ρ.av x:=by
 cases x with
 |tup vs=>simp only[Rho.av,rZ (λx=>H.a1 (x:=x)) hx]
 |fn f vs=>simp only[Rho.av,rZ (λx=>H.a1 (x:=x)) hx]
 |mf f vs=>simp only[Rho.av,rZ (λx=>H.a1 (x:=x)) hx]
 |any=>rfl
 |d x=>exact H.a0 (x:=.d x) hx
 |agg x=>exact H.a0 (x:=.agg x) hx
 |cp x=>rfl
 |bp b o j=>exact H.a0 (x:=.bp b o j) hx
 |ep v k i c=>exact H.a0 (x:=.ep v k i c) hx
 |fl n k r=>rfl
theorem Off.mo(H:Off h ρ ρ'){k:Nat}{m:VO}(hk:Nat.beq k h=false)(hm:aEm h m=false):ρ'.mo k m=ρ.mo k m:=by
 cases m with
 |box ds=>simp only[Rho.mo,H.bb hk,H.oo hk,rZ (λx=>H.dd (x:=x)) hm]
 |arr e k rows=>simp only[Rho.mo,H.ss hk]
 |map agg es=>simp only[Rho.mo,H.bb hk]
 |raw m=>rfl
 |gen G=>simp only[Rho.mo,H.bb hk,H.ss hk]
theorem cKo{S:VS}(hS:S.env.any (λp=>qH h p.2)=false)(k:Nat):qH h (lk S.env k)=false:=by
 obtain⟨env,objs⟩:=S
 induction env with
 |nil=>rfl
 | cons p l ih=>
  simp only[y0,j7] at hS;simp only[lk];cases Nat.beq p.1 k with
  |true=>exact hS.1
  |false=>exact ih hS.2
theorem Off.at(H:Off h ρ ρ'){S:VS}(hS:lV h S=false):S.at ρ'=S.at ρ:=by
 simp only[lV,j7] at hS;have h1:(λk=>ρ'.av (lk S.env k))=λk=>ρ.av (lk S.env k):=funext λk=>H.av (cKo hS.1 k);have h2:(S.objs.map λp=>ρ'.mo p.1 p.2)=S.objs.map λp=>ρ.mo p.1 p.2:=
  rZ (λp hp=>by
   simp only[j7] at hp;exact H.mo hp.1 hp.2) hS.2
 simp only[VS.at,h1,h2]
end
def Rho.setB(ρ:Rho)(h b o:Nat):Rho:={ρ with b:=λk=>bif Nat.beq k h then b else ρ.b k,o:=λk=>bif Nat.beq k h then o else ρ.o k}
def Rho.setS(ρ:Rho)(h:Nat)(v:Value):Rho:={ρ with s:=λk=>bif Nat.beq k h then v else ρ.s k}
section
variable{ρ:Rho}{h:Nat}
theorem aWs(b o:Nat):Off h ρ (ρ.setB h b o):=⟨rfl,λk hk=>by simp[Rho.setB,hk],λk hk=>by simp[Rho.setB,hk],λ_ _=>rfl⟩
theorem aJf(v:Value):Off h ρ (ρ.setS h v):=⟨rfl,λ_ _=>rfl,λ_ _=>rfl,λk hk=>by simp[Rho.setS,hk]⟩
theorem beq_refl(n:Nat):Nat.beq n n=true:=aH6 n
theorem bOo(hl:Nat.ble 100000 h=false)(b o:Nat):(ρ.setB h b o).bb h=b/\(ρ.setB h b o).oo h=o:=by simp[Rho.bb,Rho.oo,hl,Rho.setB]
theorem aEt(hl:Nat.ble 100000 h=false)(v:Value):(ρ.setS h v).ss h=v:=by simp[Rho.ss,hl,Rho.setS]
theorem sQ(S:VS)(x:Operand):(S.at ρ).eval x=ρ.av (S.ev x):=by cases x<;>rfl
theorem at_set(S:VS)(d:Nat)(v:AV):(S.at ρ).set d (ρ.av v)=(VS.mk ((d,v)::S.env) S.objs).at ρ:=by
 simp only[VS.at,St.set,St.mk.injEq,and_true]
 funext k
 simp only[upd,lk];cases Nat.beq d k<;>rfl
theorem oM{objs:List (Nat×VO)}{h:Nat}{m:VO}(hm:ob objs h=some m):∃i,(objs.map λp=>ρ.mo p.1 p.2)[i]?=some (ρ.mo h m)/\(∀m':VO,(objs.map λp=>ρ.mo p.1 p.2).set i (ρ.mo h m')=(fB h m' objs).map λp=>ρ.mo p.1 p.2)/\
  ((objs.map λp=>ρ.mo p.1 p.2).Perm (ρ.mo h m::(gF h objs).map λp=>ρ.mo p.1 p.2)):=by
 induction objs with
 |nil=>cases hm
 | cons p l ih=>
  obtain⟨k,x⟩:=p;simp only[ob] at hm;cases hb:Nat.beq k h with
  | true=>
   rw[hb] at hm;have:=f7 hb;subst this
   simp at hm;subst hm
   exact⟨0,by simp,λm'=>by simp[fB],by simp[gF]⟩
  | false=>
   rw[hb] at hm;obtain⟨i,h1,h2,h3⟩:=ih (by simpa using hm);refine⟨i+1,by simpa using h1,λm'=>by simp[fB,hb,h2 m'],?_⟩;simp only[gF,hb,j3,g6];exact(List.Perm.cons _ h3).trans (.swap _ _ _)
theorem aEp{objs:List (Nat×VO)}{h:Nat}(m:VO)(hn:objs.any (λp=>Nat.beq p.1 h||aEm h p.2)=false):fB h m objs=objs++[(h,m)]:=by
 induction objs with
 |nil=>rfl
 | cons p l ih=>
  simp only[y0,j7] at hn;simp only[fB,hn.1.1,g6,aA4,ih hn.2]
theorem aBh{S:VS}(hS:lV h S=false):S.objs.any (λp=>Nat.beq p.1 h||aEm h p.2)=false:=by
 simp only[lV,j7] at hS;exact hS.2
end
end Go.Am
end
end
section
namespace Go.Am
inductive Tr'(α:Type)(R:Nat->α->Prop) where
 |l
 |n (a:Tr' α R) (k:Nat) (d:α) (h:R k d) (b:Tr' α R)
def Tr'.get{α:Type}{R:Nat->α->Prop}:Tr' α R->Nat->Option α
 | .l,_=>none
 | .n a k d _ b,t=>bif Nat.beq k t then some d else bif Nat.ble t k then a.get t else b.get t
theorem Tr'.ok{α:Type}{R:Nat->α->Prop}:∀{T:Tr' α R} {t:Nat} {d:α},T.get t=some d->R t d
 | .l,_,_,h=>by cases h
 | .n a k d h0 b,t,d',h=>by
  simp only[Tr'.get] at h;cases hb:Nat.beq k t with
  |true=>rw[hb] at h;simp at h;subst h;exact f7 hb▸h0
  | false=>
   rw[hb] at h;cases hc:Nat.ble t k with
   |true=>rw[hc] at h;exact Tr'.ok (by simpa using h)
   |false=>rw[hc] at h;exact Tr'.ok (by simpa using h)
structure TE where
 size:Nat
 bytes:Nat
def TyR(P:Program)(t:Nat)(p:TE×TypeDesc):Prop:=(∃i,P.info? t=some i/\i.size=p.1.size/\i.bytes=p.1.bytes/\∃z,i.zero=some z/\z.cells.size=p.1.size)/\P.underlying t=some p.2
def Tr'.keys{α:Type}{R:Nat->α->Prop}:Tr' α R->List Nat
 | .l=>[]
 | .n a k _ _ b=>k::(a.keys++b.keys)
theorem Tr'.mem{α:Type}{R:Nat->α->Prop}:∀{T:Tr' α R} {t:Nat} {d:α},T.get t=some d->t∈T.keys
 | .l,_,_,h=>by cases h
 | .n a k d h0 b,t,d',h=>by
  simp only[Tr'.get] at h;cases hb:Nat.beq k t with
  |true=>exact l4.2 (.inl (f7 hb).symm)
  | false=>
   rw[hb] at h;refine j5 _ (i6.2 ?_);cases hc:Nat.ble t k with
   |true=>rw[hc] at h;exact .inl (Tr'.mem (by simpa using h))
   |false=>rw[hc] at h;exact .inr (Tr'.mem (by simpa using h))
def tn{P:Program}(a:Tr' (TE×TypeDesc) (TyR P))(k:Nat)(i:TypeInfo){td:TypeDesc}(h2:P.underlying k=some td)(b:Tr' (TE×TypeDesc) (TyR P))(h:P.info? k=some i:=by kernel_rfl)(hz:∃z,i.zero=some z/\z.cells.size=i.size:=by exact⟨_,rfl,rfl⟩):Tr' (TE×TypeDesc) (TyR P):=
 .n a k (⟨i.size,i.bytes⟩,td) ⟨⟨i,h,rfl,rfl,hz⟩,h2⟩ b
def zcF(f:Nat->Option (List D)):List Field->Option (List D)
 |[]=>some []
 | x::l=>match f x.type,zcF f l with
  |some a,some b=>some (a++b)
  |_,_=>none
def zcR(a:List D):Nat->List D
 |0=>[]
 |n+1=>a++zcR a n
def zcN(g:Nat->Option (TE×TypeDesc)):Nat->Nat->Option (List D)
 |0,_=>none
 | m+1,t=>match g t with
  |some (_,.int k)=>some [.lit (.int k 0)]
  |some (_,.bool)=>some [.lit (.bool false)]
  |some (_,.string)=>some [.lit (.string ⟨#[]⟩)]
  | some (_,.slice e)=>match g e with
   |some (j,_)=>some [.sl j.size []]
   |none=>none
  |some (_,.map _ _)=>some [.lit (.map none)]
  |some (_,.pointer _)=>some [.lit (.pointer none)]
  |some (_,.func _ _ _)=>some [.lit .nilFunc]
  |some (_,.struct fs)=>zcF (zcN g m) fs.toList
  | some (_,.array n e)=>match zcN g m e with
   |some a=>some (zcR a n)
   |none=>none
  |_=>none
def zA(P:Program)(f:Nat->Option (List D)):List Nat->List (Option (Array Value))
 |[]=>[]
 |t::l=>(match f t with|some _=>((P.info? t).bind (·.zero)).map (·.cells)|none=>none)::zA P f l
def zB(f:Nat->Option (List D)):List Nat->List (Option (Array Value))
 |[]=>[]
 |t::l=>((f t).map λzs=>(zs.map bD).toArray)::zB f l
def zC(f:Nat->Option (List D)):List Nat->Bool
 |[]=>true
 |t::l=>(match f t with|some zs=>zOK zs|none=>true)&&zC f l
theorem cMq{P:Program}{f:Nat->Option (List D)}{t:Nat}{zs:List D}(hf:f t=some zs):∀{l:List Nat},zA P f l=zB f l->zC f l=true->t∈l->((P.info? t).bind (·.zero)).map (·.cells)=some (zs.map bD).toArray/\zOK zs=true
 | u::l,e,o,hm=>by
  simp only[zA,zB,aC7] at e;simp only[zC,f4] at o
  rcases l4.1 hm with rfl|hm
  ·simp only[hf] at e o;exact⟨e.1,o.1⟩
  ·exact cMq hf e.2 o.2 hm
structure TT(P:Program) where
 ty:Tr' (TE×TypeDesc) (TyR P)
 zk:zA P (zcN ty.get 9) ty.keys=zB (zcN ty.get 9) ty.keys
 zo:zC (zcN ty.get 9) ty.keys=true
 mix:P.follows .mixedOrders=true
def TT.zr{P:Program}(T:TT P)(t:Nat):Option (List D):=zcN T.ty.get 9 t
theorem TT.zr_ok{P:Program}{T:TT P}{t:Nat}{zs:List D}(h:T.zr t=some zs):∃z,(∀w,(zeroValue t).run P w=.ok z w)/\z.cells=(zs.map bD).toArray/\zOK zs=true:=by
 unfold TT.zr at h;obtain⟨d,hd⟩:∃d,T.ty.get t=some d:=by
  cases hg:T.ty.get t with
  |some d=>exact⟨d,rfl⟩
  |none=>simp[zcN,hg] at h
 have hm:=Tr'.mem hd;obtain⟨⟨i,h1,_,_,z,hz,_⟩,_⟩:=Tr'.ok hd;obtain⟨e,o⟩:=cMq h T.zk T.zo hm;simp only[h1,c6,hz,aE2,m7] at e;exact⟨z,λw=>by simp[zeroValue,typeInfo,h1,hz],e,o⟩
section facts
variable{P:Program}{T:TT P}{t e:Nat}{i j:TE}{td:TypeDesc}
theorem aBl(h:T.ty.get t=some (i,td))(w:World):(sizeOf t).run P w=.ok i.size w:=by
 obtain⟨ii,h1,h2,_⟩:=(Tr'.ok h).1;simp only at h2
 simp[sizeOf,typeInfo,h1,h2]
def aEa:TypeDesc->Bool
 | .struct _=>true
 | .array _ _=>true
 |_=>false
theorem bXx(h:T.ty.get t=some (i,td))(w:World):(isAgg t).run P w=.ok (aEa td) w:=by
 have h2:=run_underlying (Tr'.ok h).2 w;simp only at h2;unfold isAgg;simp only[Sem.run_bind,h2,Result.andThen_ok];cases td<;>rfl
theorem aPv{m:Nat}(h:T.ty.get t=some (i,td))(ha:aEa td=true)(hs:i.size=m):gJ P t m:=⟨λw=>ha▸bXx h w,λw=>hs▸aBl h w⟩
theorem aJz(h:T.ty.get t=some (i,td))(ha:aEa td=false)(hs:i.size=1):fN P t:=⟨λw=>ha▸bXx h w,λw=>hs▸aBl h w⟩
theorem cCx{fs:Array Field}{f:Nat}{fd:Field}(h:T.ty.get t=some (i,.struct fs))(hf:fs.toList[f]?=some fd)(h2:T.ty.get fd.type=some (j,td))(hp:Nat.ble 1 j.size=true):cQ P t f fd.offset:=by
 obtain⟨m,hm⟩:∃m,j.size=m+1:=⟨j.size-1,by have:=f5 hp;omega⟩;exact cL (λw=>run_underlying (Tr'.ok h).2 w) (by simpa using hf) rfl (λw=>hm▸aBl h2 w)
theorem aPw{k:Nat}(h:T.ty.get t=some (i,.slice e))(h2:T.ty.get e=some (j,td))(hk:j.size=k)(hp:Nat.ble 1 k=true):∃z,SliceTy P t e k j.bytes z:=by
 obtain⟨ii,h3,h4,h5,z,h6,h7⟩:=(Tr'.ok h2).1;simp only at h4 h5 h7;exact⟨z,(Tr'.ok h).2,⟨ii,h3,h6,h4.trans hk,h5⟩,h7.trans hk,f5 hp⟩
end facts
structure Agr(o:Op)(S S':VS)(us:List Nat):Prop where
 ev:∀x∈o.operands.toList,S'.ev x=S.ev x
 ob:∀h∈us,ob S'.objs h=ob S.objs h
def lN[Mode](P:Program)(n:Nat)(o:Oper)(S:VS)(e:Eff):Prop:=
 ∀S',Agr o.op S S' e.us->(∀h∈e.nw,lV h S'=false/\Nat.ble 100000 h=false)->∀ρ,Step P n o (S'.at ρ) (λst=>∃ρ':Rho,ρ'.β=ρ.β/\Ent st ((S'.app o.dst e).at ρ'))
structure bY[Mode](P:Program)(n:Nat)(o:Oper)(S:VS)(K:Eff->Prop):Prop where
 h:∃e,K e/\lN P n o S e
theorem cM[Mode]{P:Program}{n:Nat}{o:Oper}{st:St}{Q Q':St->Prop}(h:Step P n o st Q)(hq:∀s,Q s->Q' s):Step P n o st Q':=
 λA M w0 a w hR K R hK=>h A M w0 a w hR K R λs a' w' hs hR'=>hK s a' w' (hq s hs) hR'
theorem gA[Mode]{a b:St}(h:a=b):Ent a b:=h▸Ent.refl a
section lift
variable{P:Program}{n d:Nat}{S:VS}{us:List Nat}{op:Op}{ty:TypeId}{pos:String}{af:Array Edge}{gd:Option (Nat×Bool)}
theorem bSq[Mode]{v:AV}(h:∀S',Agr op S S' us->∀ρ,aQ P n ⟨some d,op,ty,pos,af,gd⟩ (S'.at ρ) ((S'.at ρ).set d (ρ.av v))):lN P n ⟨some d,op,ty,pos,af,gd⟩ S (.r v us):=
 λS' hA _ ρ=>cM (h S' hA ρ) λs hs=>⟨ρ,rfl,gA (hs.trans (at_set S' d v))⟩
theorem aEe[Mode]{env:Nat->AV}{objs objs':List MO}(h:objs.Perm objs'):Ent ⟨env,objs⟩ ⟨env,objs'⟩:=oL (gone:=[]) (by simpa using h) λ_=>.same _
theorem bKm[Mode]{q:Nat}{ds:List D}(ho:ds.any (aAm q)=false)(h:∀S',Agr op S S' us->∀ρ,Step P n ⟨some d,op,ty,pos,af,gd⟩ (S'.at ρ) (λs=>∃b,s=(S'.at ρ).setadd d (.bp b 0 0) (.box b 0 (ds.map ρ.dd)))):
  lN P n ⟨some d,op,ty,pos,af,gd⟩ S ⟨.bp q 0 0,[(q,some (.box ds))],us,[q]⟩:=by
 intro S' hA hn ρ;obtain⟨hf,hl⟩:=hn q (by simp);refine cM (h S' hA ρ) ?_;rintro s ⟨b,rfl⟩;have H:=aWs (ρ:=ρ) (h:=q) b 0;refine⟨ρ.setB q b 0,rfl,gA ?_⟩;obtain⟨e1,e2⟩:=bOo (ρ:=ρ) hl b 0;have h1:=H.at hf;have h2:=at_set (ρ:=ρ.setB q b 0) S' d (.bp q 0 0);simp only[VS.app,chg,aEp _ (aBh hf)];have hh:(ρ.setB q b 0).av (.bp q 0 0)=.bp b 0 0:=by simp only[Rho.av,Rho.a0,e1,e2]
 rw[h1,hh] at h2;have h3:(VS.mk ((d,AV.bp q 0 0)::S'.env) (S'.objs++[(q,VO.box ds)])).at (ρ.setB q b 0)=(St.mk ((VS.mk ((d,AV.bp q 0 0)::S'.env) S'.objs).at (ρ.setB q b 0)).env (((VS.mk ((d,AV.bp q 0 0)::S'.env) S'.objs).at (ρ.setB q b 0)).objs++[(ρ.setB q b 0).mo q (.box ds)])):=by
  simp[VS.at]
 rw[h3,<-h2];simp only[St.setadd,St.set,Rho.mo,e1,e2,rZ (λx=>H.dd (x:=x)) ho]
theorem bCw[Mode]{ds:List D}(ho:ds.any (aAm d)=false)(h:∀S',Agr op S S' us->∀ρ,Step P n ⟨some d,op,ty,pos,af,gd⟩ (S'.at ρ) (λs=>∃b,s=(S'.at ρ).setadd d (.bp b 0 0) (.box b 0 (ds.map ρ.dd)))):
  lN P n ⟨some d,op,ty,pos,af,gd⟩ S ⟨.bp d 0 0,[(d,some (.box ds))],us,[d]⟩:=bKm ho h
theorem bKl[Mode]{q e k:Nat}{rows:List (List D)}(h:∀S',Agr op S S' us->∀ρ,Step P n ⟨some d,op,ty,pos,af,gd⟩ (S'.at ρ) (λs=>∃v,s=(S'.at ρ).setadd d (.d (.lit v)) (.arr v e k rows))):
  lN P n ⟨some d,op,ty,pos,af,gd⟩ S ⟨.d (.hv 0 q 0),[(q,some (.arr e k rows))],us,[q]⟩:=by
 intro S' hA hn ρ;obtain⟨hf,hl⟩:=hn q (by simp);refine cM (h S' hA ρ) ?_;rintro s ⟨v,rfl⟩;have H:=aJf (ρ:=ρ) (h:=q) v;refine⟨ρ.setS q v,rfl,gA ?_⟩;have e1:=aEt (ρ:=ρ) hl v;have h1:=H.at hf;have h2:=at_set (ρ:=ρ.setS q v) S' d (.d (.hv 0 q 0));simp only[VS.app,chg,aEp _ (aBh hf)];have hh:(ρ.setS q v).av (.d (.hv 0 q 0))=.d (.lit v):=by simp only[Rho.av,Rho.a0,Rho.dd,e1]
 rw[h1,hh] at h2;have h3:(VS.mk ((d,AV.d (.hv 0 q 0))::S'.env) (S'.objs++[(q,VO.arr e k rows)])).at (ρ.setS q v)=(St.mk ((VS.mk ((d,AV.d (.hv 0 q 0))::S'.env) S'.objs).at (ρ.setS q v)).env (((VS.mk ((d,AV.d (.hv 0 q 0))::S'.env) S'.objs).at (ρ.setS q v)).objs++[(ρ.setS q v).mo q (.arr e k rows)])):=by
  simp[VS.at]
 rw[h3,<-h2];simp only[St.setadd,St.set,Rho.mo,e1]
theorem aUb[Mode]{e k:Nat}{rows:List (List D)}(h:∀S',Agr op S S' us->∀ρ,Step P n ⟨some d,op,ty,pos,af,gd⟩ (S'.at ρ) (λs=>∃v,s=(S'.at ρ).setadd d (.d (.lit v)) (.arr v e k rows))):
  lN P n ⟨some d,op,ty,pos,af,gd⟩ S ⟨.d (.hv 0 d 0),[(d,some (.arr e k rows))],us,[d]⟩:=bKl h
theorem bOn[Mode]{h:Nat}{m m':VO}(hm:ob S.objs h=some m)(hu:h∈us)(hs:∀S',Agr op S S' us->∀(ρ:Rho) i,(S'.at ρ).objs[i]?=some (ρ.mo h m)->aQ P n ⟨none,op,ty,pos,af,gd⟩ (S'.at ρ) ((S'.at ρ).put1 i (ρ.mo h m'))):
  lN P n ⟨none,op,ty,pos,af,gd⟩ S ⟨.any,[(h,some m')],us,[]⟩:=by
 intro S' hA _ ρ;obtain⟨i,h1,h2,_⟩:=oM (ρ:=ρ) ((hA.ob h hu).trans hm);refine cM (hs S' hA ρ i h1) ?_;rintro s rfl;refine⟨ρ,rfl,gA ?_⟩;simp only[VS.app,chg,VS.at,St.put1,h2]
theorem aNu{h k:Nat}:∀{objs:List (Nat×VO)},objs.any (λp=>Nat.beq p.1 h||aEm h p.2)=false->(gF k objs).any (λp=>Nat.beq p.1 h||aEm h p.2)=false
 |[],_=>rfl
 | p::l,hn=>by
  simp only[y0,j7] at hn;simp only[gF];cases Nat.beq p.1 k with
  |true=>exact hn.2
  | false=>
   simp only[g6,y0,j7];exact⟨hn.1,aNu hn.2⟩
theorem cCk[Mode]{h e k:Nat}{rows rows':List (List D)}(hm:ob S.objs h=some (.arr e k rows))(hu:h∈us)
  (hs:∀S',Agr op S S' us->∀(ρ:Rho) i,(S'.at ρ).objs[i]?=some (.arr (ρ.ss h) e k rows)->Step P n ⟨some d,op,ty,pos,af,gd⟩ (S'.at ρ) (λs=>∃v,s=(S'.at ρ).setput d (.d (.lit v)) i (.arr v e k rows'))):
  lN P n ⟨some d,op,ty,pos,af,gd⟩ S ⟨.d (.hv 0 d 0),[(h,none),(d,some (.arr e k rows'))],us,[d]⟩:=by
 intro S' hA hn ρ;obtain⟨hf,hl⟩:=hn d (by simp);have hm':=(hA.ob h hu).trans hm;obtain⟨i,h1,_,h4⟩:=oM (ρ:=ρ) hm';refine cM (hs S' hA ρ i h1) ?_;rintro s ⟨v,rfl⟩;have H:=aJf (ρ:=ρ) (h:=d) v;refine⟨ρ.setS d v,rfl,?_⟩;have e1:=aEt (ρ:=ρ) hl v;have h1':=H.at hf;have h2:=at_set (ρ:=ρ.setS d v) S' d (.d (.hv 0 d 0));have hh:(ρ.setS d v).av (.d (.hv 0 d 0))=.d (.lit v):=by simp only[Rho.av,Rho.a0,Rho.dd,e1]
 rw [h1',hh] at h2;have h5:(St.set (S'.at ρ) d (.d (.lit v))).env=λj=>(ρ.setS d v).av (lk ((d,AV.d (.hv 0 d 0))::S'.env) j):=aA5 St.env h2;have h6:(S'.objs.map λp=>ρ.mo p.1 p.2)=S'.objs.map λp=>(ρ.setS d v).mo p.1 p.2:=(aA5 St.objs h1').symm;simp only[VS.app,chg,aEp _ (aNu (k:=h) (aBh hf))];have h7:Ent (St.mk (St.set (S'.at ρ) d (.d (.lit v))).env ((S'.at ρ).objs.set i (.arr v e k rows'))) ((VS.mk ((d,AV.d (.hv 0 d 0))::S'.env) (gF h S'.objs++[(d,VO.arr e k rows')])).at (ρ.setS d v)):=by
  rw [h5];refine aEe ?_;have hset:∀x:MO,((S'.objs.map λp=>ρ.mo p.1 p.2).set i x).Perm (x::(gF h S'.objs).map λp=>ρ.mo p.1 p.2):=by
   intro x;have hi:i<(S'.objs.map λp=>ρ.mo p.1 p.2).length:=(g7.1 h1).1;have hx:(S'.objs.map λp=>ρ.mo p.1 p.2)[i]=ρ.mo h (.arr e k rows):=(g7.1 h1).2;have a1:((S'.objs.map λp=>ρ.mo p.1 p.2).set i x).Perm (x::(S'.objs.map λp=>ρ.mo p.1 p.2).eraseIdx i):=by
    rw[aD4,if_pos hi,aD9];exact aB6
   have a2:(S'.objs.map λp=>ρ.mo p.1 p.2).Perm (ρ.mo h (.arr e k rows)::(S'.objs.map λp=>ρ.mo p.1 p.2).eraseIdx i):=by
    conv=>lhs;rw[<-List.set_getElem_self hi,hx]
    rw[aD4,if_pos hi,aD9];exact aB6
   exact a1.trans (.cons _ (List.Perm.cons_inv (a2.symm.trans h4)))
  have h8:((gF h S'.objs).map λp=>ρ.mo p.1 p.2)=(gF h S'.objs).map λp=>(ρ.setS d v).mo p.1 p.2:=
   (rZ (λp hp=>by
    simp only[j7] at hp;exact H.mo hp.1 hp.2) (aNu (k:=h) (aBh hf))).symm
  refine(hset _).trans ?_;rw[h8,v7];refine List.Perm.trans ?_ u9;simp only[j3,aH1,List.singleton_append,Rho.mo,e1];exact .refl _
 exact h7
theorem bXo[Mode]{h e k:Nat}{rows rows':List (List D)}(hm:ob S.objs h=some (.arr e k rows))(hu:h∈us)
  (hs:∀S',Agr op S S' us->∀(ρ:Rho) i,(S'.at ρ).objs[i]?=some (.arr (ρ.ss h) e k rows)->Step P n ⟨some d,op,ty,pos,af,gd⟩ (S'.at ρ) (λs=>∃v,s=(S'.at ρ).setput d (.d (.lit v)) i (.arr v e k rows'))):
  lN P n ⟨some d,op,ty,pos,af,gd⟩ S ⟨.d (.sl k rows'),[(h,none)],us,[]⟩:=by
 intro S' hA hn ρ;have hm':=(hA.ob h hu).trans hm;obtain⟨i,h1,_,h4⟩:=oM (ρ:=ρ) hm';refine cM (hs S' hA ρ i h1) ?_;rintro s ⟨v,rfl⟩;refine⟨ρ,rfl,λA M w0 n a w hR=>?_⟩;have hset:∀x:MO,((S'.objs.map λp=>ρ.mo p.1 p.2).set i x).Perm (x::(gF h S'.objs).map λp=>ρ.mo p.1 p.2):=by
  intro x;have hi:i<(S'.objs.map λp=>ρ.mo p.1 p.2).length:=(g7.1 h1).1;have hx:(S'.objs.map λp=>ρ.mo p.1 p.2)[i]=ρ.mo h (.arr e k rows):=(g7.1 h1).2;have a1:((S'.objs.map λp=>ρ.mo p.1 p.2).set i x).Perm (x::(S'.objs.map λp=>ρ.mo p.1 p.2).eraseIdx i):=by
   rw[aD4,if_pos hi,aD9];exact aB6
  have a2:(S'.objs.map λp=>ρ.mo p.1 p.2).Perm (ρ.mo h (.arr e k rows)::(S'.objs.map λp=>ρ.mo p.1 p.2).eraseIdx i):=by
   conv=>lhs;rw[<-List.set_getElem_self hi,hx]
   rw[aD4,if_pos hi,aD9];exact aB6
  exact a1.trans (.cons _ (List.Perm.cons_inv (a2.symm.trans h4)))
 have hp:=(hset (.arr v e k rows')).trans (u9 (l₁:=[MO.arr v e k rows']));have hk:∀r∈rows',r.length=k:=by
  have hmem:MO.arr v e k rows'∈(S'.objs.map λp=>ρ.mo p.1 p.2).set i (.arr v e k rows'):=hp.mem_iff.2 (by simp);obtain⟨_,_,_,hr⟩:=hR.inv.holds _ hmem;exact hr
 have h2:=at_set (ρ:=ρ) S' d (.d (.sl k rows'));have h5:upd (S'.at ρ).env d (.d (.sl k rows'))=λj=>ρ.av (lk ((d,AV.d (.sl k rows'))::S'.env) j):=aA5 St.env h2;have hE:Ent (St.mk (upd (S'.at ρ).env d (.d (.lit v))) ((S'.at ρ).objs.set i (.arr v e k rows'))) ⟨upd (S'.at ρ).env d (.d (.sl k rows')),(gF h S'.objs).map λp=>ρ.mo p.1 p.2⟩:=
  oL hp λj=>by
   unfold upd;cases Nat.beq d j with
   |true=>exact .d (cFx hk)
   |false=>exact .same _
 have:=hE A M w0 n a w hR;rw[h5] at this;exact this
theorem bBt{a b:List (Nat×Option VO)}:∀{l:List (Nat×VO)},chg (a++b) l=chg b (chg a l):=by
 induction a with
 |nil=>intro l;rfl
 | cons p a ih=>
  intro l;obtain⟨h,m⟩:=p;cases m with
  |some m=>simp only[aA4,chg,ih]
  |none=>simp only[aA4,chg,ih]
theorem bEv{d:Nat}{m:VO}{x:Nat×VO}(hx:Nat.beq x.1 d=false):∀{l:List (Nat×VO)},(fB d m (l++[x])).Perm (fB d m l++[x])
 |[]=>by simp only[aG4,fB,hx,g6];exact List.Perm.swap _ _ _
 | p::l=>by
  simp only[aA4,fB];cases Nat.beq p.1 d with
  |true=>exact .refl _
  |false=>exact .cons _ (bEv hx)
theorem bIr{f g:Nat×VO->MO}{d:Nat}{m m':VO}(hm:f (d,m)=g (d,m')):∀{l:List (Nat×VO)},(∀p∈l,f p=g p)->(fB d m l).map f=(fB d m' l).map g
 |[],_=>by simp[fB,hm]
 | p::l,h=>by
  simp only[fB];cases hb:Nat.beq p.1 d with
  | true=>
   have:=f7 hb;simp only[i7,j3];rw[this,hm,aD1 λq hq=>h q (j5 _ hq)]
  | false=>
   simp only[g6,j3];rw[h p (by simp),bIr hm λq hq=>h q (j5 _ hq)]
def aCo(h:Nat)(e:Eff):Bool:=qH h e.v||e.ch.any λp=>Nat.beq p.1 h||(match p.2 with|some m=>aEm h m|none=>false)
theorem bJt{h k:Nat}{m:VO}:∀{l:List (Nat×VO)},(l.any λp=>Nat.beq p.1 h||aEm h p.2)=false->Nat.beq k h=false->aEm h m=false->((fB k m l).any λp=>Nat.beq p.1 h||aEm h p.2)=false
 |[],_,h1,h2=>by simp[fB,h1,h2]
 | p::l,hl,h1,h2=>by
  simp only[y0,j7] at hl;simp only[fB];cases hb:Nat.beq p.1 k with
  |true=>simp only[i7,y0,j7];exact⟨⟨hl.1.1,h2⟩,hl.2⟩
  |false=>simp only[g6,y0,j7];exact⟨hl.1,bJt hl.2 h1 h2⟩
theorem aMc{h:Nat}:∀{c:List (Nat×Option VO)} {l:List (Nat×VO)},(l.any λp=>Nat.beq p.1 h||aEm h p.2)=false->(c.any λp=>Nat.beq p.1 h||(match p.2 with|some m=>aEm h m|none=>false))=false->((chg c l).any λp=>Nat.beq p.1 h||aEm h p.2)=false
 |[],_,h1,_=>h1
 | (k,some m)::c,l,h1,h2=>by
  simp only[y0,j7] at h2;have:=aMc (c:=c) (bJt h1 h2.1.1 h2.1.2) h2.2;exact this
 | (k,none)::c,l,h1,h2=>by
  simp only[y0,j7] at h2;have:=aMc (c:=c) (aNu (k:=k) h1) h2.2;exact this
theorem bBi{h:Nat}{S:VS}{dst:Option Nat}{e:Eff}(hS:lV h S=false)(he:aCo h e=false):lV h (S.app dst e)=false:=by
 simp only[lV,j7] at hS|-;simp only[aCo,j7] at he;refine⟨?_,aMc hS.2 he.2⟩;cases dst with
 |none=>exact hS.1
 |some d=>simp only[VS.app,y0,j7];exact⟨he.1,hS.1⟩
theorem cCl[Mode]{q e k j:Nat}{zs:List D}{ch:List (Nat×Option VO)}{v:AV}{nw:List Nat}(hz:zs[j]?=some (.lit (.slice none 0 0)))(hq:aCo q ⟨v,ch++[(d,some (.box zs))],us,nw⟩=false)
  (h:lN P n ⟨some d,op,ty,pos,af,gd⟩ S ⟨v,ch++[(d,some (.box zs))],us,nw⟩):lN P n ⟨some d,op,ty,pos,af,gd⟩ S ⟨v,ch++[(q,some (.arr e k [])),(d,some (.box (zs.set j (.hv 0 q 0))))],us,q::nw⟩:=by
 intro S' hA hn ρ;obtain⟨gf,gl⟩:=hn q (by simp);refine cM (h S' hA (λx hx=>hn x (j5 _ hx)) ρ) ?_;rintro s ⟨ρ1,hβ,hE⟩;have G:=aJf (ρ:=ρ1) (h:=q) (.slice none 0 0);refine⟨ρ1.setS q (.slice none 0 0),hβ,hE.trans ?_⟩;have hW:=bBi (dst:=some d) gf hq;rw[<-G.at hW];have hs:=aEt (ρ:=ρ1) gl (.slice none 0 0)
 generalize ρ1.setS q (.slice none 0 0)=ρ2 at hs|-
 simp only[aCo,List.any_append,y0,j7] at hq;have hqd:Nat.beq q d=false:=by
  cases hb:Nat.beq q d with
  |false=>rfl
  |true=>have:=f7 hb;subst this;simp at hq
 simp only[lV,j7] at gf;have hL:=aMc (c:=ch) gf.2 hq.2.1;have hbox:ρ2.mo d (.box zs)=ρ2.mo d (.box (zs.set j (.hv 0 q 0))):=by
  simp only[Rho.mo,List.map_set];have:ρ2.dd (.hv 0 q 0)=.lit (.slice none 0 0):=by simp only[Rho.dd,hs]
  rw[this];have h0:(zs.map ρ2.dd)[j]?=some (.lit (.slice none 0 0)):=by rw[p8,hz];rfl
  obtain⟨hj,h1⟩:=g7.1 h0;rw[<-h1,List.set_getElem_self]
 simp only[VS.app,bBt,chg,aEp _ hL];unfold VS.at;refine(qG e k).trans (aEe ?_);refine List.Perm.trans ?_ ((bEv hqd).map _).symm;rw[v7,bIr (f:=λp=>ρ2.mo p.1 p.2) (g:=λp=>ρ2.mo p.1 p.2) hbox λ_ _=>rfl];simp only[j3,aH1,Rho.mo,hs];exact .refl _
theorem bXp[Mode]{q e k j:Nat}{xs:List D}{ch:List (Nat×Option VO)}{nw:List Nat}(hz:xs[j]?=some (.lit (.slice none 0 0)))(hq:aCo q ⟨.agg xs,ch,us,nw⟩=false)
  (h:lN P n ⟨some d,op,ty,pos,af,gd⟩ S ⟨.agg xs,ch,us,nw⟩):lN P n ⟨some d,op,ty,pos,af,gd⟩ S ⟨.agg (xs.set j (.hv 0 q 0)),ch++[(q,some (.arr e k []))],us,q::nw⟩:=by
 intro S' hA hn ρ;obtain⟨gf,gl⟩:=hn q (by simp);refine cM (h S' hA (λx hx=>hn x (j5 _ hx)) ρ) ?_;rintro s ⟨ρ1,hβ,hE⟩;have G:=aJf (ρ:=ρ1) (h:=q) (.slice none 0 0);refine⟨ρ1.setS q (.slice none 0 0),hβ,hE.trans ?_⟩;have hW:=bBi (dst:=some d) gf hq;rw[<-G.at hW];have hs:=aEt (ρ:=ρ1) gl (.slice none 0 0)
 generalize ρ1.setS q (.slice none 0 0)=ρ2 at hs|-
 simp only[aCo,j7] at hq;simp only[lV,j7] at gf;have hL:=aMc (c:=ch) gf.2 hq.2;have hval:ρ2.av (.agg xs)=ρ2.av (.agg (xs.set j (.hv 0 q 0))):=by
  simp only[Rho.av,Rho.a0,List.map_set];have:ρ2.dd (.hv 0 q 0)=.lit (.slice none 0 0):=by simp only[Rho.dd,hs]
  rw[this];have h0:(xs.map ρ2.dd)[j]?=some (.lit (.slice none 0 0)):=by rw[p8,hz];rfl
  obtain⟨hj,h1⟩:=g7.1 h0;rw[<-h1,List.set_getElem_self]
 have henv:(λk=>ρ2.av (lk ((d,AV.agg xs)::S'.env) k))=λk=>ρ2.av (lk ((d,AV.agg (xs.set j (.hv 0 q 0)))::S'.env) k):=by
  funext k
  simp only[lk];cases Nat.beq d k with
  |true=>exact hval
  |false=>rfl
 simp only[VS.app,bBt,chg,aEp _ hL];unfold VS.at;rw[henv];refine(qG e k).trans (aEe ?_);simp only[v7,j3,aH1,Rho.mo,hs];exact .refl _
end lift
end Go.Am
end
end
section
section
section
namespace Go.Am
theorem bVa[Mode]{env:Nat->AV}{objs:List MO}{i:Nat}{m m1 m2:MO}(ho:objs[i]?=some m1)(hf:∀b o,m.foot b o->m1.foot b o\/m2.foot b o)
  (hh:∀w X,m1.holds w X->m2.holds w X->(∀b o,m2.foot b o->¬m1.foot b o)->m.holds w X):Ent ⟨env,objs++[m2]⟩ ⟨env,objs.set i m⟩:=by
 intro A M w0 n a w hR;have hmi:m1∈objs:=i8 ho;have hil:=(g7.1 ho).1;have hie:=(g7.1 ho).2;obtain⟨s1,_,s3⟩:=p9.1 hR.inv.sep;have hsep:=u0.1 s1;have hdis:∀x∈objs,∀b o,x.foot b o->¬m2.foot b o:=λx hx b o h h'=>s3 x hx m2 (by simp) b o h h';have k:=hh w _ (hR.inv.holds m1 (i6.2 (.inl hmi))) (hR.inv.holds m2 (by simp)) λb o h2 h1=>hdis m1 hmi b o h1 h2;refine hR.change (Z:=λ_ _=>False) (Keeps.refl _ _) (λ_ _ h=>h.elim) (λb o _ hx=>?_) ?_ λhm x hx=>?_
 ·obtain⟨x,hx,hxf⟩:=hx
  rcases aC0 hx with h|rfl
  ·exact⟨x,i6.2 (.inl h),hxf⟩
  ·rcases hf _ _ hxf with h|h
   ·exact⟨m1,i6.2 (.inl hmi),h⟩
   ·exact⟨m2,by simp,h⟩
 ·refine u0.2 λp q hp hq hpq b o hpf hqf=>?_;simp only[aA7] at hp hq;simp only[List.getElem_set] at hpf hqf;split at hpf
  ·rename_i hip
   split at hqf
   ·omega
   ·subst hip
    rcases hf _ _ hpf with h|h
    ·exact hsep i q hp hq hpq b o (by rw[hie];exact h) hqf
    ·exact hdis _ (j9 hq) b o hqf h
  ·split at hqf
   ·rename_i hiq
    subst hiq
    rcases hf _ _ hqf with h|h
    ·exact hsep p i hp hq hpq b o hpf (by rw[hie];exact h)
    ·exact hdis _ (j9 hp) b o hpf h
   ·exact hsep p q hp hq hpq b o hpf hqf
 ·rcases aC0 hx with h|rfl
  ·exact cI (hR.inv.holds x (i6.2 (.inl h))) (Z:=λ_ _=>False) (Keeps.refl _ _) (λ_ _ _ h=>h) hm
  ·exact cI k (Z:=λ_ _=>False) (Keeps.refl _ _) (λ_ _ _ h=>h) hm
section
variable{env:Nat->AV}{objs:List MO}{i e k j:Nat}{vs:List Value}{rss:List (List (List D))}{v:Value}{rows:List (List D)}
theorem bZo[Mode](ho:objs[i]?=some (.fam e k vs rss)):Ent ⟨env,objs++[.arr v e k rows]⟩ ⟨env,objs.set i (.fam e k (vs++[v]) (rss++[rows]))⟩:=
 bVa ho (λb o ⟨u,hu,hb⟩=>by
  rcases i6.1 hu with h|h
  ·exact .inl ⟨u,h,hb⟩
  ·simp at h;subst h;exact .inr hb) λw X h1 h2 h3=>by
  obtain⟨hl,hs,hh⟩:=h1;refine⟨by simp[hl],p9.2 ⟨hs,by simp,λa ha b hb x hx hy=>?_⟩,λq u us hu hus=>?_⟩
  ·simp at hb;subst hb
   exact h3 x 0 hy ⟨a,ha,hx⟩
  ·by_cases hq:q<vs.length
   ·rw[m9 hq] at hu;rw[m9 (by omega)] at hus;exact hh q u us hu hus
   ·have hq2:=(g7.1 hu).1
    simp at hq2
    have:q=vs.length:=by omega
    subst this;rw[p7 (n5 _)] at hu;rw[hl,p7 (n5 _)] at hus
    simp at hu hus
    subst hu;subst hus;exact h2
theorem bQr[Mode](e k:Nat):Ent ⟨env,objs⟩ ⟨env,objs++[.fam e k [] []]⟩:=by
 intro A M w0 n a w hR;exact hR.add (w':=w) (m:=.fam e k [] []) (Keeps.refl _ _) (λb o hf=>by obtain⟨v,hv,_⟩:=hf;cases hv)
  (λhm=>⟨rfl,List.Pairwise.nil,λi v rows hv _=>by simp at hv⟩)
end
section
variable{P:Program}{n d:Nat}{st:St}{o:Oper}{f e k j:Nat}{vs:List Value}{rss:List (List (List D))}{v:Value}{rows rows':List (List D)}
theorem bKe[Mode]{α:Type}{x y:Operand}{t e0 m bytes:Nat}{v0 z:Value}{g:α->List D}{c c':List (List α)}{row:List α}{ty:TypeId}{pos:String}{af:Array Edge}{gd:Option (Nat×Bool)}(hd:d<n)(ht:SliceTy P t e0 1 bytes z)
  (hx:st.eval x=.d (.lit v0))(ho:st.objs[m]?=some (.arr v0 e0 1 (vs.map λv=>[.lit v])))(hf:st.objs[f]?=some (.fam e k vs (c.map λr=>r.map g)))(hy:st.eval y=.d (.sl 1 [[.lit v]]))(hb:app bytes c [row]=some c')(hby:Nat.blt 0 bytes=true):
  Step P n ⟨some d,.call {callee:=.builtin .append,args:= #[x,y],argTypes:= #[t,t]},ty,pos,af,gd⟩ st (λs=>∃v',s=⟨upd st.env d (.d (.lit v')),st.objs.set m (.arr v' e0 1 ((vs++[v]).map λv=>[.lit v]))⟩):=by
 intro A M w0 a w hR K Q hK;obtain⟨hl,_⟩:=hR.inv.holds _ (i8 hf);have hl2:vs.length=c.length:=by simpa using hl
 have hb2:app bytes vs [v]=some (vs++[v]):=by
  unfold app at hb|-;split at hb
  ·rename_i hc
   rw[if_pos (by rw[hl2];exact hc)]
  ·cases hb
 exact uQ (f:=λv=>[D.lit v]) (xs:=vs) (ys:=[v]) hd ht hx ho hy (λ_=>rfl) hb2 hby A M w0 a w hR K Q hK
end
end Go.Am
end
section
namespace Go.Am
def dG{α:Type}(l:List α)(bs seen:List Nat):List α:=((l.zip bs).filter λq=>!seen.contains q.2).map (·.1)
theorem bVq{α:Type}{l:List α}{bs:List Nat}(h:bs.length=l.length):dG l bs []=l:=by
 unfold dG;have:(l.zip bs).filter (λq=>!([]:List Nat).contains q.2)=l.zip bs:=by rw[List.filter_eq_self];intro q _;simp
 rw[this,List.map_fst_zip (by omega)]
theorem aCg{α:Type}:∀{l:List α} {bs seen:List Nat} {j b:Nat} {p:α},bs.Pairwise (·<·)->l[j]?=some p->bs[j]?=some b->b∉seen->
  ∃i,(dG l bs seen)[i]?=some p/\dG l bs (seen++[b])=(dG l bs seen).eraseIdx i
 |[],_,_,j,_,_,_,h,_,_=>by simp at h
 |_::_,[],_,j,_,_,_,_,h,_=>by simp at h
 | a ::l,c::bs,seen,0,b,p,hp,hl,hb,hs=>by
  simp at hl hb
  subst hl;subst hb;rw[aC5] at hp;refine⟨0,?_,?_⟩
  ·simp[dG,hs]
  ·have e1:∀q∈l.zip bs,(!(seen++[c]).contains q.2)=!seen.contains q.2:=by
    intro q hq;have:=hp.1 q.2 (List.of_mem_zip hq).2;have hne:q.2≠c:=by omega
    simp[hne]
   simp only[dG,List.zip_cons_cons,aD0];rw[List.filter_congr e1]
   simp[hs]
 | a::l,c::bs,seen,j+1,b,p,hp,hl,hb,hs=>by
  rw[aC5] at hp
  simp at hl hb
  obtain⟨i,h1,h2⟩:=aCg (seen:=seen) hp.2 hl hb hs;have hcb:c≠b:=by
   have:=hp.1 b (i8 hb)
   omega
  have ec:(seen++[b]).contains c=seen.contains c:=by simp[hcb]
  have cons:∀s:List Nat,dG (a::l) (c::bs) s=bif s.contains c then dG l bs s else a::dG l bs s:=by
   intro s;unfold dG;rw[List.zip_cons_cons,aD0];cases s.contains c<;>rfl
  rw[cons seen,cons (seen++[b]),ec];cases seen.contains c with
  |true=>exact⟨i,h1,h2⟩
  |false=>exact⟨i+1,by simpa using h1,by simp[h2]⟩
def bIy{α:Type}(left:List α)(A:Prop)(B:α->List α->Prop):Prop:=(left=[]->A)/\∀i p,left[i]?=some p->B p (left.eraseIdx i)
def aMp{α:Type}(l:List α)(f:List α->Prop):Prop:=f l
theorem aSh{α:Type}{l:List α}{bs:List Nat}{f:List α->Prop}(h:aMp l f)(hl:dG l bs []=l):f (dG l bs []):=by rw[hl];exact h
theorem aVh{α:Type}{l:List α}{bs seen:List Nat}{j b:Nat}{p:α}{A:Prop}{B:α->List α->Prop}(h:bIy (dG l bs seen) A B)(hp:bs.Pairwise (·<·)/\l[j]?=some p/\bs[j]?=some b/\b∉seen):B p (dG l bs (seen++[b])):=by
 obtain⟨i,h1,h2⟩:=aCg hp.1 hp.2.1 hp.2.2.1 hp.2.2.2;rw[h2];exact h.2 i p h1
theorem MRs.len{w:World}{X:aR}{es:List (Value×AV)}{ms:List MapEntry}(h:MRs w X es ms):ms.length=es.length:=by
 have:=aA5 List.length h.keys
 simpa using this
section
variable{P:Program}{n d:Nat}{st:St}
theorem cAs[Mode]{A M:aR}{w0:W0}{a:Act}{w w1:World}{mi r m ck b:Nat}{seen:List Nat}(hR:R A M w0 n st a w)(ho:st.objs[mi]?=some (.iter r m ck seen ck))(hw:w1=w\/w1=w.drew):
  R A M w0 n ⟨st.env,st.objs.set mi (.iter r m ck (seen++[b]) ck)⟩ a (ChangeMaps.setBlock w1 r (.mapIter (some m) ck (seen.toArray.push b) ck)):=by
 have hh:w.heap[r]?=some (.mapIter (some m) ck seen.toArray ck):=hR.inv.holds _ (i8 ho);have hrl:r<w.heap.size:=(j8.1 hh).1;have hk:Keeps (λb _=>b=r) w (ChangeMaps.setBlock w1 r (.mapIter (some m) ck (seen.toArray.push b) ck)):=by
  rcases hw with rfl|rfl
  ·exact Keeps.setObj _ _ _
  ·exact(Keeps.drew _ _).trans (Keeps.setObj w.drew _ _)
 refine hR.replace (m':=.iter r m ck (seen++[b]) ck) ho hk (λb o hb=>by subst hb;rfl) (λb o hf=>.inl hf) λhm=>?_;show(ChangeMaps.setBlock w1 r (.mapIter (some m) ck (seen.toArray.push b) ck)).heap[r]?=_;have hrl1:r<w1.heap.size:=by rcases hw with rfl|rfl<;>exact hrl
 simp[ChangeMaps.setBlock,hrl1]
theorem cCi[Mode]{t kt et:TypeId}{α:Type}{l:List α}{f:α->Value×AV}{x:Operand}{r m:Nat}{bs:List Nat}{ck:Nat}{ty:TypeId}{pos:String}{af:Array Edge}{gd:Option (Nat×Bool)}(hd:d<n)
  (ht:P.underlying t=some (.map kt et))(hx:st.eval x=.d (.lit (.map (some r))))(ho:st.objs[m]?=some (.map r (l.map f) bs ck)):
  aQ P n ⟨some d,.call {callee:=.builtin .len,args:= #[x],argTypes:= #[t]},ty,pos,af,gd⟩ st (st.set d (.i l.length)):=
 cG rfl hd λA M w0 ac w hR=>by
  obtain⟨ms,hh,hms,_⟩:=hR.inv.holds _ (i8 ho);have:ms.size=l.length:=by have:=hms.len;simpa using this
  refine⟨.int .i64 l.length,?_,.d (.lit _ rfl)⟩
  simp[execOp,resolve,hR.lit hx,invoke,builtin,Builtin.len_,run_underlying ht,eQ hh,goInt,this]
theorem bAo[Mode]{t kt et:TypeId}{α β:Type}[DecidableEq α]{kv:α->Value}{av:β->AV}{l:List (α×β)}{z:β}{zv:Value}{a:α}{x y:Operand}{r m:Nat}{bs:List Nat}{clock:Nat}{ty:TypeId}{pos:String}{af:Array Edge}{gd:Option (Nat×Bool)}(hd:d<n)
  (hk:kU P kt kv)(ht:P.underlying t=some (.map kt et))(hz:∀w,(zeroValue et).run P w=.ok zv w)(hzv:∀w X,VR w X (av z) zv)
  (hx:st.eval x=.d (.lit (.map (some r))))(ho:st.objs[m]?=some (.map r (l.map λp=>(kv p.1,av p.2)) bs clock))(hyk:cD y=true){yv:AV}(hyv:st.eval y=yv)(hy:qD kv yv a):
  aQ P n ⟨some d,.lookup t x y true,ty,pos,af,gd⟩ st (st.set d (.tup [av (bW a z l),.d (.lit (.bool (cR a l)))])):=
 cG rfl hd λA M w0 ac w hR=>by
  obtain⟨ms,hh,hms,_⟩:=hR.inv.holds _ (i8 ho);have hkey:=hy _ _ _ (hyv▸hR.eval' hyk);have hkeys:ms.toList.map (·.key)=(l.map (·.1)).map kv:=by rw[hms.keys];simp
  have hf:=hk.find a (l.map (·.1)) ms.toList w hkeys
  rcases uO a z l with⟨h1,h2⟩|⟨j,p,h1,h2,h3,h4⟩
  ·have hhas:cR a l=false:=by rw[nM,h1];rfl
   refine⟨.tuple #[zv,.bool false],?_,.tup (us:=[_,_]) rfl λi hi=>by
    match i,hi with
    |0,_=>rw[h2];exact hzv _ _
    |1,_=>rw[hhas];exact .d (.lit _ rfl)⟩
   simp[execOp,hR.lit hx,hkey,Instr.lookup,run_underlying ht,eQ hh,hk.chk,hf,h1,hz]
  ·have hhas:cR a l=true:=by rw[nM,h1];rfl
   obtain⟨e,he,hv⟩:=hms.get (j:=j) (e:=(kv p.1,av p.2)) (by simp[h2]);refine⟨.tuple #[e.val,.bool true],?_,.tup (us:=[_,_]) rfl λi hi=>by
    match i,hi with
    |0,_=>rw[h3];exact hv
    |1,_=>rw[hhas];exact .d (.lit _ rfl)⟩
   simp only[Array.getElem?_toList] at he
   simp[execOp,hR.lit hx,hkey,Instr.lookup,run_underlying ht,eQ hh,hk.chk,hf,h1,he]
theorem aOq{α β:Type}[DecidableEq α](a:α)(v:β):∀(l:List (α×β)),cR a l=false->dE a v l=l++[(a,v)]
 |[],_=>rfl
 | (b,u)::l,h=>by
  simp only[cR,j7,n9] at h
  simp[dE,h.1,aOq a v l h.2]
theorem aLs[Mode]{t kt et:TypeId}{α β:Type}[DecidableEq α]{kv:α->Value}{av:β->AV}{l:List (α×β)}{v:β}{a:α}{x y q:Operand}{r m:Nat}{bs:List Nat}{clock:Nat}{ty:TypeId}{pos:String}{af:Array Edge}{gd:Option (Nat×Bool)}
  (hk:kU P kt kv)(ht:P.underlying t=some (.map kt et))
  (hx:st.eval x=.d (.lit (.map (some r))))(ho:st.objs[m]?=some (.map r (l.map λp=>(kv p.1,av p.2)) bs clock))(hyk:cD y=true){yv:AV}(hyv:st.eval y=yv)(hy:qD kv yv a)(hqk:cD q=true)(hq:st.eval q=av v):
  aQ P n ⟨none,.mapUpdate t x y q,ty,pos,af,gd⟩ st ⟨st.env,st.objs.set m (.map r ((dE a v l).map λp=>(kv p.1,av p.2)) (mbs a l bs clock) (mck a l clock))⟩:=by
 intro A M w0 ac w hR K Q hK;obtain⟨ms,hh,hms,hb1,hb2,hb3⟩:=hR.inv.holds _ (i8 ho);have hkey:=hy _ _ _ (hyv▸hR.eval' hyk);have hv:=hR.eval' hqk;rw[hq] at hv;have hkeys:ms.toList.map (·.key)=(l.map (·.1)).map kv:=by rw[hms.keys];simp
 have hf:=hk.find a (l.map (·.1)) ms.toList w hkeys;have hrl:r<w.heap.size:=(j8.1 hh).1;unfold Oper.wp
 rcases uO a v l with⟨h1,h2⟩|⟨j,p,h1,h2,h3,h4⟩
 ·have hhas:cR a l=false:=by rw[nM,h1];rfl
  have hrun:(execOp ac.eval ⟨none,.mapUpdate t x y q,ty,pos,af,gd⟩).run P w=.ok .skip {w with heap:=w.heap.setIfInBounds r (.map (ms.push {key:=kv a,val:=ac.eval q,born:=clock}) (clock+1))}:=by
   simp[execOp,hR.lit hx,hkey,Instr.mapUpdate,run_underlying ht,eQ hh,hk.chk,hf,h1,pV _ hh]
  rw [hrun,Oper.upon_skip];refine hK _ _ _ rfl ?_;have hR':=hR.replace (w':={w with heap:=w.heap.setIfInBounds r (.map (ms.push {key:=kv a,val:=ac.eval q,born:=clock}) (clock+1))}) (m':=.map r ((dE a v l).map λp=>(kv p.1,av p.2)) (mbs a l bs clock) (mck a l clock)) ho
   (Keeps.setObj w r _) (λb o hb=>by subst hb;rfl) (λb o hf=>.inl hf) λhmono=>by
    refine⟨ms.push {key:=kv a,val:=ac.eval q,born:=clock},?_,?_,?_,?_,?_⟩
    ·simp[hrl,mck,hhas]
    ·have hm2:=hms.mono hmono;have hv2:=hv.mono hmono
     revert hm2 hv2
     generalize aU A (st.objs.set m (.map r ((dE a v l).map λp=>(kv p.1,av p.2)) (mbs a l bs clock) (mck a l clock)))=Z
     intro hm2 hv2;rw[aOq a v l hhas];simp only[v7,Array.toList_push];exact MRs.snoc hm2 rfl hv2
    ·simp[mbs,hhas,hb1]
    ·simp only[mbs,hhas,g6];exact p9.2 ⟨hb2,by simp,λx hx y hy=>by simp at hy;subst hy;exact hb3 x hx⟩
    ·simp only[mbs,hhas,g6,mck];intro b hb
     rcases i6.1 hb with h|h
     ·have:=hb3 b h;omega
     ·simp at h;omega
  exact hR'.put_none rfl
 ·have hhas:cR a l=true:=by rw[nM,h1];rfl
  obtain⟨e,he,_⟩:=hms.get (j:=j) (e:=(kv p.1,av p.2)) (by simp[h2]);have he':ms[j]?=some e:=by simpa using he
  have hke:e.key=kv a:=by
   have:=aA5 (λq=>q[j]?) hkeys
   simp[he',h2,h4] at this
   exact this
  have hmod:ms.modify j (λe=>{e with key:=kv a,val:=ac.eval q})=ms.modify j (λe=>{e with val:=ac.eval q}):=by
   apply Array.ext_getElem?;intro i;rw[Array.getElem?_modify,Array.getElem?_modify]
   split
   ·rename_i hq;subst hq;rw[he'];simp[<-hke]
   ·rfl
  have hrun:(execOp ac.eval ⟨none,.mapUpdate t x y q,ty,pos,af,gd⟩).run P w=.ok .skip {w with heap:=w.heap.setIfInBounds r (.map (ms.modify j λe=>{e with val:=ac.eval q}) clock)}:=by
   simp[execOp,hR.lit hx,hkey,Instr.mapUpdate,run_underlying ht,eQ hh,hk.chk,hf,h1,he',hke,hk.stays,hmod,pV _ hh]
  rw [hrun,Oper.upon_skip];refine hK _ _ _ rfl ?_;have hR':=hR.replace (w':={w with heap:=w.heap.setIfInBounds r (.map (ms.modify j λe=>{e with val:=ac.eval q}) clock)}) (m':=.map r ((dE a v l).map λp=>(kv p.1,av p.2)) (mbs a l bs clock) (mck a l clock)) ho
   (Keeps.setObj w r _) (λb o hb=>by subst hb;rfl) (λb o hf=>.inl hf) λhmono=>by
    refine⟨ms.modify j λe=>{e with val:=ac.eval q},by simp[hrl,mck,hhas],?_,?_,by simpa[mbs,hhas] using hb2,by simpa[mbs,mck,hhas] using hb3⟩
    ·have hm2:=hms.mono hmono;have hv2:=hv.mono hmono
     revert hm2 hv2
     generalize aU A (st.objs.set m (.map r ((dE a v l).map λp=>(kv p.1,av p.2)) (mbs a l bs clock) (mck a l clock)))=Z
     intro hm2 hv2;rw[bCk a v l j h1,List.map_set,Array.toList_modify];exact MRs.set hm2 (by simp[h2,h4]) hv2
    ·simp only[mbs,hhas,i7];rw[<-hb1,Array.toList_modify];apply aD2;intro i;simp only[p8,List.getElem?_modify];cases ms.toList[i]? with
     |none=>simp
     |some e=>simp;split<;>rfl
  exact hR'.put_none rfl
def uA{α β:Type}[DecidableEq α](a:α)(l:List (α×β)):List (α×β):=match eT a (l.map (·.1)) with|some j=>l.eraseIdx j|none=>l
def aSb{α β:Type}[DecidableEq α](a:α)(l:List (α×β))(bs:List Nat):List Nat:=match eT a (l.map (·.1)) with|some j=>bs.eraseIdx j|none=>bs
theorem MRs.erase{w:World}{X:aR}:∀{es:List (Value×AV)} {ms:List MapEntry} (j:Nat),MRs w X es ms->MRs w X (es.eraseIdx j) (ms.eraseIdx j)
 |[],[],_,h=>by simpa using h
 |(_,_)::_,_::_,0,h=>h.2.2
 |(_,_)::_,_::_,j+1,h=>⟨h.1,h.2.1,MRs.erase j h.2.2⟩
theorem aGm{α β:Type}(f:α->β):∀(l:List α) (j:Nat),(l.map f).eraseIdx j=(l.eraseIdx j).map f
 |[],_=>rfl
 |_::_,0=>rfl
 |_::l,j+1=>by simp[aGm f l j]
theorem cCg[Mode]{t kt kt' et:TypeId}{α β:Type}[DecidableEq α]{kv:α->Value}{av:β->AV}{l:List (α×β)}{a:α}{x y:Operand}{r m:Nat}{bs:List Nat}{clock:Nat}{ty:TypeId}{pos:String}{af:Array Edge}{gd:Option (Nat×Bool)}
  (hk:kU P kt kv)(ht:P.underlying t=some (.map kt et))
  (hx:st.eval x=.d (.lit (.map (some r))))(ho:st.objs[m]?=some (.map r (l.map λp=>(kv p.1,av p.2)) bs clock))(hyk:cD y=true){yv:AV}(hyv:st.eval y=yv)(hy:qD kv yv a):
  aQ P n ⟨none,.call {callee:=.builtin .delete,args:= #[x,y],argTypes:= #[t,kt']},ty,pos,af,gd⟩ st ⟨st.env,st.objs.set m (.map r ((uA a l).map λp=>(kv p.1,av p.2)) (aSb a l bs) clock)⟩:=by
 intro A M w0 ac w hR K Q hK;obtain⟨ms,hh,hms,hb1,hb2,hb3⟩:=hR.inv.holds _ (i8 ho);have hkey:=hy _ _ _ (hyv▸hR.eval' hyk);have hkeys:ms.toList.map (·.key)=(l.map (·.1)).map kv:=by rw[hms.keys];simp
 have hf:=hk.find a (l.map (·.1)) ms.toList w hkeys;have hrl:r<w.heap.size:=(j8.1 hh).1;unfold Oper.wp;cases h1:eT a (l.map (·.1)) with
 | none=>
  have hset:w.heap.setIfInBounds r (.map ms clock)=w.heap:=by
   apply Array.ext_getElem?;intro q;rw[Array.getElem?_setIfInBounds]
   split
   ·rename_i hq;cases hq;rw[hh]
   ·rfl
  have hrun:(execOp ac.eval ⟨none,.call {callee:=.builtin .delete,args:= #[x,y],argTypes:= #[t,kt']},ty,pos,af,gd⟩).run P w=.ok (.value (.tuple #[])) w:=by
   simp[execOp,resolve,hR.lit hx,hkey,invoke,builtin,Builtin.delete_,run_underlying ht,eQ hh,hk.chk,hf,h1,pV _ hh,hset]
  rw[hrun,Oper.upon_value];refine hK _ _ _ rfl ?_;have e2:st.objs.set m (.map r ((uA a l).map λp=>(kv p.1,av p.2)) (aSb a l bs) clock)=st.objs:=by
   simp only[uA,aSb,h1];apply aD2;intro q;rw[aB3]
   split
   ·rename_i hq;subst hq;rw[ho];simp;have:=(g7.1 ho).1;omega
   ·rfl
  rw[e2];exact hR.put_none rfl
 | some j=>
  have hjl:j<l.length:=by
   rcases uO (β:=Unit) a () (l.map λp=>(p.1,())) with⟨h2,_⟩|⟨j',p,h2,h3,_⟩
   ·simp only[aA6] at h2;have:eT a (l.map (·.1))=none:=h2;rw[h1] at this;cases this
   ·simp only[aA6] at h2;have h4:eT a (l.map (·.1))=some j':=h2;rw[h1] at h4;cases h4;have:=(g7.1 h3).1
    simpa using this
  have hlm:ms.size=l.length:=by have:=hms.len;simpa using this
  have hrun:(execOp ac.eval ⟨none,.call {callee:=.builtin .delete,args:= #[x,y],argTypes:= #[t,kt']},ty,pos,af,gd⟩).run P w=.ok (.value (.tuple #[])) {w with heap:=w.heap.setIfInBounds r (.map (ms.eraseIdxIfInBounds j) clock)}:=by
   simp[execOp,resolve,hR.lit hx,hkey,invoke,builtin,Builtin.delete_,run_underlying ht,eQ hh,hk.chk,hf,h1,pV _ hh,u1 (show j<ms.size by omega)]
  rw [hrun,Oper.upon_value];refine hK _ _ _ rfl ?_;have hR':=hR.replace (w':={w with heap:=w.heap.setIfInBounds r (.map (ms.eraseIdxIfInBounds j) clock)}) (m':=.map r ((uA a l).map λp=>(kv p.1,av p.2)) (aSb a l bs) clock) ho
   (Keeps.setObj w r _) (λb o hb=>by subst hb;rfl) (λb o hf=>.inl hf) λhmono=>by
    have hel:(ms.eraseIdxIfInBounds j).toList=ms.toList.eraseIdx j:=by simp[Array.toList_eraseIdxIfInBounds]
    refine⟨ms.eraseIdxIfInBounds j,by simp[hrl],?_,?_,?_,?_⟩
    ·have hm2:=(hms.mono hmono).erase j;rw[hel];rw[aGm] at hm2
     revert hm2
     generalize aU A (st.objs.set m (.map r ((uA a l).map λp=>(kv p.1,av p.2)) (aSb a l bs) clock))=Z
     intro hm2;simp only[uA,h1];exact hm2
    ·rw[hel,<-aGm,hb1]
     simp[aSb,h1]
    ·simp only[aSb,h1];exact hb2.sublist (List.eraseIdx_sublist _ _)
    ·simp only[aSb,h1];exactλb hb=>hb3 b (aE3 hb)
  exact hR'.put_none rfl
end
end Go.Am
end
end
section
section
namespace Go.Am
def eA(agg:Bool)(ds:List D):AV:=bif agg then .agg ds else .d (ds.getD 0 (.lit undef))
theorem aWo{w:World}{X:aR}{agg:Bool}{es:List (Value×List D)}{u:Value}(h:DR w X (.mp agg es) u):
  ∃ r clock,∃ms:Array MapEntry,u=.map (some r)/\w.heap[r]?=some (.map ms clock)/\ms.toList.map (·.key)=es.map (·.1)/\
   ∀(i:Nat) (m:MapEntry) (e:Value×List D),ms.toList[i]?=some m->es[i]?=some e->VR w X (eA agg e.2) m.val:=by
 cases h with
 | mp _ _ r clock ms f hb hx hk hp hc hv h1 hr=>
  refine⟨r,clock,ms,rfl,hb,hk,λi m e hi he=>?_⟩;rw[hv i m e hi he];cases agg with
  | true=>
   refine .agg (DRs.of (by simp) λj d v hd hv=>?_);have hj:j<e.2.length:=(g7.1 hd).1
   simp[hj] at hv
   subst hv;exact hr i j e d he hd
  | false=>
   have hl:=h1 rfl e (i8 he);have hd:e.2[0]?=some (e.2.getD 0 (.lit undef)):=by simp[List.getD,show 0<e.2.length by omega]
   exact .d (hr i 0 e _ he hd)
section
variable{P:Program}{n d:Nat}{st:St}
theorem cGu{kt:TypeId}{α β:Type}[DecidableEq α]{kv:α->Value}{enc:β->List D}{agg:Bool}{l:List (α×β)}{a:α}{z:β}(hk:kU P kt kv){w:World}{X:aR}{ms:Array MapEntry}
  (hkeys:ms.toList.map (·.key)=(l.map λp=>(kv p.1,enc p.2)).map (·.1))(hval:∀(i:Nat) (m:MapEntry) (e:Value×List D),ms.toList[i]?=some m->(l.map λp=>(kv p.1,enc p.2))[i]?=some e->VR w X (eA agg e.2) m.val):
  ((Instr.findKey kt (kv a) ms.toList).run P w=.ok none w/\cR a l=false/\bW a z l=z)\/∃(j:Nat) (u:Value),(Instr.findKey kt (kv a) ms.toList).run P w=.ok (some (j,u)) w/\cR a l=true/\VR w X (eA agg (enc (bW a z l))) u:=by
 have hkeys':ms.toList.map (·.key)=(l.map (·.1)).map kv:=by rw[hkeys];simp
 have hf:=hk.find a (l.map (·.1)) ms.toList w hkeys'
 rcases uO a z l with⟨h1,h2⟩|⟨j,p,h1,h2,h3,h4⟩
 ·left
  rw[h1] at hf;exact⟨hf,by rw[nM,h1];rfl,h2⟩
 ·right
  have hjl:=(g7.1 h2).1;have hlen:ms.toList.length=l.length:=by have:=aA5 List.length hkeys';simpa using this
  have hm:ms.toList[j]?=some (ms.toList[j]'(by omega)):=g9 (by omega);rw[h1] at hf;simp only[c6,hm,aE2] at hf;refine⟨j,_,hf,by rw[nM,h1];rfl,?_⟩;have:=hval j _ (kv p.1,enc p.2) hm (by simp[h2]);rw[h3];exact this
theorem aGt[Mode]{t kt et:TypeId}{α β:Type}[DecidableEq α]{kv:α->Value}{enc:β->List D}{agg:Bool}{l:List (α×β)}{z:β}{zv:Value}{a:α}{x y:Operand}{ty:TypeId}{pos:String}{af:Array Edge}{gd:Option (Nat×Bool)}(hd:d<n)
  (hk:kU P kt kv)(ht:P.underlying t=some (.map kt et))(hz:∀w,(zeroValue et).run P w=.ok zv w)(hzv:∀w X,VR w X (eA agg (enc z)) zv)
  (hx:st.eval x=.d (.mp agg (l.map λp=>(kv p.1,enc p.2))))(hxk:cD x=true)(hyk:cD y=true){yv:AV}(hyv:st.eval y=yv)(hy:qD kv yv a):
  aQ P n ⟨some d,.lookup t x y true,ty,pos,af,gd⟩ st (st.set d (.tup [eA agg (enc (bW a z l)),.d (.lit (.bool (cR a l)))])):=
 cG rfl hd λA M w0 ac w hR=>by
  have h:=hR.eval' hxk;rw[hx] at h
  generalize hu:ac.eval x=u at h
  cases h with
  | d h=>
   obtain⟨r,clock,ms,rfl,hh,hkeys,hval⟩:=aWo h;have hkey:=hy _ _ _ (hyv▸hR.eval' hyk)
   rcases cGu (a:=a) (z:=z) hk hkeys hval with⟨hf,hhas,h2⟩|⟨j,v,hf,hhas,hv⟩
   ·refine⟨.tuple #[zv,.bool false],?_,.tup (us:=[_,_]) rfl λi hi=>by
     match i,hi with
     |0,_=>rw[h2];exact hzv _ _
     |1,_=>rw[hhas];exact .d (.lit _ rfl)⟩
    simp[execOp,hu,hkey,Instr.lookup,run_underlying ht,eQ hh,hk.chk,hf,hz]
   ·refine⟨.tuple #[v,.bool true],?_,.tup (us:=[_,_]) rfl λi hi=>by
     match i,hi with
     |0,_=>exact hv
     |1,_=>rw[hhas];exact .d (.lit _ rfl)⟩
    simp[execOp,hu,hkey,Instr.lookup,run_underlying ht,eQ hh,hk.chk,hf]
theorem bMs[Mode]{t kt et:TypeId}{agg:Bool}{es:List (Value×List D)}{x:Operand}{ty:TypeId}{pos:String}{af:Array Edge}{gd:Option (Nat×Bool)}(hd:d<n)
  (ht:P.underlying t=some (.map kt et))(hx:st.eval x=.d (.mp agg es))(hxk:cD x=true):
  aQ P n ⟨some d,.call {callee:=.builtin .len,args:= #[x],argTypes:= #[t]},ty,pos,af,gd⟩ st (st.set d (.i es.length)):=
 cG rfl hd λA M w0 ac w hR=>by
  have h:=hR.eval' hxk;rw[hx] at h
  generalize hu:ac.eval x=u at h
  cases h with
  | d h=>
   obtain⟨r,clock,ms,rfl,hh,hkeys,hval⟩:=aWo h;have:ms.size=es.length:=by have:=aA5 List.length hkeys;simpa using this
   refine⟨.int .i64 es.length,?_,.d (.lit _ rfl)⟩
   simp[execOp,resolve,hu,invoke,builtin,Builtin.len_,run_underlying ht,eQ hh,goInt,this]
def nb{α:Type}(o:Option α)(f:α->Prop):Prop:=∃x,o=some x/\f x
theorem aTq{α:Type}{o:Option α}{f:α->Prop}(h:nb o f):∃x,o=some x/\f x:=h
theorem cFv{a b:Prop}{c:Bool}(hc:c=true)(h:bif c then a else b):a:=by subst hc;exact h
theorem cFu{a b:Prop}{c:Bool}(hc:c=false)(h:bif c then a else b):b:=by subst hc;exact h
def aKn:AV->Bool
 | .d (.lit _)=>true
 | .agg ds=>dY ds
 | .tup vs=>vs.all λv=>match v with
  | .d (.lit _)=>true
  | .agg ds=>dY ds
  |_=>false
 |_=>false
theorem aRy{w w':World}{X X':aR}:∀{ds:List D} {vs:List Value},dY ds=true->DRs w X ds vs->DRs w' X' ds vs
 |[],[],_,_=>trivial
 | .lit v::ds,u::vs,hl,h=>by
  refine⟨?_,aRy (by simpa[dY] using hl) h.2⟩;have h1:=h.1;cases h1 with
  |lit _ hv=>exact .lit _ hv
 | .sl _ _::_,_::_,hl,_=>by simp[dY] at hl
 | .sn _ _::_,_::_,hl,_=>by simp[dY] at hl
 | .mp _ _::_,_::_,hl,_=>by simp[dY] at hl
 | .pt _::_,_::_,hl,_=>by simp[dY] at hl
 | .fc .. ::_,_::_,hl,_=>by simp[dY] at hl
 | .hv .. ::_,_::_,hl,_=>by simp[dY] at hl
 |[],_::_,_,h=>h.elim
 |_::_,[],_,h=>h.elim
theorem VR.litMove{w w':World}{X X':aR}{r:AV}{v:Value}(hl:aKn r=true)(h:VR w X r v):VR w' X' r v:=by
 have one:∀(x:AV) (u:Value),(match x with| .d (.lit _)=>true| .agg ds=>dY ds|_=>false)=true->VR w X x u->VR w' X' x u:=by
  intro x u hx h;cases h with
  | @d y u h=>
   cases y with
   |lit v=>cases h with|lit _ hv=>exact .d (DR.lit _ hv)
   |_=>simp at hx
  |agg h=>exact .agg (aRy hx h)
  |_=>simp at hx
 cases r with
 | tup vs=>
  cases h with
  | tup hlen h=>
   refine .tup hlen λi hi=>one _ _ ?_ (h i hi);simp only[aKn,k6] at hl;have:=hl vs[i] (j9 hi)
   simpa[List.getD,hi] using this
 |d x=>exact one _ _ (by cases x<;>simp_all[aKn]) h
 |agg ds=>exact one _ _ hl h
 |_=>simp[aKn] at hl
theorem cHo[Mode]{c:Callee}{l:List Operand}{f:FuncId}{args args':List AV}{Qc:AV->List MO->Prop}{ts:Array TypeId}{ty:TypeId}{pos:String}{af:Array Edge}{gd:Option (Nat×Bool)}(hd:d<n)
  {a0:List AV}(hc:lH P st c l f a0)(ha:a0=args)(hok:fU l=true)(hb:BVs st.objs args args')(hf:aX P f args' [] Qc)(hr:∀r o,Qc r o->aKn r=true):
  Step P n ⟨some d,.call {callee:=c,args:=l.toArray,argTypes:=ts},ty,pos,af,gd⟩ st (λs=>∃r o,Qc r o/\s=st.set d r):=by
 replace ha:=ha.symm;subst ha
 intro A M w0 a w hR K Q hK;obtain⟨vs,hrun,hvs⟩:=aCy (d:=d) (ts:=ts) (ty:=ty) (pos:=pos) (af:=af) (gd:=gd) hR hc hok;unfold Oper.wp;rw[hrun,Oper.upon_enter];have hvs':VRs w (aU A []) args' vs:=hb.sound hR.inv.holds (λb o h=>h.imp id λ⟨m,hm,_⟩=>by simp at hm) (λm hm b o hf hx=>by
  rcases hx with hx|⟨m',hm',_⟩
  ·exact hR.inv.apart m hm b o hf hx
  ·simp at hm') hvs
 have hs0:=hR.keeps.size;refine(hf A w vs hR.inv.none (λb o h=>u4 (hR.old b o h) hs0) hvs').mono ?_;rintro e w' ⟨v,r',objs',rfl,hk,hinv,hv,hnew,hq⟩;exact hK _ _ _ ⟨r',objs',hq,rfl⟩ ((hR.called hk).put (o:=⟨some d,.call {callee:=c,args:=l.toArray,argTypes:=ts},ty,pos,af,gd⟩) rfl hd (hv.litMove (hr r' objs' hq)))
def aEo[Mode](m:MO):Prop:=∀(w:World) (X X':aR),m.holds w X->m.holds w X'
theorem bWu[Mode]{v:Value}{e k:Nat}{rows:List (List D)}(h:dY rows.flatten=true):aEo (.arr v e k rows):=by
 rintro w X X' ⟨xs,h1,h2,h3⟩;exact⟨xs,aRy h h1,h2,h3⟩
theorem cCf[Mode]{c:Callee}{l:List Operand}{f:FuncId}{args args':List AV}{Qc:AV->List MO->Prop}{passed rest:List MO}{ts:Array TypeId}{ty:TypeId}{pos:String}{af:Array Edge}{gd:Option (Nat×Bool)}(hd:d<n)
  (ho:st.objs=passed++rest){a0:List AV}(hc:lH P st c l f a0)(ha:a0=args)(hok:fU l=true)(hb:BVs rest args args')(hf:aX P f args' passed Qc)
  (hp:∀m∈passed,aEo m)(hr:∀r o,Qc r o->aKn r=true/\∀m∈o,aEo m):
  Step P n ⟨some d,.call {callee:=c,args:=l.toArray,argTypes:=ts},ty,pos,af,gd⟩ st (λs=>∃r objs',Qc r objs'/\s=⟨upd st.env d r,objs'++rest⟩):=by
 replace ha:=ha.symm;subst ha
 intro A M w0 a w hR K Q hK;obtain⟨vs,hrun,hvs⟩:=aCy (d:=d) (ts:=ts) (ty:=ty) (pos:=pos) (af:=af) (gd:=gd) hR hc hok;unfold Oper.wp;rw[hrun,Oper.upon_enter];have hs0:=hR.keeps.size;have hsep:=hR.inv.sep;rw[ho] at hsep;have hsp:=p9.1 hsep;have hin:∀m∈passed,m∈st.objs:=λm hm=>by rw[ho];exact i6.2 (.inl hm)
 have hir:∀m∈rest,m∈st.objs:=λm hm=>by rw[ho];exact i6.2 (.inr hm)
 have hlt:∀b o,A b o->b<w.heap.size:=λb o h=>u4 (hR.old b o h) hs0;have hinv0:Inv w A passed:=⟨hsp.1,λm hm=>hR.inv.apart m (hin m hm),λm hm=>hp m hm _ _ _ (hR.inv.holds m (hin m hm)),hR.inv.amb.on (Mono.sub λb o h=>h.imp id λ⟨m,hm,hx⟩=>⟨m,hin m hm,hx⟩)⟩;have hvs':VRs w (aU A passed) args' vs:=hb.sound (λm hm=>hR.inv.holds m (hir m hm)) (λb o h=>h.imp id λ⟨m,hm,hx⟩=>⟨m,hin m hm,hx⟩) (λm hm b o hf hx=>by
  rcases hx with hx|⟨m',hm',hf'⟩
  ·exact hR.inv.apart m (hir m hm) b o hf hx
  ·exact hsp.2.2 m' hm' m hm b o hf' hf) hvs
 refine(hf A w vs hinv0 hlt hvs').mono ?_;rintro e w' ⟨v,r,objs',rfl,hk,hinv,hv,hnew,hq⟩;obtain⟨hlit,hpl⟩:=hr r objs' hq;refine hK _ _ _ ⟨r,objs',hq,rfl⟩ ?_;have hdis:∀m∈objs',∀m'∈rest,∀b o,m.foot b o->¬m'.foot b o:=by
  intro m hm m' hm' b o h1 h2
  rcases hnew m hm b o h1 with⟨q,hq',hqf⟩|h
  ·exact hsp.2.2 q hq' m' hm' b o hqf h2
  ·have:=lU (hR.inv.holds m' (hir m' hm')) h2;omega
 have hR2:R A M w0 n ⟨st.env,objs'++rest⟩ a w':=by
  refine hR.change hk (λb o ⟨m,hm,hf⟩=>⟨m,hin m hm,hf⟩) (λb o hb hx=>?_) ?_ λhm m hmm=>?_
  ·rcases kT.1 hx with⟨m,hm,hf⟩|⟨m,hm,hf⟩
   ·rcases hnew m hm b o hf with⟨m',hm',hf'⟩|h
    ·exact⟨m',hin m' hm',hf'⟩
    ·omega
   ·exact⟨m,hir m hm,hf⟩
  ·exact p9.2 ⟨hinv.sep,hsp.2.1,λx hx y hy b o h1 h2=>hdis x hx y hy b o h1 h2⟩
  ·rcases i6.1 hmm with h|h
   ·exact hpl m h _ _ _ (hinv.holds m h)
   ·exact cI (hR.inv.holds m (hir m h)) hk (λb o hf ⟨m',hm',hf'⟩=>hsp.2.2 m' hm' m h b o hf' hf) hm
 exact R.put (o:=⟨some d,.call {callee:=c,args:=l.toArray,argTypes:=ts},ty,pos,af,gd⟩) hR2 rfl hd (hv.litMove hlit)
def zY{α:Type}(enc:α->List D):Option α->AV
 |none=>.d (.lit (.pointer none))
 |some x=>.cp (enc x)
theorem bNk[Mode]{α:Type}{enc:α->List D}{env:Nat->AV}{objs:List MO}{k:Nat}{o:Option α}{a:α}(hk:env k=zY enc o)(h:o=some a):Ent ⟨env,objs⟩ ⟨upd env k (.cp (enc a)),objs⟩:=
 aTk λj=>by
  by_cases hj:k=j
  ·subst hj
   right
   rw[fD,hk,h]
   rfl
  ·rw[lC _ _ hj];exact .inr rfl
end
section
variable{P:Program}{n d:Nat}{st:St}
theorem bAn[Mode]{k:Nat}{rows:List (List D)}{x:Operand}{t u el ty:TypeId}{pos:String}{af:Array Edge}{gd:Option (Nat×Bool)}(hd:d<n)
  (hx:st.eval x=.d (.sl k rows))(hk:cD x=true)(ht:P.underlying t=some (.slice el)):
  Step P n ⟨some d,.binOp .eql t x (.const (.slice none 0 0)) u,ty,pos,af,gd⟩ st (λs=>∃b:Bool,(b=true->rows=[])/\s=st.set d (.b b)):=by
 intro A M w0 a w hR K Q hK;have h:=hR.eval' hk;rw[hx] at h
 generalize hu:a.eval x=v at h
 have key:∀(ad:Option Addr) (m cap:Nat),v=.slice ad m cap->(execOp a.eval ⟨some d,.binOp .eql t x (.const (.slice none 0 0)) u,ty,pos,af,gd⟩).run P w=.ok (.value (.bool ad.isNone)) w:=by
  rintro ad m cap rfl;have hb:=Lib.run_eql_slice_nil (P:=P) w t el ad m cap 0 0 ht;have hg:eqGuard .eql t x (.const (.slice none 0 0)) (.slice ad m cap) (.slice none 0 0)=pure ():=rfl;have hc:a.eval (.const (.slice none 0 0))=.slice none 0 0:=rfl;simp only[execOp,hu,hc,Sem.run_bind,Sem.run_pure,hg,hb,Result.andThen_ok]
 have fin:∀(b:Bool),(b=true->rows=[])->(execOp a.eval ⟨some d,.binOp .eql t x (.const (.slice none 0 0)) u,ty,pos,af,gd⟩).run P w=.ok (.value (.bool b)) w->Oper.wp P ⟨some d,.binOp .eql t x (.const (.slice none 0 0)) u,ty,pos,af,gd⟩ a w K Q:=by
  intro b hb hrun;unfold Oper.wp;rw[hrun,Oper.upon_value];exact hK _ _ _ ⟨b,hb,rfl⟩ (hR.put (o:=⟨some d,.binOp .eql t x (.const (.slice none 0 0)) u,ty,pos,af,gd⟩) rfl hd (.d (.lit _ rfl)))
 cases h with
 | d h=>
  generalize hd':D.sl k rows=dd at h
  cases h with
  |nil=>exact fin true (λ_=>by cases hd';rfl) (key none 0 0 rfl)
  |e0 _ ad=>exact fin false (λh=>by cases h) (key (some ad) 0 0 rfl)
  |sl _ _ b o cap f'=>exact fin false (λh=>by cases h) (key _ _ _ rfl)
  |_=>cases hd'
theorem bSg[Mode]{c:Callee}{l:List Operand}{f:FuncId}{args:List AV}{e k:Nat}{rows:List (List D)}{ts:Array TypeId}{ty:TypeId}{pos:String}{af:Array Edge}{gd:Option (Nat×Bool)}(hd:d<n)
  {a0:List AV}(hc:lH P st c l f a0)(ha:a0=args)(hok:fU l=true)(hf:aX P f args [] (λr' o'=>∃w,r'=.d (.lit w)/\o'=[.arr w e k rows])):
  Step P n ⟨some d,.call {callee:=c,args:=l.toArray,argTypes:=ts},ty,pos,af,gd⟩ st (λs=>∃w,s=(st.setadd d (.d (.lit w)) (.arr w e k rows))):=by
 intro A M w0 a w hR K Q hK;refine aIh hd hc ha hok hf A M w0 a w hR K Q ?_;rintro s a' w' ⟨_,_,⟨v,rfl,rfl⟩,hs⟩ hR';exact hK s a' w' ⟨v,hs⟩ hR'
end
theorem aOr{α β:Type}{f:α->β}{l:List α}(h:l.map f=[]):l=[]:=List.map_eq_nil_iff.1 h
theorem aHg[Mode]{P:Program}{f:FuncId}{args:List AV}{objs:List MO}{Q Q':AV->List MO->Prop}(h:aX P f args objs Q)(hq:∀r o,Q r o->Q' r o):aX P f args objs Q':=
 λA w vs h1 h2 h3=>(h A w vs h1 h2 h3).mono λ_ _ ⟨v,r,o,a,b,c,d,e,k⟩=>⟨v,r,o,a,b,c,d,e,hq r o k⟩
theorem aIx[Mode]{P:Program}{f:FuncId}{args:List AV}{α:Type}{enc:α->AV}{r:α}(h:aX P f args [] (λr' o'=>∃x,x=r/\r'=enc x/\o'=[])):Fn P f args (enc r):=
 aHg h λ_ _ ⟨_,hx,h1,h2⟩=>⟨by rw[h1,hx],h2⟩
end Go.Am
end
section
namespace Go.Am
variable{P:Program}{n d:Nat}{st:St}
theorem bMq[Mode]{x:Operand}{s f:Nat}{fs:Array Field}{fd:Field}{ds:List D}{d0:D}{ty:TypeId}{pos:String}{af:Array Edge}{gd:Option (Nat×Bool)}(hd:d<n)
  (hx:st.eval x=.agg ds)(hs:∀w,(underlying s).run P w=.ok (.struct fs) w)(hf:fs[f]?=some fd)(h1:fN P fd.type)(hj:ds[fd.offset]?=some d0):
  aQ P n ⟨some d,.field s x f,ty,pos,af,gd⟩ st (st.set d (.d d0)):=
 cG rfl hd λA M w0 a w hR=>by
  have hk:cD x=true:=by cases x with|const u=>cases hx|_=>rfl
  have h:=hR.eval' hk;rw[hx] at h
  generalize hu:a.eval x=u at h
  cases h with
  | agg h=>
   rename_i cs
   obtain⟨v,hv,hdv⟩:=h.get hj;refine⟨v,?_,.d hdv⟩;have hv':cs[fd.offset]?=some v:=by simpa using hv
   simp[execOp,hu,Instr.field,hs,hf,part,h1.1,asAgg,hv']
end Go.Am
end
end
end
section
namespace Go.Am
structure OB(b:Bool)(K:Bool->Prop):Prop where
 h:K b
theorem bCo{b:Bool}{K:Bool->Prop}(h:OB b K):K b:=h.h
theorem ob2{b:Bool}{K:Bool->Prop}(ht:b=true->K true)(hf:b=false->K false):OB b K:=by
 cases b with
 |true=>exact⟨ht rfl⟩
 |false=>exact⟨hf rfl⟩
def aOc(x:D)(K:D->Prop):Prop:=match x with
 | .lit v=>K (.lit v)| .sl k r=>K (.sl k r)| .sn k r=>K (.sn k r)| .mp a e=>K (.mp a e)| .pt xs=>K (.pt xs)| .hv q h j=>K (.hv q h j)| .fc m f xs=>K (.fc m f xs)
def frc(v:AV)(K:AV->Prop):Prop:=match v with
 | .any=>K .any| .d x=>aOc x λx=>K (.d x)| .agg xs=>K (.agg xs)| .cp xs=>K (.cp xs)| .bp b o j=>K (.bp b o j)| .ep v k i c=>K (.ep v k i c)
 | .tup vs=>K (.tup vs)| .fn f c=>K (.fn f c)| .mf f c=>K (.mf f c)| .fl n k r=>K (.fl n k r)
def bIe:List D->(List D->Prop)->Prop
 |[],K=>K []
 |x::l,K=>aOc x λx=>bIe l λl=>K (x::l)
theorem aYv{x:D}{K:D->Prop}(h:aOc x K):K x:=by cases x<;>exact h
theorem zW{x:AV}{K:AV->Prop}(h:frc x K):K x:=by
 cases x with
 |d x=>exact aYv (K:=λx=>K (.d x)) h
 |_=>exact h
theorem bIf:∀{l:List D} {K:List D->Prop},bIe l K->K l
 |[],_,h=>h
 |x::_,K,h=>bIf (K:=λl=>K (x::l)) (aYv (K:=λx=>bIe _ λl=>K (x::l)) h)
def tdK:Nat->Nat->List D->(List D->Prop)->Prop
 |0,_,_,K=>K []
 |_+1,_,[],_=>False
 |m+1,0,x::l,K=>aOc x λx=>tdK m 0 l λes=>K (x::es)
 |m+1,j+1,_::l,K=>tdK (m+1) j l K
theorem aAd:∀{m j:Nat} {ds:List D} {K:List D->Prop},tdK m j ds K->((ds.drop j).take m).length=m/\K ((ds.drop j).take m)
 |0,_,_,_,h=>⟨by simp,by simpa[tdK] using h⟩
 |_+1,_,[],_,h=>by simp[tdK] at h
 | m+1,0,x::l,K,h=>by
  simp only[tdK] at h;have:=aAd (K:=λes=>K (x::es)) (aYv (K:=λx=>tdK m 0 l λes=>K (x::es)) h)
  simpa using this
 | m+1,j+1,x::l,K,h=>by
  simp only[tdK] at h
  simpa using aAd h
def ptK:Nat->List D->List D->(List D->Prop)->Prop
 |_,[],ds,K=>K ds
 |_,_::_,[],_=>False
 |0,e::es,_::ds,K=>aOc e λe=>ptK 0 es ds λr=>K (e::r)
 |j+1,e::es,x::ds,K=>ptK j (e::es) ds λr=>K (x::r)
theorem bRz:∀{j:Nat} {es ds:List D} {K:List D->Prop},j<=ds.length->ptK j es ds K->j+es.length<=ds.length/\K (dO ds j es)
 | j,[],ds,K,hj,h=>by
  simp only[ptK] at h;refine⟨by simpa using hj,?_⟩
  simpa[dO] using h
 |_,_::_,[],_,_,h=>by simp[ptK] at h
 | 0,e::es,x::ds,K,_,h=>by
  simp only[ptK] at h;have:=bRz (j:=0) (K:=λr=>K (e::r)) (by omega) (aYv (K:=λe=>ptK 0 es ds λr=>K (e::r)) h);refine⟨by simp at this|-;omega,?_⟩;have h2:=this.2
  simp[dO] at h2|-
  exact h2
 | j+1,e::es,x::ds,K,hj,h=>by
  simp only[ptK] at h;have:=bRz (j:=j) (K:=λr=>K (x::r)) (by simp at hj;omega) h;refine⟨by simp at this|-;omega,?_⟩;have h2:=this.2;simp only[dO,aD8,aA4] at h2|-;rw[show j+1+(e::es).length=(j+(e::es).length)+1 by omega,aG6];exact h2
theorem tX{k k':IntKind}(h:Nat.beq k.ctorIdx k'.ctorIdx=true):k=k':=by
 have:=f7 h;cases k<;>cases k'<;>first|rfl|simp[IntKind.ctorIdx] at this
section
variable{P:Program}(T:TT P)(n:Nat)(ow:List Nat)(S:VS)(o:Oper)(d:Nat)
def zJ(x:Operand)(K:Eff->Prop):Prop:=bif cD x then frc (S.ev x) λv=>K (.p v) else False
def bHt(t:Nat)(K:Nat->Nat->Nat->Prop):Prop:=match T.ty.get t with
 | some (_,.slice e)=>match T.ty.get e with
  |some (j,_)=>K e j.size j.bytes
  |none=>False
 |_=>False
def bGe(x:Operand)(K:Eff->Prop):Prop:=match x with
 | .const (.slice none 0 0)=>bHt T o.type λe k _=>bif aY d ow then(bif lV d S then K ⟨.d (.hv 0 (Nat.add 70000 d) 0),[(Nat.add 70000 d,some (.arr e k []))],[],[Nat.add 70000 d]⟩ else K ⟨.d (.hv 0 d 0),[(d,some (.arr e k []))],[],[d]⟩) else K (.p (.d (.sl k [])))
 |x=>zJ S x K
def aPz(c x y:Operand)(K:Eff->Prop):Prop:=match S.ev c with
 | .d (.lit (.bool b))=>OB b λb=>match b with|true=>zJ S x K|false=>zJ S y K
 |_=>False
def cDe[Mode](op:BinOp)(k k':IntKind)(p q:Int)(K:Eff->Prop):Prop:=match op with
 | .add=>bif Nat.beq k.ctorIdx k'.ctorIdx then K (.p (.d (.lit (.int k (k.wrap (p+q)))))) else False
 | .sub=>bif Nat.beq k.ctorIdx k'.ctorIdx then K (.p (.d (.lit (.int k (k.wrap (p-q)))))) else False
 | .mul=>bif Nat.beq k.ctorIdx k'.ctorIdx then K (.p (.d (.lit (.int k (k.wrap (p*q)))))) else False
 | .lss=>bif Nat.beq k.ctorIdx k'.ctorIdx then K (.p (.b (decide (p<q)))) else False
 | .leq=>bif Nat.beq k.ctorIdx k'.ctorIdx then K (.p (.b (decide (p<=q)))) else False
 | .gtr=>bif Nat.beq k.ctorIdx k'.ctorIdx then K (.p (.b (decide (q<p)))) else False
 | .geq=>bif Nat.beq k.ctorIdx k'.ctorIdx then K (.p (.b (decide (q<=p)))) else False
 | .eql=>bif Nat.beq k.ctorIdx k'.ctorIdx then K (.p (.b (decide (p=q)))) else False
 | .neq=>bif Nat.beq k.ctorIdx k'.ctorIdx then K (.p (.b (!decide (p=q)))) else False
 | .quo=>bif Nat.beq k.ctorIdx k'.ctorIdx then q≠0/\K (.p (.d (.lit (.int k (k.wrap (p.tdiv q)))))) else False
 | .rem=>bif Nat.beq k.ctorIdx k'.ctorIdx then q≠0/\K (.p (.d (.lit (.int k (p.tmod q))))) else False
 | .shl=>0<=q/\K (.p (.d (.lit (.int k (k.wrap (p*2^(min q.toNat k.bits)))))))
 | .shr=>0<=q/\K (.p (.d (.lit (.int k (p.fdiv (2^(min q.toNat k.bits)))))))
 |_=>bY P n o S K
def cCz[Mode](op:BinOp)(t:Nat)(x y:Operand)(K:Eff->Prop):Prop:=match S.ev x,S.ev y with
 | .d (.lit (.int k p)),.d (.lit (.int k' q))=>cDe (P:=P) n S o op k k' p q K
 |_,_=>bY P n o S K
def xun[Mode](op:UnOp)(x:Operand)(K:Eff->Prop):Prop:=match op,S.ev x with
 | .not,.d (.lit (.bool b))=>K (.p (.b (!b)))
 | .neg,.d (.lit (.int k p))=>K (.p (.d (.lit (.int k (k.wrap (-p))))))
 |_,_=>bY P n o S K
def aWp:List Field->Nat->Option Field
 |[],_=>none
 |f::_,0=>some f
 |_::l,i+1=>aWp l i
theorem bCn:∀{l:List Field} {i:Nat},aWp l i=l[i]?
 |[],_=>by simp[aWp]
 |_::_,0=>by simp[aWp]
 |_::l,i+1=>by simp[aWp,bCn (l:=l)]
def cDc(t:Nat)(x:Operand)(f:Nat)(K:Eff->Prop):Prop:=match T.ty.get t with
 | some (_,.struct fs)=>match aWp fs.toList f with
  | some fd=>match T.ty.get fd.type with
   | some (j,_)=>bif Nat.ble 1 j.size then(match S.ev x with
     | .bp h _ i=>K (.p (.bp h 0 (Nat.add i fd.offset)))
     | .cp ds=>tdK j.size fd.offset ds λes=>K (.p (.cp es))
     | .ep (.map (some q)) k i c=>K (.p (.ep (.map (some q)) k i (Nat.add c fd.offset)))
     |_=>False) else False
   |none=>False
  |none=>False
 |_=>False
def cDh[Mode](x:Operand)(K:Eff->Prop):Prop:=match S.ev x with
 | .cp ds=>K (.p (.cp ds))
 | .bp h _ j=>K (.p (.bp h 0 j))
 |_=>bY P n o S K
def one1(es:List D)(K:D->Prop):Prop:=match es with
 |[x]=>K x
 |_=>False
def ldA:D->AV
 | .pt xs=>.cp xs
 | .hv q h j=>match q with
  |2=>.bp h 0 j
  |_=>.d (.hv q h j)
 |x=>.d x
def ldK(x:D)(K:AV->Prop):Prop:=match x with
 | .pt xs=>K (.cp xs)
 | .hv q h j=>match q with
  |2=>K (.bp h 0 j)
  |_=>K (.d (.hv q h j))
 |x=>K (.d x)
theorem cEa{x:D}{K:AV->Prop}(h:ldK x K):K (ldA x):=by
 cases x with
 | hv q g j=>
  match q,h with
  |0,h=>exact h
  |1,h=>exact h
  |2,h=>exact h
  |q+3,h=>exact h
 |_=>exact h
def cJn:AV->Option (List D)
 | .bp h _ j=>some [.hv 2 h j]
 | .cp xs=>some [.pt xs]
 |v=>v.cells
def bTa[Mode](t:Nat)(x:Operand)(K:Eff->Prop):Prop:=match T.ty.get t with
 | some (i,td)=>match S.ev x with
  | .cp ds=>bif aEa td then tdK i.size 0 ds λes=>K (.p (.agg es)) else bif Nat.beq i.size 1 then tdK 1 0 ds λes=>one1 es λx=>ldK x λv=>K (.p v) else False
  | .bp h _ j=>match ob S.objs h with
   |some (.box ds)=>bif aEa td then tdK i.size j ds λes=>K (.r (.agg es) [h]) else bif Nat.beq i.size 1 then tdK 1 j ds λes=>one1 es λx=>ldK x λv=>K (.r v [h]) else False
   |_=>bY P n o S K
  | .ep (.map (some h)) kk r c=>match ob S.objs h with
   |some (.arr _ k rows)=>Nat.beq kk k=true/\∃ds,rows[r]?=some ds/\(bif aEa td then tdK i.size c ds λes=>K (.r (.agg es) [h]) else bif Nat.beq i.size 1 then tdK 1 c ds λes=>one1 es λx=>K (.r (.d x) [h]) else False)
   |_=>bY P n o S K
  |_=>bY P n o S K
 |none=>False
def hvD:D->Bool
 | .hv .. =>true
 |_=>false
def bRi(y:Operand)(l es:List D):List D:=match y with
 | .const (.slice none 0 0)=>(match l with
  | .sl k _::_=>[.sl k []]
  |_=>es)
 |_=>es
def bLg[Mode](t:Nat)(x y:Operand)(K:Eff->Prop):Prop:=match T.ty.get t with
 | some (i,_)=>bif cD y then(match(S.ev y).cells with
  | some es=>bif Nat.beq es.length i.size&&Nat.ble 1 i.size then(match S.ev x with
   | .bp h _ j=>match ob S.objs h with
    |some (.box ds)=>bif Nat.ble j ds.length then ptK j (bRi y (ds.drop j) es) ds λds'=>K ⟨.any,[(h,some (.box ds'))],[h],[]⟩ else False
    |_=>bY P n o S K
   | .ep (.map (some h)) kk r c=>match ob S.objs h with
    |some (.arr e k rows)=>bif es.any hvD then False else Nat.beq kk k=true/\∃ds rows',rows[r]?=some ds/\c+es.length<=ds.length/\rows.set r (dO ds c es)=rows'/\K ⟨.any,[(h,some (.arr e k rows'))],[h],[]⟩
    |_=>bY P n o S K
   |_=>bY P n o S K) else False
  |none=>False) else False
 |none=>False
def cKe(g:Nat->Nat->Option Nat):List Field->Nat->Option Nat
 |[],_=>none
 | f::l,j=>match T.ty.get f.type with
  |some (i,_)=>bif Nat.ble f.offset j&&Nat.ble (Nat.succ j) (Nat.add f.offset i.size) then g f.type (Nat.sub j f.offset) else cKe g l j
  |none=>none
def cDs:Nat->Nat->Nat->Option Nat
 |0,_,_=>none
 | m+1,t,j=>match T.ty.get t with
  |some (_,.slice e)=>some e
  |some (_,.struct fs)=>cKe T (cDs m) fs.toList j
  |_=>none
def bHs(t j:Nat):Option Nat:=cDs T 5 t j
def bCr(f:Nat->Option Nat):Nat->List D->List (Nat×Nat×Nat)
 |_,[]=>[]
 | j,x::l=>bif aY (100000*(j+1)+d) ow then(match x,f j with
  | .sl k [],some e=>(j,k,e)::bCr f (j+1) l
  |_,_=>bCr f (j+1) l) else bCr f (j+1) l
def aSp:Nat->List D->List D
 |_,[]=>[]
 | j,x::l=>(bif aY (100000*(j+1)+d) ow then(match x with
  | .sl _ []=>.lit (.slice none 0 0)
  |x=>x) else x)::aSp (j+1) l
def bQx:Option D->Bool
 |some (.lit (.slice none 0 0))=>true
 |_=>false
def bRq:List (Nat×Nat×Nat)->List D->List (Nat×Option VO)->List Nat->(Eff->Prop)->Prop
 |[],zs,ch,nw,K=>K ⟨.bp d 0 0,ch++[(d,some (.box zs))],[],nw⟩
 | (j,k,e)::c,zs,ch,nw,K=>bif bQx zs[j]?&&!(aCo (1000*(j+1)+d) ⟨.bp d 0 0,ch++[(d,some (.box zs))],[],nw⟩) then
   bRq c (zs.set j (.hv 0 (1000*(j+1)+d) 0)) (ch++[(1000*(j+1)+d,some (.arr e k []))]) ((1000*(j+1)+d)::nw) K else False
def bLd(t:Nat)(K:Eff->Prop):Prop:=match T.zr t with
 | some zs=>bif aY (d+30000) ow then(bif (aSp ow d 0 zs).any (aAm d) then False else bRq d (bCr ow d (bHs T t) 0 zs) (aSp ow d 0 zs) [] [d] K)
  else bif lV d S then(bif zs.any (aAm (Nat.add 70000 d)) then False else K ⟨.bp (Nat.add 70000 d) 0 0,[(Nat.add 70000 d,some (.box zs))],[],[Nat.add 70000 d]⟩) else bif zs.any (aAm d) then False else K ⟨.bp d 0 0,[(d,some (.box zs))],[],[d]⟩
 |none=>False
def cDa(x:Operand)(K:Eff->Prop):Prop:=bif cD x then(match cJn (S.ev x) with
 |some ds=>bIe ds λds=>bif ds.any (aAm d) then False else K ⟨.bp d 0 0,[(d,some (.box ds))],[],[d]⟩
 |none=>False) else False
def bCm:List AV->Nat->Option AV
 |[],_=>none
 |f::_,0=>some f
 |_::l,i+1=>bCm l i
theorem bNy:∀{l:List AV} {i:Nat},bCm l i=l[i]?
 |[],_=>by simp[bCm]
 |_::_,0=>by simp[bCm]
 |_::l,i+1=>by simp[bCm,bNy (l:=l)]
def wO:AV->Bool
 | .tup _=>false
 | .fn _ _=>false
 | .mf _ _=>false
 |_=>true
def aQx:List AV->Bool
 |[]=>true
 |v::l=>wO v&&aQx l
def bSz[Mode](x:Operand)(i:Nat)(K:Eff->Prop):Prop:=match S.ev x with
 | .tup vs=>match bCm vs i with
  |some v=>bif wO v then frc v λv=>K (.p v) else False
  |none=>False
 |_=>bY P n o S K
def bJm:List Field->Option (List (Nat×Nat))
 |[]=>some []
 | f::l=>match T.ty.get f.type,bJm l with
  |some (j,_),some r=>some ((f.offset,j.size)::r)
  |_,_=>none
def bJi:List (Nat×Nat×Nat)->List D->List (Nat×Option VO)->List Nat->(Eff->Prop)->Prop
 |[],xs,ch,nw,K=>K ⟨.agg xs,ch,[],nw⟩
 | (j,k,e)::c,xs,ch,nw,K=>bif bQx xs[j]?&&!(aCo (1000*(j+1)+d) ⟨.agg xs,ch,[],nw⟩) then
   bJi c (xs.set j (.hv 0 (1000*(j+1)+d) 0)) (ch++[(1000*(j+1)+d,some (.arr e k []))]) ((1000*(j+1)+d)::nw) K else False
def bLe[Mode](t:Nat)(l:List (Nat×Operand))(K:Eff->Prop):Prop:=match T.ty.get t,T.zr t with
 | some (_,.struct fs),some zs=>match bJm T fs.toList with
  | some pl=>bif wC l then(match zV (λi=>pl[i]?) (bif aY (d+30000) ow then aSp ow d 0 zs else zs) (St.parts ⟨λk=>lk S.env k,[]⟩ l) with
   |some es=>bIe es λes=>bif aY (d+30000) ow then bJi d (bCr ow d (bHs T t) 0 zs) es [] [] K else K (.p (.agg es))
   |none=>bY P n o S K) else False
  |none=>False
 |_,_=>bY P n o S K
def aQz(k:Nat):List (List D)->Bool
 |[]=>true
 |r::l=>Nat.beq r.length k&&(!(r.any hvD)&&aQz k l)
def cDg(t len:Nat)(l:List (Nat×Operand))(K:Eff->Prop):Prop:=match T.ty.get t with
 | some (_,.slice e)=>match T.ty.get e with
  | some (j,_)=>bif Nat.ble 1 j.size&&(wC l&&Nat.ble (len*j.size) 16777216) then(match rE 0 (St.parts ⟨λk=>lk S.env k,[]⟩ l) with
    |some rows=>bif aQz j.size rows&&Nat.beq rows.length len then(bif aY d ow then K ⟨.d (.hv 0 d 0),[(d,some (.arr e j.size rows))],[],[d]⟩ else bif aY (d+10000) ow then K (.p (.fl true j.size rows)) else K (.p (.d (.sl j.size rows)))) else False
    |none=>False) else False
  |none=>False
 |_=>False
structure bGm(rows:List (List D))(p:Int)(K:List D->Prop):Prop where
 h:∃ds,idx rows p=some ds/\K ds
structure bBg(rows:List (List D))(K:Int->Prop):Prop where
 h:∃m:Int,(rows.length:Int)=m/\K m
structure bPg(k bytes:Nat)(rows rows2:List (List D))(K:List (List D)->Prop):Prop where
 h:∃zs,app bytes rows rows2=some zs/\(∀r∈rows2,r.length=k)/\K zs
structure bBh(rows:List (List D))(lo hi:Int)(K:List (List D)->Prop):Prop where
 h:∃es,sub rows lo hi=some es/\K es
structure OMk(bytes:Nat)(zs:List D)(m m':Int)(K:List (List D)->Prop):Prop where
 h:m=m'/\∃rows,mk bytes m zs=some rows/\K rows
def bTb(t:Nat)(x y:Operand)(K:Eff->Prop):Prop:=match T.ty.get t with
 | some (_,.slice e)=>match T.ty.get e,T.zr e with
  | some (j,_),some zs=>bif Nat.ble 1 j.size&&Nat.ble 1 j.bytes then(match S.ev x,S.ev y with
   | .d (.lit (.int _ m)),.d (.lit (.int _ m'))=>OMk j.bytes zs m m' λrows=>K ⟨.d (.hv 0 d 0),[(d,some (.arr e j.size rows))],[],[d]⟩
   |_,_=>False) else False
  |_,_=>False
 |_=>False
def aEv(t:Nat)(K:Nat->Nat->Prop):Prop:=match T.ty.get t with
 | some (_,.slice e)=>match T.ty.get e with
  |some (j,_)=>K e j.size
  |none=>False
 |_=>False
def cDd[Mode](t:Nat)(x y:Operand)(K:Eff->Prop):Prop:=match S.ev x,S.ev y with
 | .d (.sl k rows),.d (.lit (.int _ p))=>aEv T t λ_ k'=>bif Nat.beq k k' then bGm rows p λds=>K (.p (.cp ds)) else False
 | .d (.hv 0 h _),.d (.lit (.int _ p))=>match ob S.objs h with
  |some (.arr _ k rows)=>aEv T t λ_ k'=>bif Nat.beq k k' then bGm rows p λ_=>K (.r (.ep (.map (some h)) k p.toNat 0) [h]) else False
  |_=>bY P n o S K
 |_,_=>bY P n o S K
def cDf[Mode](x:Operand)(t:Nat)(K:Eff->Prop):Prop:=match S.ev x with
 | .d (.sl _ rows)=>aEv T t λ_ _=>bBg rows λm=>K (.p (.i m))
 | .d (.hv 0 h _)=>match ob S.objs h with
  |some (.arr _ _ rows)=>aEv T t λ_ _=>bBg rows λm=>K (.r (.i m) [h])
  |_=>bY P n o S K
 |_=>bY P n o S K
def bDf[Mode](x y:Operand)(t:Nat)(K:Eff->Prop):Prop:=match S.ev x,S.ev y with
 | .d (.hv 0 h _),.d (.sl k rows2)=>match ob S.objs h with
  | some (.arr e k' rows)=>match T.ty.get t with
   | some (_,.slice e2)=>match T.ty.get e2 with
    |some (j,_)=>bif Nat.ble 1 j.size&&(Nat.ble 1 j.bytes&&(Nat.beq k j.size&&(Nat.beq k' k&&Nat.beq e e2))) then bPg k j.bytes rows rows2 λzs=>bif aY (d+20000) ow then K ⟨.d (.sl k zs),[(h,none)],[h],[]⟩ else K ⟨.d (.hv 0 d 0),[(h,none),(d,some (.arr e k zs))],[h],[d]⟩ else False
    |none=>False
   |_=>False
  |_=>bY P n o S K
 | .fl _ k' rows,.d (.sl k rows2)=>match T.ty.get t with
  | some (_,.slice e)=>match T.ty.get e with
   |some (j,_)=>bif Nat.ble 1 j.size&&(Nat.ble 1 j.bytes&&(Nat.beq k j.size&&(Nat.beq k' k&&aQz k rows))) then bPg k j.bytes rows rows2 λzs=>K (.p (.d (.sl k zs))) else False
   |none=>False
  |_=>False
 |_,_=>bY P n o S K
def bLf[Mode](t:Nat)(x:Operand)(lo hi:Option Operand)(K:Eff->Prop):Prop:=match S.ev x with
 | .d (.sl k rows)=>aEv T t λ_ k'=>bif Nat.beq k k' then(match lo,hi with
  |none,none=>bBg rows λm=>bBh rows 0 m λes=>K (.p (.d (.sl k es)))
  | some a,none=>match S.ev a with
   | .d (.lit (.int _ p))=>bBg rows λm=>bBh rows p m λes=>K (.p (.d (.sl k es)))
   |_=>False
  | none,some b=>match S.ev b with
   | .d (.lit (.int _ q))=>bBh rows 0 q λes=>K (.p (.d (.sl k es)))
   |_=>False
  | some a,some b=>match S.ev a,S.ev b with
   | .d (.lit (.int _ p)),.d (.lit (.int _ q))=>bBh rows p q λes=>K (.p (.d (.sl k es)))
   |_,_=>False) else False
 |_=>bY P n o S K
def evL:List Operand->(List AV->Prop)->Prop
 |[],K=>K []
 |x::l,K=>frc (S.ev x) λv=>evL l λvs=>K (v::vs)
def xfn[Mode](f:Go.Fn)(first caps:List Operand)(K:Eff->Prop):Prop:=match f,first with
 | .func f,[]=>bif fU caps then evL S caps λvs=>bif aQx vs then K (.p (.fn f vs)) else bY P n o S K else False
 |_,_=>bY P n o S K
def bSy[Mode](t u:Nat)(x:Operand)(K:Eff->Prop):Prop:=match T.ty.get t,T.ty.get u,S.ev x with
 |some _,some (_,.int k'),.d (.lit (.int _ p))=>K (.p (.d (.lit (.int k' (k'.wrap p)))))
 |_,_,_=>bY P n o S K
def bYe[Mode](b:Builtin)(args:List Operand)(ts:List TypeId)(K:Eff->Prop):Prop:=match b,args,ts with
 | .len,[x],[t]=>cDf T n S o x t K
 | .append,[x,y],[t,u]=>bif Nat.beq t u then bDf T n ow S o d x y t K else bY P n o S K
 |_,_,_=>bY P n o S K
def xfv[Mode](t:Nat)(x:Operand)(f:Nat)(K:Eff->Prop):Prop:=match T.ty.get t with
 | some (_,.struct fs)=>match aWp fs.toList f with
  | some fd=>match T.ty.get fd.type,S.ev x with
   |some (j,td),.agg ds=>bif !(aEa td)&&Nat.beq j.size 1 then tdK 1 fd.offset ds λes=>one1 es λx=>K (.p (.d x)) else bY P n o S K
   |_,_=>bY P n o S K
  |none=>False
 |_=>False
def cMm[Mode](op:Op)(K:Eff->Prop):Prop:=match op with
 | .move x=>bGe T ow S o d x K
 | .assign x=>bGe T ow S o d x K
 | .pick c x y=>aPz S c x y K
 | .binOp op t x y _=>cCz (P:=P) n S o op t x y K
 | .unOp op _ x=>xun (P:=P) n S o op x K
 | .fieldAddr t x f=>cDc T S t x f K
 | .nilCheck x=>cDh (P:=P) n S o x K
 | .field t x f=>xfv T n S o t x f K
 | .load t x=>bTa T n S o t x K
 | .alloc t=>bLd T ow S d t K
 | .box _ x=>cDa S d x K
 | .extract x i=>bSz (P:=P) n S o x i K
 | .build t l=>bLe T n ow S o d t l.toList K
 | .buildSlice t len l=>cDg T ow S d t len l.toList K
 | .indexAddr t x y=>cDd T n S o t x y K
 | .slice t x lo hi none=>bLf T n S o t x lo hi K
 | .makeFunc f first caps=>xfn (P:=P) n S o f first.toList caps.toList K
 | .convert t u x=>bSy T n S o t u x K
 | .makeSlice t x y=>bTb T S d t x y K
 | .call c=>match c.callee with
  | .builtin b=>bYe T n ow S o d b c.args.toList c.argTypes.toList K
  |_=>bY P n o S K
 |_=>bY P n o S K
def xop[Mode](K:Eff->Prop):Prop:=match o.dst with
 |some d=>cMm T n ow S o d o.op K
 | none=>match o.op with
  | .store t x y=>bLg T n S o t x y K
  |_=>bY P n o S K
end
end Go.Am
end
