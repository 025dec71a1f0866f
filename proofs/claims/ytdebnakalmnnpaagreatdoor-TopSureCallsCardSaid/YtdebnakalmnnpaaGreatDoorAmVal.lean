/- Several texts, one behind the other. -/
import Derived.Test.YtdebnakalmnnpaaGreatDoorAmClose
import Derived.KernelRfl
import Derived.Maps.RangeRun
import Derived.Test.YtdebnakalmnnpaaGreatDoorAmGen
section
section
section
namespace Go.Am
theorem bDm{objs objs':List MO}(hf:objs'.map MO.foot=objs.map MO.foot){b o:Nat}(h:fJ objs' b o):fJ objs b o:=by
 obtain⟨m,hm,h⟩:=h;have:m.foot∈objs.map MO.foot:=hf▸List.mem_map.2 ⟨m,hm,rfl⟩;obtain⟨m',hm',e⟩:=List.mem_map.1 this;exact⟨m',hm',e▸h⟩
theorem aSc{A:aS}{objs objs':List MO}(hf:objs'.map MO.foot=objs.map MO.foot):aT A objs'=aT A objs:=by
 funext b o
 exact propext ⟨λh=>h.imp id (bDm hf),λh=>h.imp id (bDm hf.symm)⟩
theorem bXw{objs objs':List MO}(hf:objs'.map MO.foot=objs.map MO.foot)(h:Sep objs):Sep objs':=by
 have e:∀l:List MO,Sep l↔(l.map MO.foot).Pairwise λf g=>∀b o,f b o->¬g b o:=λl=>by simp only[Sep,List.pairwise_map]
 rw[e,hf,<-e];exact h
theorem bIe{objs objs':List MO}(hf:objs'.map MO.foot=objs.map MO.foot){m:MO}(hm:m∈objs'):∃m'∈objs,m'.foot=m.foot:=
 List.mem_map.1 (show m.foot∈objs.map MO.foot from hf▸List.mem_map.2 ⟨m,hm,rfl⟩)
theorem Inv.exch[Mode]{w:World}{A:aS}{objs objs':List MO}(hf:objs'.map MO.foot=objs.map MO.foot)(h:Inv w A objs)(hh:∀m∈objs',m.holds w (aT A objs)):Inv w A objs':=by
 refine⟨bXw hf h.sep,λm hm b o hb=>?_,λm hm=>?_,?_⟩
 ·obtain⟨m',h1,h2⟩:=bIe hf hm;exact h.apart m' h1 b o (h2▸hb)
 ·rw[aSc hf];exact hh m hm
 ·rw[aSc hf];exact h.amb
theorem R.exch[Mode]{A M:aS}{w0:W0}{n:Nat}{env:Nat->AV}{objs objs':List MO}{a:Act}{w:World}(hf:objs'.map MO.foot=objs.map MO.foot)(hR:R A M w0 n ⟨env,objs⟩ a w)(hh:∀m∈objs',m.holds w (aT A objs)):R A M w0 n ⟨env,objs'⟩ a w:=by
 have e:=aSc (A:=A) hf;refine⟨hR.size,?_,λk=>?_,hR.inv.exch hf hh,hR.keeps,λm hm b o hb=>?_,hR.old⟩
 ·have:=hR.defers;simp only at this|-;rw[e];exact this
 ·have:=hR.env k;simp only at this|-;rw[e];exact this
 ·obtain⟨m',h1,h2⟩:=bIe hf hm;exact hR.own m' h1 b o (h2▸hb)
theorem bJo{objs:List MO}{i:Nat}{m m':MO}(hm:objs[i]?=some m)(hf:m'.foot=m.foot):(objs.set i m').map MO.foot=objs.map MO.foot:=by
 rw[List.map_set];obtain⟨hi,rfl⟩:=List.getElem?_eq_some_iff.1 hm;rw[hf,<-List.getElem_map MO.foot (h:=by simpa using hi),List.set_getElem_self]
theorem bNm{objs:List MO}{i:Nat}{m x:MO}(hx:x∈objs.set i m):x=m\/x∈objs:=by
 rcases List.mem_or_eq_of_mem_set hx with h|h
 ·exact .inr h
 ·exact .inl h
theorem aUf[Mode]{P:Program}{n i r:Nat}{o:Oper}{st:St}{agg:Bool}{es:List (Value×List D)}{Q:St->Prop}(hm:st.objs[i]?=some (mx r agg es))(h:∀bs ck,(agg=false->∀e∈es,e.2.length=1)->Step P n o ⟨st.env,st.objs.set i (.map r (es.map (elE agg)) bs ck)⟩ Q):Step P n o st Q:=
 λA M w0 a w hR K R' hK=>by
  obtain⟨h1,bs,ck,hh⟩:=bZm (hR.inv.holds _ (List.mem_of_getElem? hm));refine h bs ck h1 A M w0 a w (R.exch (objs:=st.objs) (bJo hm rfl) hR λx hx=>?_) K R' hK
  rcases bNm hx with rfl|hx
  ·exact hh
  ·exact hR.inv.holds x hx
theorem aRm[Mode]{env:Nat->AV}{objs:List MO}{i r:Nat}{agg:Bool}{es:List (Value×List D)}{bs:List Nat}{ck:Nat}(hi:i<objs.length)(h1:agg=false->∀e∈es,e.2.length=1):Ent ⟨env,objs.set i (.map r (es.map (elE agg)) bs ck)⟩ ⟨env,objs.set i (mx r agg es)⟩:=
 λA M w0 n a w hR=>by
  have e:(objs.set i (mx r agg es))=(objs.set i (.map r (es.map (elE agg)) bs ck)).set i (mx r agg es):=by simp
  have hm:(objs.set i (.map r (es.map (elE agg)) bs ck))[i]?=some (.map r (es.map (elE agg)) bs ck):=by simp[hi]
  rw[e];refine R.exch (bJo hm rfl) hR λx hx=>?_
  rcases bNm hx with rfl|hx
  ·exact cFo h1 (hR.inv.holds _ (List.mem_of_getElem? hm))
  ·exact hR.inv.holds x hx
end Go.Am
end
section
namespace Go.Am
structure Rho where
 β:Nat->Nat×Nat×Value
 b:Nat->Nat
 o:Nat->Nat
 s:Nat->Value
namespace Rho
variable(ρ:Rho)
def bb(h:Nat):Nat:=bif Nat.ble 100000 h then(ρ.β h).1 else ρ.b h
def oo(h:Nat):Nat:=bif Nat.ble 100000 h then(ρ.β h).2.1 else ρ.o h
def ss(h:Nat):Value:=bif Nat.ble 100000 h then(ρ.β h).2.2 else ρ.s h
def dd:D->D
 | .hv q h j=>match q with
  |0=>.lit (ρ.ss h)
  |1=>.lit (.map (some (ρ.bb h)))
  |_=>.lit (.pointer (some ⟨ρ.bb h,ρ.oo h+j,none⟩))
 |x=>x
def a0:AV->AV
 | .d x=>.d (ρ.dd x)
 | .agg xs=>.agg (xs.map ρ.dd)
 | .bp h _ j=>.bp (ρ.bb h) (ρ.oo h) j
 | .ep v k i c=>match v with
  | .map (some h)=>.ep (ρ.ss h) k i c
  |_=>.any
 |x=>x
def a1:AV->AV
 | .tup vs=>.tup (vs.map ρ.a0)
 | .fn f vs=>.fn f (vs.map ρ.a0)
 | .mf f vs=>.mf f (vs.map ρ.a0)
 |x=>ρ.a0 x
def av:AV->AV
 | .tup vs=>.tup (vs.map ρ.a1)
 | .fn f vs=>.fn f (vs.map ρ.a1)
 | .mf f vs=>.mf f (vs.map ρ.a1)
 |x=>ρ.a0 x
end Rho
inductive VO where
 |box (ds:List D)
 |arr (e k:Nat) (rows:List (List D))
 |map (agg:Bool) (es:List (Value×List D))
 |raw (m:MO)
def Rho.mo(ρ:Rho)(h:Nat):VO->MO
 | .box ds=>.box (ρ.bb h) (ρ.oo h) (ds.map ρ.dd)
 | .arr e k rows=>.arr (ρ.ss h) e k rows
 | .map agg es=>mx (ρ.bb h) agg es
 | .raw m=>m
structure VS where
 env:List (Nat×AV)
 objs:List (Nat×VO)
def lk:List (Nat×AV)->Nat->AV
 |[],_=>.any
 |(k,v)::l,j=>bif Nat.beq k j then v else lk l j
def ob:List (Nat×VO)->Nat->Option VO
 |[],_=>none
 |(k,m)::l,h=>bif Nat.beq k h then some m else ob l h
def fD(h:Nat)(m:VO):List (Nat×VO)->List (Nat×VO)
 |[]=>[(h,m)]
 |(k,x)::l=>bif Nat.beq k h then(k,m)::l else(k,x)::fD h m l
def fV(h:Nat):List (Nat×VO)->List (Nat×VO)
 |[]=>[]
 |(k,x)::l=>bif Nat.beq k h then l else(k,x)::fV h l
def chg:List (Nat×Option VO)->List (Nat×VO)->List (Nat×VO)
 |[],l=>l
 |(h,some m)::c,l=>chg c (fD h m l)
 |(h,none)::c,l=>chg c (fV h l)
def VS.at(S:VS)(ρ:Rho):St:=⟨λk=>ρ.av (lk S.env k),S.objs.map λp=>ρ.mo p.1 p.2⟩
def VS.ev(S:VS):Operand->AV
 | .tmp t=>lk S.env t
 | .const v=>.d (.lit v)
 | .global _=>.any
 | .func f=>.fn f []
structure Eff where
 v:AV
 ch:List (Nat×Option VO)
 us:List Nat
 nw:List Nat
abbrev Eff.p(v:AV):Eff:=⟨v,[],[],[]⟩
abbrev Eff.r(v:AV)(us:List Nat):Eff:=⟨v,[],us,[]⟩
def VS.app(S:VS)(d:Option Nat)(e:Eff):VS:=
 ⟨match d with|some d=>(d,e.v)::S.env|none=>S.env,chg e.ch S.objs⟩
def aBp(h:Nat):D->Bool
 | .hv _ k _=>Nat.beq k h
 |_=>false
def yW(h:Nat):AV->Bool
 | .d x=>aBp h x
 | .agg xs=>xs.any (aBp h)
 | .bp k _ _=>Nat.beq k h
 | .ep v _ _ _=>match v with
  | .map (some k)=>Nat.beq k h
  |_=>false
 |_=>false
def aSl(h:Nat):AV->Bool
 | .tup vs=>vs.any (yW h)
 | .fn _ vs=>vs.any (yW h)
 | .mf _ vs=>vs.any (yW h)
 |x=>yW h x
def qX(h:Nat):AV->Bool
 | .tup vs=>vs.any (aSl h)
 | .fn _ vs=>vs.any (aSl h)
 | .mf _ vs=>vs.any (aSl h)
 |x=>yW h x
def aEu(h:Nat):VO->Bool
 | .box ds=>ds.any (aBp h)
 |_=>false
def lW(h:Nat)(S:VS):Bool:=S.env.any (λp=>qX h p.2)||S.objs.any λp=>Nat.beq p.1 h||aEu h p.2
structure Off(h:Nat)(ρ ρ':Rho):Prop where
 β:ρ'.β=ρ.β
 b:∀k,Nat.beq k h=false->ρ'.b k=ρ.b k
 o:∀k,Nat.beq k h=false->ρ'.o k=ρ.o k
 s:∀k,Nat.beq k h=false->ρ'.s k=ρ.s k
section
variable{h:Nat}{ρ ρ':Rho}
theorem Off.bb(H:Off h ρ ρ'){k:Nat}(hk:Nat.beq k h=false):ρ'.bb k=ρ.bb k:=by simp[Rho.bb,H.β,H.b k hk]
theorem Off.oo(H:Off h ρ ρ'){k:Nat}(hk:Nat.beq k h=false):ρ'.oo k=ρ.oo k:=by simp[Rho.oo,H.β,H.o k hk]
theorem Off.ss(H:Off h ρ ρ'){k:Nat}(hk:Nat.beq k h=false):ρ'.ss k=ρ.ss k:=by simp[Rho.ss,H.β,H.s k hk]
theorem Off.dd(H:Off h ρ ρ'){x:D}(hx:aBp h x=false):ρ'.dd x=ρ.dd x:=by
 cases x with
 | hv q k j=>
  have hk:Nat.beq k h=false:=hx;simp only[Rho.dd,H.bb hk,H.oo hk,H.ss hk]
 |_=>rfl
theorem sR{α β:Type}{f g:α->β}{p:α->Bool}(hp:∀x,p x=false->f x=g x):∀{l:List α},l.any p=false->l.map f=l.map g
 |[],_=>rfl
 | x::l,h=>by
  simp only[List.any_cons,Bool.or_eq_false_iff] at h;simp only[List.map_cons,hp x h.1,sR hp h.2]
theorem Off.a0(H:Off h ρ ρ'){x:AV}(hx:yW h x=false):ρ'.a0 x=ρ.a0 x:=by
 cases x with
 |d x=>simp only[Rho.a0,H.dd hx]
 |agg xs=>simp only[Rho.a0,sR (λx=>H.dd (x:=x)) hx]
 | bp k o j=>
  have hk:Nat.beq k h=false:=hx;simp only[Rho.a0,H.bb hk,H.oo hk]
 | ep v k i c=>
  cases v with
  | map r=>cases r with
   |none=>rfl
   | some k=>
    have hk:Nat.beq k h=false:=hx;simp only[Rho.a0,H.ss hk]
  |_=>rfl
 |_=>rfl
theorem Off.a1(H:Off h ρ ρ'){x:AV}(hx:aSl h x=false):ρ'.a1 x=ρ.a1 x:=by
 cases x with
 |tup vs=>simp only[Rho.a1,sR (λx=>H.a0 (x:=x)) hx]
 |fn f vs=>simp only[Rho.a1,sR (λx=>H.a0 (x:=x)) hx]
 |mf f vs=>simp only[Rho.a1,sR (λx=>H.a0 (x:=x)) hx]
 |any=>rfl
 |d x=>exact H.a0 (x:=.d x) hx
 |agg x=>exact H.a0 (x:=.agg x) hx
 |cp x=>rfl
 |bp b o j=>exact H.a0 (x:=.bp b o j) hx
 |ep v k i c=>exact H.a0 (x:=.ep v k i c) hx
 |fl n k r=>rfl
theorem Off.av(H:Off h ρ ρ'){x:AV}(hx:qX h x=false):ρ'.av x=ρ.av x:=by
 cases x with
 |tup vs=>simp only[Rho.av,sR (λx=>H.a1 (x:=x)) hx]
 |fn f vs=>simp only[Rho.av,sR (λx=>H.a1 (x:=x)) hx]
 |mf f vs=>simp only[Rho.av,sR (λx=>H.a1 (x:=x)) hx]
 |any=>rfl
 |d x=>exact H.a0 (x:=.d x) hx
 |agg x=>exact H.a0 (x:=.agg x) hx
 |cp x=>rfl
 |bp b o j=>exact H.a0 (x:=.bp b o j) hx
 |ep v k i c=>exact H.a0 (x:=.ep v k i c) hx
 |fl n k r=>rfl
theorem Off.mo(H:Off h ρ ρ'){k:Nat}{m:VO}(hk:Nat.beq k h=false)(hm:aEu h m=false):ρ'.mo k m=ρ.mo k m:=by
 cases m with
 |box ds=>simp only[Rho.mo,H.bb hk,H.oo hk,sR (λx=>H.dd (x:=x)) hm]
 |arr e k rows=>simp only[Rho.mo,H.ss hk]
 |map agg es=>simp only[Rho.mo,H.bb hk]
 |raw m=>rfl
theorem cDr{S:VS}(hS:S.env.any (λp=>qX h p.2)=false)(k:Nat):qX h (lk S.env k)=false:=by
 obtain⟨env,objs⟩:=S
 induction env with
 |nil=>rfl
 | cons p l ih=>
  simp only[List.any_cons,Bool.or_eq_false_iff] at hS;simp only[lk];cases Nat.beq p.1 k with
  |true=>exact hS.1
  |false=>exact ih hS.2
theorem Off.at(H:Off h ρ ρ'){S:VS}(hS:lW h S=false):S.at ρ'=S.at ρ:=by
 simp only[lW,Bool.or_eq_false_iff] at hS;have h1:(λk=>ρ'.av (lk S.env k))=λk=>ρ.av (lk S.env k):=funext λk=>H.av (cDr hS.1 k);have h2:(S.objs.map λp=>ρ'.mo p.1 p.2)=S.objs.map λp=>ρ.mo p.1 p.2:=
  sR (λp hp=>by
   simp only[Bool.or_eq_false_iff] at hp;exact H.mo hp.1 hp.2) hS.2
 simp only[VS.at,h1,h2]
end
def Rho.setB(ρ:Rho)(h b o:Nat):Rho:={ρ with b:=λk=>bif Nat.beq k h then b else ρ.b k,o:=λk=>bif Nat.beq k h then o else ρ.o k}
def Rho.setS(ρ:Rho)(h:Nat)(v:Value):Rho:={ρ with s:=λk=>bif Nat.beq k h then v else ρ.s k}
section
variable{ρ:Rho}{h:Nat}
theorem aWm(b o:Nat):Off h ρ (ρ.setB h b o):=⟨rfl,λk hk=>by simp[Rho.setB,hk],λk hk=>by simp[Rho.setB,hk],λ_ _=>rfl⟩
theorem aJb(v:Value):Off h ρ (ρ.setS h v):=⟨rfl,λ_ _=>rfl,λ_ _=>rfl,λk hk=>by simp[Rho.setS,hk]⟩
theorem beq_refl(n:Nat):Nat.beq n n=true:=Nat.beq_refl n
theorem bNl(hl:Nat.ble 100000 h=false)(b o:Nat):(ρ.setB h b o).bb h=b/\(ρ.setB h b o).oo h=o:=by simp[Rho.bb,Rho.oo,hl,Rho.setB]
theorem aUd(hl:Nat.ble 100000 h=false)(v:Value):(ρ.setS h v).ss h=v:=by simp[Rho.ss,hl,Rho.setS]
theorem uF(S:VS)(x:Operand):(S.at ρ).eval x=ρ.av (S.ev x):=by cases x<;>rfl
theorem qP(S:VS)(d:Nat)(v:AV):(S.at ρ).set d (ρ.av v)=(VS.mk ((d,v)::S.env) S.objs).at ρ:=by
 simp only[VS.at,St.set,St.mk.injEq,and_true]
 funext k
 simp only[upd,lk];cases Nat.beq d k<;>rfl
theorem sE{objs:List (Nat×VO)}{h:Nat}{m:VO}(hm:ob objs h=some m):∃i,(objs.map λp=>ρ.mo p.1 p.2)[i]?=some (ρ.mo h m)/\(∀m':VO,(objs.map λp=>ρ.mo p.1 p.2).set i (ρ.mo h m')=(fD h m' objs).map λp=>ρ.mo p.1 p.2)/\
  ((objs.map λp=>ρ.mo p.1 p.2).Perm (ρ.mo h m::(fV h objs).map λp=>ρ.mo p.1 p.2)):=by
 induction objs with
 |nil=>cases hm
 | cons p l ih=>
  obtain⟨k,x⟩:=p;simp only[ob] at hm;cases hb:Nat.beq k h with
  | true=>
   rw[hb] at hm;have:=Nat.eq_of_beq_eq_true hb;subst this
   simp at hm;subst hm
   exact⟨0,by simp,λm'=>by simp[fD],by simp[fV]⟩
  | false=>
   rw[hb] at hm;obtain⟨i,h1,h2,h3⟩:=ih (by simpa using hm);refine⟨i+1,by simpa using h1,λm'=>by simp[fD,hb,h2 m'],?_⟩;simp only[fV,hb,List.map_cons,cond_false];exact(List.Perm.cons _ h3).trans (.swap _ _ _)
theorem aEx{objs:List (Nat×VO)}{h:Nat}(m:VO)(hn:objs.any (λp=>Nat.beq p.1 h||aEu h p.2)=false):fD h m objs=objs++[(h,m)]:=by
 induction objs with
 |nil=>rfl
 | cons p l ih=>
  simp only[List.any_cons,Bool.or_eq_false_iff] at hn;simp only[fD,hn.1.1,cond_false,List.cons_append,ih hn.2]
theorem aCh{S:VS}(hS:lW h S=false):S.objs.any (λp=>Nat.beq p.1 h||aEu h p.2)=false:=by
 simp only[lW,Bool.or_eq_false_iff] at hS;exact hS.2
end
end Go.Am
end
end
section
namespace Go.Am
inductive Tr'(α:Type)(R:Nat->α->Prop) where
 |l
 |n (a:Tr' α R) (k:Nat) (d:α) (h:R k d) (b:Tr' α R)
def Tr'.get{α:Type}{R:Nat->α->Prop}:Tr' α R->Nat->Option α
 | .l,_=>none
 | .n a k d _ b,t=>bif Nat.beq k t then some d else bif Nat.ble t k then a.get t else b.get t
theorem Tr'.ok{α:Type}{R:Nat->α->Prop}:∀{T:Tr' α R} {t:Nat} {d:α},T.get t=some d->R t d
 | .l,_,_,h=>by cases h
 | .n a k d h0 b,t,d',h=>by
  simp only[Tr'.get] at h;cases hb:Nat.beq k t with
  |true=>rw[hb] at h;simp at h;subst h;exact Nat.eq_of_beq_eq_true hb▸h0
  | false=>
   rw[hb] at h;cases hc:Nat.ble t k with
   |true=>rw[hc] at h;exact Tr'.ok (by simpa using h)
   |false=>rw[hc] at h;exact Tr'.ok (by simpa using h)
structure TE where
 size:Nat
 bytes:Nat
def TyR(P:Program)(t:Nat)(p:TE×TypeDesc):Prop:=(∃i,P.info? t=some i/\i.size=p.1.size/\i.bytes=p.1.bytes/\∃z,i.zero=some z/\z.cells.size=p.1.size)/\P.underlying t=some p.2
theorem ti{P:Program}{t:Nat}(i:TypeInfo){e:TE}{td:TypeDesc}{z:Value}(h2:P.underlying t=some td)(h:P.info? t=some i:=by kernel_rfl)(hz:i.zero=some z:=by exact rfl)(h3:z.cells.size=e.size:=by exact rfl)(hs:i.size=e.size:=by exact rfl)(hb:i.bytes=e.bytes:=by exact rfl):TyR P t (e,td):=
 ⟨⟨i,h,hs,hb,z,hz,h3⟩,h2⟩
structure TT(P:Program) where
 ty:Tr' (TE×TypeDesc) (TyR P)
 zr:Tr' (List D) λt zs=>∃z,(∀w,(zeroValue t).run P w=.ok z w)/\z.cells=(zs.map bA).toArray/\zOK zs=true
 mix:P.follows .mixedOrders=true
section facts
variable{P:Program}{T:TT P}{t e:Nat}{i j:TE}{td:TypeDesc}
theorem aCm(h:T.ty.get t=some (i,td))(w:World):(sizeOf t).run P w=.ok i.size w:=by
 obtain⟨ii,h1,h2,_⟩:=(Tr'.ok h).1;simp only at h2
 simp[sizeOf,typeInfo,h1,h2]
def aEj:TypeDesc->Bool
 | .struct _=>true
 | .array _ _=>true
 |_=>false
theorem bVa(h:T.ty.get t=some (i,td))(w:World):(isAgg t).run P w=.ok (aEj td) w:=by
 have h2:=run_underlying (Tr'.ok h).2 w;simp only at h2;unfold isAgg;simp only[Sem.run_bind,h2,Result.andThen_ok];cases td<;>rfl
theorem aPn{m:Nat}(h:T.ty.get t=some (i,td))(ha:aEj td=true)(hs:i.size=m):jV P t m:=⟨λw=>ha▸bVa h w,λw=>hs▸aCm h w⟩
theorem aJl(h:T.ty.get t=some (i,td))(ha:aEj td=false)(hs:i.size=1):fZ P t:=⟨λw=>ha▸bVa h w,λw=>hs▸aCm h w⟩
theorem bYk{fs:Array Field}{f:Nat}{fd:Field}(h:T.ty.get t=some (i,.struct fs))(hf:fs.toList[f]?=some fd)(h2:T.ty.get fd.type=some (j,td))(hp:Nat.ble 1 j.size=true):eI P t f fd.offset:=by
 obtain⟨m,hm⟩:∃m,j.size=m+1:=⟨j.size-1,by have:=Nat.le_of_ble_eq_true hp;omega⟩;exact eK (λw=>run_underlying (Tr'.ok h).2 w) (by simpa using hf) rfl (λw=>hm▸aCm h2 w)
theorem aPo{k:Nat}(h:T.ty.get t=some (i,.slice e))(h2:T.ty.get e=some (j,td))(hk:j.size=k)(hp:Nat.ble 1 k=true):∃z,SliceTy P t e k j.bytes z:=by
 obtain⟨ii,h3,h4,h5,z,h6,h7⟩:=(Tr'.ok h2).1;simp only at h4 h5 h7;exact⟨z,(Tr'.ok h).2,⟨ii,h3,h6,h4.trans hk,h5⟩,h7.trans hk,Nat.le_of_ble_eq_true hp⟩
end facts
structure Agr(o:Op)(S S':VS)(us:List Nat):Prop where
 ev:∀x∈o.operands.toList,S'.ev x=S.ev x
 ob:∀h∈us,ob S'.objs h=ob S.objs h
def mT[Mode](P:Program)(n:Nat)(o:Oper)(S:VS)(e:Eff):Prop:=
 ∀S',Agr o.op S S' e.us->(∀h∈e.nw,lW h S'=false/\Nat.ble 100000 h=false)->∀ρ,Step P n o (S'.at ρ) (λst=>∃ρ':Rho,ρ'.β=ρ.β/\Ent st ((S'.app o.dst e).at ρ'))
structure cA[Mode](P:Program)(n:Nat)(o:Oper)(S:VS)(K:Eff->Prop):Prop where
 h:∃e,K e/\mT P n o S e
theorem dJ[Mode]{P:Program}{n:Nat}{o:Oper}{st:St}{Q Q':St->Prop}(h:Step P n o st Q)(hq:∀s,Q s->Q' s):Step P n o st Q':=
 λA M w0 a w hR K R hK=>h A M w0 a w hR K R λs a' w' hs hR'=>hK s a' w' (hq s hs) hR'
theorem lA[Mode]{a b:St}(h:a=b):Ent a b:=h▸Ent.refl a
section lift
variable{P:Program}{n d:Nat}{S:VS}{us:List Nat}{op:Op}{ty:TypeId}{pos:String}{af:Array Edge}{gd:Option (Nat×Bool)}
theorem bQu[Mode]{v:AV}(h:∀S',Agr op S S' us->∀ρ,aM P n ⟨some d,op,ty,pos,af,gd⟩ (S'.at ρ) ((S'.at ρ).set d (ρ.av v))):mT P n ⟨some d,op,ty,pos,af,gd⟩ S (.r v us):=
 λS' hA _ ρ=>dJ (h S' hA ρ) λs hs=>⟨ρ,rfl,lA (hs.trans (qP S' d v))⟩
theorem aEk[Mode]{env:Nat->AV}{objs objs':List MO}(h:objs.Perm objs'):Ent ⟨env,objs⟩ ⟨env,objs'⟩:=pC (gone:=[]) (by simpa using h) λ_=>.same _
theorem bJn[Mode]{q:Nat}{ds:List D}(ho:ds.any (aBp q)=false)(h:∀S',Agr op S S' us->∀ρ,Step P n ⟨some d,op,ty,pos,af,gd⟩ (S'.at ρ) (λs=>∃b,s=(S'.at ρ).setadd d (.bp b 0 0) (.box b 0 (ds.map ρ.dd)))):
  mT P n ⟨some d,op,ty,pos,af,gd⟩ S ⟨.bp q 0 0,[(q,some (.box ds))],us,[q]⟩:=by
 intro S' hA hn ρ;obtain⟨hf,hl⟩:=hn q (by simp);refine dJ (h S' hA ρ) ?_;rintro s ⟨b,rfl⟩;have H:=aWm (ρ:=ρ) (h:=q) b 0;refine⟨ρ.setB q b 0,rfl,lA ?_⟩;obtain⟨e1,e2⟩:=bNl (ρ:=ρ) hl b 0;have h1:=H.at hf;have h2:=qP (ρ:=ρ.setB q b 0) S' d (.bp q 0 0);simp only[VS.app,chg,aEx _ (aCh hf)];have hh:(ρ.setB q b 0).av (.bp q 0 0)=.bp b 0 0:=by simp only[Rho.av,Rho.a0,e1,e2]
 rw[h1,hh] at h2;have h3:(VS.mk ((d,AV.bp q 0 0)::S'.env) (S'.objs++[(q,VO.box ds)])).at (ρ.setB q b 0)=(St.mk ((VS.mk ((d,AV.bp q 0 0)::S'.env) S'.objs).at (ρ.setB q b 0)).env (((VS.mk ((d,AV.bp q 0 0)::S'.env) S'.objs).at (ρ.setB q b 0)).objs++[(ρ.setB q b 0).mo q (.box ds)])):=by
  simp[VS.at]
 rw[h3,<-h2];simp only[St.setadd,St.set,Rho.mo,e1,e2,sR (λx=>H.dd (x:=x)) ho]
theorem bCp[Mode]{ds:List D}(ho:ds.any (aBp d)=false)(h:∀S',Agr op S S' us->∀ρ,Step P n ⟨some d,op,ty,pos,af,gd⟩ (S'.at ρ) (λs=>∃b,s=(S'.at ρ).setadd d (.bp b 0 0) (.box b 0 (ds.map ρ.dd)))):
  mT P n ⟨some d,op,ty,pos,af,gd⟩ S ⟨.bp d 0 0,[(d,some (.box ds))],us,[d]⟩:=bJn ho h
theorem aUc[Mode]{e k:Nat}{rows:List (List D)}(h:∀S',Agr op S S' us->∀ρ,Step P n ⟨some d,op,ty,pos,af,gd⟩ (S'.at ρ) (λs=>∃v,s=(S'.at ρ).setadd d (.d (.lit v)) (.arr v e k rows))):
  mT P n ⟨some d,op,ty,pos,af,gd⟩ S ⟨.d (.hv 0 d 0),[(d,some (.arr e k rows))],us,[d]⟩:=by
 intro S' hA hn ρ;obtain⟨hf,hl⟩:=hn d (by simp);refine dJ (h S' hA ρ) ?_;rintro s ⟨v,rfl⟩;have H:=aJb (ρ:=ρ) (h:=d) v;refine⟨ρ.setS d v,rfl,lA ?_⟩;have e1:=aUd (ρ:=ρ) hl v;have h1:=H.at hf;have h2:=qP (ρ:=ρ.setS d v) S' d (.d (.hv 0 d 0));simp only[VS.app,chg,aEx _ (aCh hf)];have hh:(ρ.setS d v).av (.d (.hv 0 d 0))=.d (.lit v):=by simp only[Rho.av,Rho.a0,Rho.dd,e1]
 rw[h1,hh] at h2;have h3:(VS.mk ((d,AV.d (.hv 0 d 0))::S'.env) (S'.objs++[(d,VO.arr e k rows)])).at (ρ.setS d v)=(St.mk ((VS.mk ((d,AV.d (.hv 0 d 0))::S'.env) S'.objs).at (ρ.setS d v)).env (((VS.mk ((d,AV.d (.hv 0 d 0))::S'.env) S'.objs).at (ρ.setS d v)).objs++[(ρ.setS d v).mo d (.arr e k rows)])):=by
  simp[VS.at]
 rw[h3,<-h2];simp only[St.setadd,St.set,Rho.mo,e1]
theorem bNk[Mode]{h:Nat}{m m':VO}(hm:ob S.objs h=some m)(hu:h∈us)(hs:∀S',Agr op S S' us->∀(ρ:Rho) i,(S'.at ρ).objs[i]?=some (ρ.mo h m)->aM P n ⟨none,op,ty,pos,af,gd⟩ (S'.at ρ) ((S'.at ρ).put1 i (ρ.mo h m'))):
  mT P n ⟨none,op,ty,pos,af,gd⟩ S ⟨.any,[(h,some m')],us,[]⟩:=by
 intro S' hA _ ρ;obtain⟨i,h1,h2,_⟩:=sE (ρ:=ρ) ((hA.ob h hu).trans hm);refine dJ (hs S' hA ρ i h1) ?_;rintro s rfl;refine⟨ρ,rfl,lA ?_⟩;simp only[VS.app,chg,VS.at,St.put1,h2]
theorem aNh{h k:Nat}:∀{objs:List (Nat×VO)},objs.any (λp=>Nat.beq p.1 h||aEu h p.2)=false->(fV k objs).any (λp=>Nat.beq p.1 h||aEu h p.2)=false
 |[],_=>rfl
 | p::l,hn=>by
  simp only[List.any_cons,Bool.or_eq_false_iff] at hn;simp only[fV];cases Nat.beq p.1 k with
  |true=>exact hn.2
  | false=>
   simp only[cond_false,List.any_cons,Bool.or_eq_false_iff];exact⟨hn.1,aNh hn.2⟩
theorem bXu[Mode]{h e k:Nat}{rows rows':List (List D)}(hm:ob S.objs h=some (.arr e k rows))(hu:h∈us)
  (hs:∀S',Agr op S S' us->∀(ρ:Rho) i,(S'.at ρ).objs[i]?=some (.arr (ρ.ss h) e k rows)->Step P n ⟨some d,op,ty,pos,af,gd⟩ (S'.at ρ) (λs=>∃v,s=(S'.at ρ).setput d (.d (.lit v)) i (.arr v e k rows'))):
  mT P n ⟨some d,op,ty,pos,af,gd⟩ S ⟨.d (.hv 0 d 0),[(h,none),(d,some (.arr e k rows'))],us,[d]⟩:=by
 intro S' hA hn ρ;obtain⟨hf,hl⟩:=hn d (by simp);have hm':=(hA.ob h hu).trans hm;obtain⟨i,h1,_,h4⟩:=sE (ρ:=ρ) hm';refine dJ (hs S' hA ρ i h1) ?_;rintro s ⟨v,rfl⟩;have H:=aJb (ρ:=ρ) (h:=d) v;refine⟨ρ.setS d v,rfl,?_⟩;have e1:=aUd (ρ:=ρ) hl v;have h1':=H.at hf;have h2:=qP (ρ:=ρ.setS d v) S' d (.d (.hv 0 d 0));have hh:(ρ.setS d v).av (.d (.hv 0 d 0))=.d (.lit v):=by simp only[Rho.av,Rho.a0,Rho.dd,e1]
 rw [h1',hh] at h2;have h5:(St.set (S'.at ρ) d (.d (.lit v))).env=λj=>(ρ.setS d v).av (lk ((d,AV.d (.hv 0 d 0))::S'.env) j):=congrArg St.env h2;have h6:(S'.objs.map λp=>ρ.mo p.1 p.2)=S'.objs.map λp=>(ρ.setS d v).mo p.1 p.2:=(congrArg St.objs h1').symm;simp only[VS.app,chg,aEx _ (aNh (k:=h) (aCh hf))];have h7:Ent (St.mk (St.set (S'.at ρ) d (.d (.lit v))).env ((S'.at ρ).objs.set i (.arr v e k rows'))) ((VS.mk ((d,AV.d (.hv 0 d 0))::S'.env) (fV h S'.objs++[(d,VO.arr e k rows')])).at (ρ.setS d v)):=by
  rw [h5];refine aEk ?_;have hset:∀x:MO,((S'.objs.map λp=>ρ.mo p.1 p.2).set i x).Perm (x::(fV h S'.objs).map λp=>ρ.mo p.1 p.2):=by
   intro x;have hi:i<(S'.objs.map λp=>ρ.mo p.1 p.2).length:=(List.getElem?_eq_some_iff.1 h1).1;have hx:(S'.objs.map λp=>ρ.mo p.1 p.2)[i]=ρ.mo h (.arr e k rows):=(List.getElem?_eq_some_iff.1 h1).2;have a1:((S'.objs.map λp=>ρ.mo p.1 p.2).set i x).Perm (x::(S'.objs.map λp=>ρ.mo p.1 p.2).eraseIdx i):=by
    rw[List.set_eq_take_append_cons_drop,if_pos hi,List.eraseIdx_eq_take_drop_succ];exact List.perm_middle
   have a2:(S'.objs.map λp=>ρ.mo p.1 p.2).Perm (ρ.mo h (.arr e k rows)::(S'.objs.map λp=>ρ.mo p.1 p.2).eraseIdx i):=by
    conv=>lhs;rw[<-List.set_getElem_self hi,hx]
    rw[List.set_eq_take_append_cons_drop,if_pos hi,List.eraseIdx_eq_take_drop_succ];exact List.perm_middle
   exact a1.trans (.cons _ (List.Perm.cons_inv (a2.symm.trans h4)))
  have h8:((fV h S'.objs).map λp=>ρ.mo p.1 p.2)=(fV h S'.objs).map λp=>(ρ.setS d v).mo p.1 p.2:=
   (sR (λp hp=>by
    simp only[Bool.or_eq_false_iff] at hp;exact H.mo hp.1 hp.2) (aNh (k:=h) (aCh hf))).symm
  refine(hset _).trans ?_;rw[h8,List.map_append];refine List.Perm.trans ?_ List.perm_append_comm;simp only[List.map_cons,List.map_nil,List.singleton_append,Rho.mo,e1];exact .refl _
 exact h7
theorem bUv[Mode]{h e k:Nat}{rows rows':List (List D)}(hm:ob S.objs h=some (.arr e k rows))(hu:h∈us)
  (hs:∀S',Agr op S S' us->∀(ρ:Rho) i,(S'.at ρ).objs[i]?=some (.arr (ρ.ss h) e k rows)->Step P n ⟨some d,op,ty,pos,af,gd⟩ (S'.at ρ) (λs=>∃v,s=(S'.at ρ).setput d (.d (.lit v)) i (.arr v e k rows'))):
  mT P n ⟨some d,op,ty,pos,af,gd⟩ S ⟨.d (.sl k rows'),[(h,none)],us,[]⟩:=by
 intro S' hA hn ρ;have hm':=(hA.ob h hu).trans hm;obtain⟨i,h1,_,h4⟩:=sE (ρ:=ρ) hm';refine dJ (hs S' hA ρ i h1) ?_;rintro s ⟨v,rfl⟩;refine⟨ρ,rfl,λA M w0 n a w hR=>?_⟩;have hset:∀x:MO,((S'.objs.map λp=>ρ.mo p.1 p.2).set i x).Perm (x::(fV h S'.objs).map λp=>ρ.mo p.1 p.2):=by
  intro x;have hi:i<(S'.objs.map λp=>ρ.mo p.1 p.2).length:=(List.getElem?_eq_some_iff.1 h1).1;have hx:(S'.objs.map λp=>ρ.mo p.1 p.2)[i]=ρ.mo h (.arr e k rows):=(List.getElem?_eq_some_iff.1 h1).2;have a1:((S'.objs.map λp=>ρ.mo p.1 p.2).set i x).Perm (x::(S'.objs.map λp=>ρ.mo p.1 p.2).eraseIdx i):=by
   rw[List.set_eq_take_append_cons_drop,if_pos hi,List.eraseIdx_eq_take_drop_succ];exact List.perm_middle
  have a2:(S'.objs.map λp=>ρ.mo p.1 p.2).Perm (ρ.mo h (.arr e k rows)::(S'.objs.map λp=>ρ.mo p.1 p.2).eraseIdx i):=by
   conv=>lhs;rw[<-List.set_getElem_self hi,hx]
   rw[List.set_eq_take_append_cons_drop,if_pos hi,List.eraseIdx_eq_take_drop_succ];exact List.perm_middle
  exact a1.trans (.cons _ (List.Perm.cons_inv (a2.symm.trans h4)))
 have hp:=(hset (.arr v e k rows')).trans (List.perm_append_comm (l₁:=[MO.arr v e k rows']));have hk:∀r∈rows',r.length=k:=by
  have hmem:MO.arr v e k rows'∈(S'.objs.map λp=>ρ.mo p.1 p.2).set i (.arr v e k rows'):=hp.mem_iff.2 (by simp);obtain⟨_,_,_,hr⟩:=hR.inv.holds _ hmem;exact hr
 have h2:=qP (ρ:=ρ) S' d (.d (.sl k rows'));have h5:upd (S'.at ρ).env d (.d (.sl k rows'))=λj=>ρ.av (lk ((d,AV.d (.sl k rows'))::S'.env) j):=congrArg St.env h2;have hE:Ent (St.mk (upd (S'.at ρ).env d (.d (.lit v))) ((S'.at ρ).objs.set i (.arr v e k rows'))) ⟨upd (S'.at ρ).env d (.d (.sl k rows')),(fV h S'.objs).map λp=>ρ.mo p.1 p.2⟩:=
  pC hp λj=>by
   unfold upd;cases Nat.beq d j with
   |true=>exact .d (cAr hk)
   |false=>exact .same _
 have:=hE A M w0 n a w hR;rw[h5] at this;exact this
theorem bBd{a b:List (Nat×Option VO)}:∀{l:List (Nat×VO)},chg (a++b) l=chg b (chg a l):=by
 induction a with
 |nil=>intro l;rfl
 | cons p a ih=>
  intro l;obtain⟨h,m⟩:=p;cases m with
  |some m=>simp only[List.cons_append,chg,ih]
  |none=>simp only[List.cons_append,chg,ih]
theorem bEh{d:Nat}{m:VO}{x:Nat×VO}(hx:Nat.beq x.1 d=false):∀{l:List (Nat×VO)},(fD d m (l++[x])).Perm (fD d m l++[x])
 |[]=>by simp only[List.nil_append,fD,hx,cond_false];exact List.Perm.swap _ _ _
 | p::l=>by
  simp only[List.cons_append,fD];cases Nat.beq p.1 d with
  |true=>exact .refl _
  |false=>exact .cons _ (bEh hx)
theorem bId{f g:Nat×VO->MO}{d:Nat}{m m':VO}(hm:f (d,m)=g (d,m')):∀{l:List (Nat×VO)},(∀p∈l,f p=g p)->(fD d m l).map f=(fD d m' l).map g
 |[],_=>by simp[fD,hm]
 | p::l,h=>by
  simp only[fD];cases hb:Nat.beq p.1 d with
  | true=>
   have:=Nat.eq_of_beq_eq_true hb;simp only[cond_true,List.map_cons];rw[this,hm,List.map_congr_left λq hq=>h q (List.mem_cons_of_mem _ hq)]
  | false=>
   simp only[cond_false,List.map_cons];rw[h p (by simp),bId hm λq hq=>h q (List.mem_cons_of_mem _ hq)]
def aDh(h:Nat)(e:Eff):Bool:=qX h e.v||e.ch.any λp=>Nat.beq p.1 h||(match p.2 with|some m=>aEu h m|none=>false)
theorem bIx{h k:Nat}{m:VO}:∀{l:List (Nat×VO)},(l.any λp=>Nat.beq p.1 h||aEu h p.2)=false->Nat.beq k h=false->aEu h m=false->((fD k m l).any λp=>Nat.beq p.1 h||aEu h p.2)=false
 |[],_,h1,h2=>by simp[fD,h1,h2]
 | p::l,hl,h1,h2=>by
  simp only[List.any_cons,Bool.or_eq_false_iff] at hl;simp only[fD];cases hb:Nat.beq p.1 k with
  |true=>simp only[cond_true,List.any_cons,Bool.or_eq_false_iff];exact⟨⟨hl.1.1,h2⟩,hl.2⟩
  |false=>simp only[cond_false,List.any_cons,Bool.or_eq_false_iff];exact⟨hl.1,bIx hl.2 h1 h2⟩
theorem aLq{h:Nat}:∀{c:List (Nat×Option VO)} {l:List (Nat×VO)},(l.any λp=>Nat.beq p.1 h||aEu h p.2)=false->(c.any λp=>Nat.beq p.1 h||(match p.2 with|some m=>aEu h m|none=>false))=false->((chg c l).any λp=>Nat.beq p.1 h||aEu h p.2)=false
 |[],_,h1,_=>h1
 | (k,some m)::c,l,h1,h2=>by
  simp only[List.any_cons,Bool.or_eq_false_iff] at h2;have:=aLq (c:=c) (bIx h1 h2.1.1 h2.1.2) h2.2;exact this
 | (k,none)::c,l,h1,h2=>by
  simp only[List.any_cons,Bool.or_eq_false_iff] at h2;have:=aLq (c:=c) (aNh (k:=k) h1) h2.2;exact this
theorem bAt{h:Nat}{S:VS}{dst:Option Nat}{e:Eff}(hS:lW h S=false)(he:aDh h e=false):lW h (S.app dst e)=false:=by
 simp only[lW,Bool.or_eq_false_iff] at hS|-;simp only[aDh,Bool.or_eq_false_iff] at he;refine⟨?_,aLq hS.2 he.2⟩;cases dst with
 |none=>exact hS.1
 |some d=>simp only[VS.app,List.any_cons,Bool.or_eq_false_iff];exact⟨he.1,hS.1⟩
theorem bXv[Mode]{q e k j:Nat}{zs:List D}{ch:List (Nat×Option VO)}{v:AV}{nw:List Nat}(hz:zs[j]?=some (.lit (.slice none 0 0)))(hq:aDh q ⟨v,ch++[(d,some (.box zs))],us,nw⟩=false)
  (h:mT P n ⟨some d,op,ty,pos,af,gd⟩ S ⟨v,ch++[(d,some (.box zs))],us,nw⟩):mT P n ⟨some d,op,ty,pos,af,gd⟩ S ⟨v,ch++[(q,some (.arr e k [])),(d,some (.box (zs.set j (.hv 0 q 0))))],us,q::nw⟩:=by
 intro S' hA hn ρ;obtain⟨gf,gl⟩:=hn q (by simp);refine dJ (h S' hA (λx hx=>hn x (List.mem_cons_of_mem _ hx)) ρ) ?_;rintro s ⟨ρ1,hβ,hE⟩;have G:=aJb (ρ:=ρ1) (h:=q) (.slice none 0 0);refine⟨ρ1.setS q (.slice none 0 0),hβ,hE.trans ?_⟩;have hW:=bAt (dst:=some d) gf hq;rw[<-G.at hW];have hs:=aUd (ρ:=ρ1) gl (.slice none 0 0)
 generalize ρ1.setS q (.slice none 0 0)=ρ2 at hs|-
 simp only[aDh,List.any_append,List.any_cons,Bool.or_eq_false_iff] at hq;have hqd:Nat.beq q d=false:=by
  cases hb:Nat.beq q d with
  |false=>rfl
  |true=>have:=Nat.eq_of_beq_eq_true hb;subst this;simp at hq
 simp only[lW,Bool.or_eq_false_iff] at gf;have hL:=aLq (c:=ch) gf.2 hq.2.1;have hbox:ρ2.mo d (.box zs)=ρ2.mo d (.box (zs.set j (.hv 0 q 0))):=by
  simp only[Rho.mo,List.map_set];have:ρ2.dd (.hv 0 q 0)=.lit (.slice none 0 0):=by simp only[Rho.dd,hs]
  rw[this];have h0:(zs.map ρ2.dd)[j]?=some (.lit (.slice none 0 0)):=by rw[List.getElem?_map,hz];rfl
  obtain⟨hj,h1⟩:=List.getElem?_eq_some_iff.1 h0;rw[<-h1,List.set_getElem_self]
 simp only[VS.app,bBd,chg,aEx _ hL];unfold VS.at;refine(pD e k).trans (aEk ?_);refine List.Perm.trans ?_ ((bEh hqd).map _).symm;rw[List.map_append,bId (f:=λp=>ρ2.mo p.1 p.2) (g:=λp=>ρ2.mo p.1 p.2) hbox λ_ _=>rfl];simp only[List.map_cons,List.map_nil,Rho.mo,hs];exact .refl _
theorem bUw[Mode]{q e k j:Nat}{xs:List D}{ch:List (Nat×Option VO)}{nw:List Nat}(hz:xs[j]?=some (.lit (.slice none 0 0)))(hq:aDh q ⟨.agg xs,ch,us,nw⟩=false)
  (h:mT P n ⟨some d,op,ty,pos,af,gd⟩ S ⟨.agg xs,ch,us,nw⟩):mT P n ⟨some d,op,ty,pos,af,gd⟩ S ⟨.agg (xs.set j (.hv 0 q 0)),ch++[(q,some (.arr e k []))],us,q::nw⟩:=by
 intro S' hA hn ρ;obtain⟨gf,gl⟩:=hn q (by simp);refine dJ (h S' hA (λx hx=>hn x (List.mem_cons_of_mem _ hx)) ρ) ?_;rintro s ⟨ρ1,hβ,hE⟩;have G:=aJb (ρ:=ρ1) (h:=q) (.slice none 0 0);refine⟨ρ1.setS q (.slice none 0 0),hβ,hE.trans ?_⟩;have hW:=bAt (dst:=some d) gf hq;rw[<-G.at hW];have hs:=aUd (ρ:=ρ1) gl (.slice none 0 0)
 generalize ρ1.setS q (.slice none 0 0)=ρ2 at hs|-
 simp only[aDh,Bool.or_eq_false_iff] at hq;simp only[lW,Bool.or_eq_false_iff] at gf;have hL:=aLq (c:=ch) gf.2 hq.2;have hval:ρ2.av (.agg xs)=ρ2.av (.agg (xs.set j (.hv 0 q 0))):=by
  simp only[Rho.av,Rho.a0,List.map_set];have:ρ2.dd (.hv 0 q 0)=.lit (.slice none 0 0):=by simp only[Rho.dd,hs]
  rw[this];have h0:(xs.map ρ2.dd)[j]?=some (.lit (.slice none 0 0)):=by rw[List.getElem?_map,hz];rfl
  obtain⟨hj,h1⟩:=List.getElem?_eq_some_iff.1 h0;rw[<-h1,List.set_getElem_self]
 have henv:(λk=>ρ2.av (lk ((d,AV.agg xs)::S'.env) k))=λk=>ρ2.av (lk ((d,AV.agg (xs.set j (.hv 0 q 0)))::S'.env) k):=by
  funext k
  simp only[lk];cases Nat.beq d k with
  |true=>exact hval
  |false=>rfl
 simp only[VS.app,bBd,chg,aEx _ hL];unfold VS.at;rw[henv];refine(pD e k).trans (aEk ?_);simp only[List.map_append,List.map_cons,List.map_nil,Rho.mo,hs];exact .refl _
end lift
end Go.Am
end
section
namespace Go.Am
def yV:Value:=.slice none 0 0
theorem cAy[Mode]{w:World}{X:aS}{e k j:Nat}{vs:List Value}{rss:List (List (List D))}{v:Value}{rows:List (List D)}(h:(MO.fam e k vs rss).holds w X)(hv:vs[j]?=some v)(hr:rss[j]?=some rows):
  (MO.fam e k (vs.set j yV) (rss.set j [])).holds w X/\(MO.arr v e k rows).holds w X/\∀b,v.ownBlock=some b->∀u∈vs.set j yV,u.ownBlock≠some b:=by
 obtain⟨hl,hs,hh⟩:=h;have hj:=(List.getElem?_eq_some_iff.1 hv).1;have hjv:=(List.getElem?_eq_some_iff.1 hv).2;have hp:=List.pairwise_iff_getElem.1 hs;refine⟨⟨by simpa using hl,List.pairwise_iff_getElem.2 λa b ha hb hab x hx hy=>?_,λi u us hu hus=>?_⟩,hh j v rows hv hr,λb hb u hu hub=>?_⟩
 ·simp only[List.length_set] at ha hb;simp only[List.getElem_set] at hx hy;split at hx
  ·cases hx
  ·split at hy
   ·cases hy
   ·exact hp a b ha hb hab x hx hy
 ·by_cases e1:j=i
  ·subst e1;rw[List.getElem?_set_self (by omega)] at hus;rw[List.getElem?_set_self hj] at hu;cases hu;cases hus;exact⟨[],trivial,⟨by simp,.inl ⟨rfl,rfl⟩⟩,by simp⟩
  ·rw[List.getElem?_set_ne e1] at hu hus;exact hh i u us hu hus
 ·obtain⟨i,hi,rfl⟩:=List.getElem_of_mem hu;simp only[List.length_set] at hi;rw[List.getElem_set] at hub;split at hub
  ·cases hub
  ·rename_i hne
   rcases Nat.lt_trichotomy i j with h1|h1|h1
   ·exact hp i j hi hj h1 b hub (hjv▸hb)
   ·exact hne h1.symm
   ·exact hp j i hj hi h1 b (hjv▸hb) hub
theorem cDj[Mode]{w:World}{X:aS}{e k j:Nat}{vs:List Value}{rss:List (List (List D))}{v:Value}{rows:List (List D)}(hj:j<vs.length)(h:(MO.fam e k (vs.set j yV) (rss.set j [])).holds w X)(ha:(MO.arr v e k rows).holds w X)
  (hd:∀b,v.ownBlock=some b->∀u∈vs.set j yV,u.ownBlock≠some b):(MO.fam e k (vs.set j v) (rss.set j rows)).holds w X:=by
 obtain⟨hl,hs,hh⟩:=h;simp only[List.length_set] at hl;have hp:=List.pairwise_iff_getElem.1 hs;have hother:∀i (hi:i<vs.length),j≠i->vs[i]∈vs.set j yV:=by
  intro i hi hne;have:(vs.set j yV)[i]'(by simpa using hi)=vs[i]:=by rw[List.getElem_set_ne hne]
  rw[<-this];exact List.getElem_mem _
 refine⟨by simpa using hl,List.pairwise_iff_getElem.2 λa b ha' hb' hab x hx hy=>?_,λi u us hu hus=>?_⟩
 ·simp only[List.length_set] at ha' hb';simp only[List.getElem_set] at hx hy;split at hx
  ·rename_i h1
   split at hy
   ·omega
   ·rename_i h2
    exact hd x hx _ (hother b hb' h2) hy
  ·rename_i h1
   split at hy
   ·exact hd x hy _ (hother a ha' h1) hx
   ·rename_i h2
    refine hp a b (by simpa using ha') (by simpa using hb') hab x ?_ ?_
    ·rw[List.getElem_set_ne h1];exact hx
    ·rw[List.getElem_set_ne h2];exact hy
 ·by_cases e1:j=i
  ·subst e1;rw[List.getElem?_set_self (by omega)] at hus;rw[List.getElem?_set_self hj] at hu;cases hu;cases hus;exact ha
  ·have h1:=hh i u us;rw[List.getElem?_set_ne e1] at hu hus;rw[List.getElem?_set_ne e1,List.getElem?_set_ne e1] at h1;exact h1 hu hus
theorem bLh{vs:List Value}{j:Nat}{v u:Value}{b:Nat}(hu:u∈vs.set j v)(hb:u.ownBlock=some b):v.ownBlock=some b\/∃u∈vs,u.ownBlock=some b:=by
 rcases List.mem_or_eq_of_mem_set hu with h|rfl
 ·exact .inr ⟨u,h,hb⟩
 ·exact .inl hb
theorem bSk[Mode]{env:Nat->AV}{objs:List MO}{i:Nat}{m m1 m2:MO}(ho:objs[i]?=some m)(h1:∀b o,m1.foot b o->m.foot b o)(h2:∀b o,m2.foot b o->m.foot b o)
  (hh:∀w X,m.holds w X->m1.holds w X/\m2.holds w X/\∀b o,m2.foot b o->¬m1.foot b o):Ent ⟨env,objs⟩ ⟨env,objs.set i m1++[m2]⟩:=by
 intro A M w0 n a w hR;have hmi:m∈objs:=List.mem_of_getElem? ho;have hil:=(List.getElem?_eq_some_iff.1 ho).1;have hie:=(List.getElem?_eq_some_iff.1 ho).2;have hsep:=List.pairwise_iff_getElem.1 hR.inv.sep;obtain⟨k1,k2,k3⟩:=hh w _ (hR.inv.holds m hmi);refine hR.change (Z:=λ_ _=>False) (Keeps.refl _ _) (λ_ _ h=>h.elim) (λb o _ hx=>?_) ?_ λhm x hx=>?_
 ·obtain⟨x,hx,hf⟩:=hx
  rcases List.mem_append.1 hx with h|h
  ·rcases List.mem_or_eq_of_mem_set h with h|rfl
   ·exact⟨x,h,hf⟩
   ·exact⟨m,hmi,h1 _ _ hf⟩
  ·simp at h;subst h;exact⟨m,hmi,h2 _ _ hf⟩
 ·refine List.pairwise_append.2 ⟨List.pairwise_iff_getElem.2 λp q hp hq hpq b o hpf hqf=>?_,by simp,λx hx y hy b o hxf hyf=>?_⟩
  ·simp only[List.length_set] at hp hq;simp only[List.getElem_set] at hpf hqf;split at hpf
   ·rename_i hip
    split at hqf
    ·omega
    ·subst hip;exact hsep i q hp hq hpq b o (by rw[hie];exact h1 _ _ hpf) hqf
   ·split at hqf
    ·rename_i hiq
     subst hiq;exact hsep p i hp hq hpq b o hpf (by rw[hie];exact h1 _ _ hqf)
    ·exact hsep p q hp hq hpq b o hpf hqf
  ·simp at hy;subst hy
   obtain⟨p,hp,rfl⟩:=List.getElem_of_mem hx;simp only[List.length_set] at hp;rw[List.getElem_set] at hxf;split at hxf
   ·exact k3 b o hyf hxf
   ·rename_i hne
    rcases Nat.lt_trichotomy p i with h|h|h
    ·exact hsep p i hp hil h b o hxf (by rw[hie];exact h2 _ _ hyf)
    ·exact hne h.symm
    ·exact hsep i p hil hp h b o (by rw[hie];exact h2 _ _ hyf) hxf
 ·rcases List.mem_append.1 hx with h|h
  ·rcases List.mem_or_eq_of_mem_set h with h|rfl
   ·exact bW (hR.inv.holds x h) (Z:=λ_ _=>False) (Keeps.refl _ _) (λ_ _ _ h=>h) hm
   ·exact bW k1 (Z:=λ_ _=>False) (Keeps.refl _ _) (λ_ _ _ h=>h) hm
  ·simp at h;subst h
   exact bW k2 (Z:=λ_ _=>False) (Keeps.refl _ _) (λ_ _ _ h=>h) hm
theorem bDk[Mode]{env:Nat->AV}{objs:List MO}{i:Nat}{m m1 m2:MO}(ho:objs[i]?=some m1)(hf:∀b o,m.foot b o->m1.foot b o\/m2.foot b o)
  (hh:∀w X,m1.holds w X->m2.holds w X->(∀b o,m2.foot b o->¬m1.foot b o)->m.holds w X):Ent ⟨env,objs++[m2]⟩ ⟨env,objs.set i m⟩:=by
 intro A M w0 n a w hR;have hmi:m1∈objs:=List.mem_of_getElem? ho;have hil:=(List.getElem?_eq_some_iff.1 ho).1;have hie:=(List.getElem?_eq_some_iff.1 ho).2;obtain⟨s1,_,s3⟩:=List.pairwise_append.1 hR.inv.sep;have hsep:=List.pairwise_iff_getElem.1 s1;have hdis:∀x∈objs,∀b o,x.foot b o->¬m2.foot b o:=λx hx b o h h'=>s3 x hx m2 (by simp) b o h h';have k:=hh w _ (hR.inv.holds m1 (List.mem_append.2 (.inl hmi))) (hR.inv.holds m2 (by simp)) λb o h2 h1=>hdis m1 hmi b o h1 h2;refine hR.change (Z:=λ_ _=>False) (Keeps.refl _ _) (λ_ _ h=>h.elim) (λb o _ hx=>?_) ?_ λhm x hx=>?_
 ·obtain⟨x,hx,hxf⟩:=hx
  rcases List.mem_or_eq_of_mem_set hx with h|rfl
  ·exact⟨x,List.mem_append.2 (.inl h),hxf⟩
  ·rcases hf _ _ hxf with h|h
   ·exact⟨m1,List.mem_append.2 (.inl hmi),h⟩
   ·exact⟨m2,by simp,h⟩
 ·refine List.pairwise_iff_getElem.2 λp q hp hq hpq b o hpf hqf=>?_;simp only[List.length_set] at hp hq;simp only[List.getElem_set] at hpf hqf;split at hpf
  ·rename_i hip
   split at hqf
   ·omega
   ·subst hip
    rcases hf _ _ hpf with h|h
    ·exact hsep i q hp hq hpq b o (by rw[hie];exact h) hqf
    ·exact hdis _ (List.getElem_mem hq) b o hqf h
  ·split at hqf
   ·rename_i hiq
    subst hiq
    rcases hf _ _ hqf with h|h
    ·exact hsep p i hp hq hpq b o hpf (by rw[hie];exact h)
    ·exact hdis _ (List.getElem_mem hp) b o hpf h
   ·exact hsep p q hp hq hpq b o hpf hqf
 ·rcases List.mem_or_eq_of_mem_set hx with h|rfl
  ·exact bW (hR.inv.holds x (List.mem_append.2 (.inl h))) (Z:=λ_ _=>False) (Keeps.refl _ _) (λ_ _ _ h=>h) hm
  ·exact bW k (Z:=λ_ _=>False) (Keeps.refl _ _) (λ_ _ _ h=>h) hm
section
variable{env:Nat->AV}{objs:List MO}{i e k j:Nat}{vs:List Value}{rss:List (List (List D))}{v:Value}{rows:List (List D)}
theorem bSi[Mode](ho:objs[i]?=some (.fam e k vs rss))(hv:vs[j]?=some v)(hr:rss[j]?=some rows):
  Ent ⟨env,objs⟩ ⟨env,objs.set i (.fam e k (vs.set j yV) (rss.set j []))++[.arr v e k rows]⟩:=
 bSk ho (λb o ⟨u,hu,hb⟩=>by
  rcases bLh hu hb with h|h
  ·cases h
  ·exact h) (λb o hf=>⟨v,List.mem_of_getElem? hv,hf⟩) λw X h=>by
  obtain⟨h1,h2,h3⟩:=cAy h hv hr;exact⟨h1,h2,λb o hf ⟨u,hu,hb⟩=>h3 b hf u hu hb⟩
theorem bLb[Mode](ho:objs[i]?=some (.fam e k (vs.set j yV) (rss.set j [])))(hj:j<vs.length):Ent ⟨env,objs++[.arr v e k rows]⟩ ⟨env,objs.set i (.fam e k (vs.set j v) (rss.set j rows))⟩:=
 bDk ho (λb o ⟨u,hu,hb⟩=>by
  obtain⟨q,hq,rfl⟩:=List.getElem_of_mem hu;simp only[List.length_set] at hq;rw[List.getElem_set] at hb;split at hb
  ·exact .inr hb
  ·rename_i hne
   refine .inl ⟨vs[q],?_,hb⟩;have:(vs.set j yV)[q]'(by simpa using hq)=vs[q]:=by rw[List.getElem_set_ne hne]
   rw[<-this];exact List.getElem_mem _) λw X h1 h2 h3=>cDj hj h1 h2 λb hb u hu hub=>h3 b 0 hb ⟨u,hu,hub⟩
theorem bVu[Mode](ho:objs[i]?=some (.fam e k vs rss)):Ent ⟨env,objs++[.arr v e k rows]⟩ ⟨env,objs.set i (.fam e k (vs++[v]) (rss++[rows]))⟩:=
 bDk ho (λb o ⟨u,hu,hb⟩=>by
  rcases List.mem_append.1 hu with h|h
  ·exact .inl ⟨u,h,hb⟩
  ·simp at h;subst h;exact .inr hb) λw X h1 h2 h3=>by
  obtain⟨hl,hs,hh⟩:=h1;refine⟨by simp[hl],List.pairwise_append.2 ⟨hs,by simp,λa ha b hb x hx hy=>?_⟩,λq u us hu hus=>?_⟩
  ·simp at hb;subst hb
   exact h3 x 0 hy ⟨a,ha,hx⟩
  ·by_cases hq:q<vs.length
   ·rw[List.getElem?_append_left hq] at hu;rw[List.getElem?_append_left (by omega)] at hus;exact hh q u us hu hus
   ·have hq2:=(List.getElem?_eq_some_iff.1 hu).1
    simp at hq2
    have:q=vs.length:=by omega
    subst this;rw[List.getElem?_append_right (Nat.le_refl _)] at hu;rw[hl,List.getElem?_append_right (Nat.le_refl _)] at hus
    simp at hu hus
    subst hu;subst hus;exact h2
theorem aYj[Mode](e k:Nat):Ent ⟨env,objs⟩ ⟨env,objs++[.fam e k [] []]⟩:=by
 intro A M w0 n a w hR;exact hR.add (w':=w) (m:=.fam e k [] []) (Keeps.refl _ _) (λb o hf=>by obtain⟨v,hv,_⟩:=hf;cases hv)
  (λhm=>⟨rfl,List.Pairwise.nil,λi v rows hv _=>by simp at hv⟩)
end
section
variable{P:Program}{n d:Nat}{st:St}{o:Oper}{f e k j:Nat}{vs:List Value}{rss:List (List (List D))}{v:Value}{rows rows':List (List D)}
theorem bJx[Mode]{env':Nat->AV}(ho:st.objs[f]?=some (.fam e k vs rss))(hv:vs[j]?=some v)(hr:rss[j]?=some rows)
  (h:aM P n o ⟨st.env,st.objs.set f (.fam e k (vs.set j yV) (rss.set j []))++[.arr v e k rows]⟩ ⟨env',st.objs.set f (.fam e k (vs.set j yV) (rss.set j []))++[.arr v e k rows']⟩):
  aM P n o st ⟨env',st.objs.set f (.fam e k vs (rss.set j rows'))⟩:=by
 have hfl:=(List.getElem?_eq_some_iff.1 ho).1;have hj:=(List.getElem?_eq_some_iff.1 hv).1;intro A M w0 a w hR K Q hK;refine h A M w0 a w (bSi ho hv hr A M w0 n a w hR) K Q ?_;rintro s a' w' rfl hR';refine hK _ _ _ rfl ?_;have:=bLb (env:=env') (objs:=st.objs.set f (.fam e k (vs.set j yV) (rss.set j []))) (i:=f) (v:=v) (rows:=rows') (List.getElem?_set_self hfl) hj A M w0 n a' w' hR';have hvs:vs.set j v=vs:=by
  have:=(List.getElem?_eq_some_iff.1 hv).2;rw[<-this,List.set_getElem_self]
 simpa only[List.set_set,hvs] using this
theorem bEo[Mode]{env':Nat->AV}(ho:st.objs[f]?=some (.fam e k vs rss))(hv:vs[j]?=some v)(hr:rss[j]?=some rows)
  (h:aM P n o ⟨st.env,st.objs.set f (.fam e k (vs.set j yV) (rss.set j []))++[.arr v e k rows]⟩ ⟨env',st.objs.set f (.fam e k (vs.set j yV) (rss.set j []))++[.arr v e k rows]⟩):
  aM P n o st ⟨env',st.objs⟩:=by
 have h1:=bJx ho hv hr h;have e1:rss.set j rows=rss:=by
  have:=(List.getElem?_eq_some_iff.1 hr).2;rw[<-this,List.set_getElem_self]
 have e2:st.objs.set f (.fam e k vs rss)=st.objs:=by
  have:=(List.getElem?_eq_some_iff.1 ho).2;rw[<-this];simp
 rwa[e1,e2] at h1
theorem aLz{α β:Type}{c:List α}{q:Int}{row:α}(h:idx c q=some row)(g:α->β):(c.map g)[q.toNat]?=some (g row):=(aBm (dM g h)).2.2
theorem aWc{l:List MO}{i:Nat}{m x:MO}:(l.set i m++[x])[l.length]?=some x:=by simp
theorem bLr[Mode]{α:Type}{x y:Operand}{t e0 m:Nat}{v0:Value}{g:α->List D}{c:List (List α)}{row:List α}{kd:IntKind}{p:Int}{ty:TypeId}{pos:String}{af:Array Edge}{gd:Option (Nat×Bool)}(hd:d<n)
  (hx:st.eval x=.d (.lit v0))(ho:st.objs[m]?=some (.arr v0 e0 1 (vs.map λv=>[.lit v])))(hf:st.objs[f]?=some (.fam e k vs (c.map λr=>r.map g)))(hy:st.eval y=.d (.lit (.int kd p)))(ht:kB P t e0 1)(hp:idx c p=some row):
  Step P n ⟨some d,.indexAddr t x y,ty,pos,af,gd⟩ st (λs=>∃v,vs[p.toNat]?=some v/\s=st.set d (.ep v0 1 p.toNat 0)):=by
 intro A M w0 a w hR K Q hK;obtain⟨hl,_⟩:=hR.inv.holds _ (List.mem_of_getElem? hf);obtain⟨h0,h1,h2⟩:=aBm hp;have hlt:p.toNat<vs.length:=by simp at hl;omega
 refine tY (ds:=[.lit vs[p.toNat]]) hd hx ho hy ht ?_ A M w0 a w hR K Q λs a' w' hs hR'=>hK s a' w' ⟨vs[p.toNat],List.getElem?_eq_getElem hlt,hs⟩ hR';unfold idx
 simp[h0,hlt]
theorem bQp[Mode]{x:Operand}{t e0 m:Nat}{v0:Value}{p:Nat}{ty:TypeId}{pos:String}{af:Array Edge}{gd:Option (Nat×Bool)}(hd:d<n)
  (hx:st.eval x=.ep v0 1 p 0)(ho:st.objs[m]?=some (.arr v0 e0 1 (vs.map λv=>[.lit v])))(hv:vs[p]?=some v)(ht:fZ P t):aM P n ⟨some d,.load t x,ty,pos,af,gd⟩ st (st.set d (.d (.lit v))):=
 zG (ds:=[.lit v]) hd hx ho (by simp[hv]) rfl ht
theorem bQo[Mode]{α:Type}{x y:Operand}{t:Nat}{g:α->List D}{c:List (List α)}{row:List α}{a:α}{kd:IntKind}{q p:Int}{ty:TypeId}{pos:String}{af:Array Edge}{gd:Option (Nat×Bool)}(hd:d<n)
  (hx:st.eval x=.d (.lit v))(hf:st.objs[f]?=some (.fam e k vs (c.map λr=>r.map g)))(hv:vs[q.toNat]?=some v)(hq:idx c q=some row)(hy:st.eval y=.d (.lit (.int kd p)))(ht:kB P t e k)(hp:idx row p=some a):
  aM P n ⟨some d,.indexAddr t x y,ty,pos,af,gd⟩ st (st.set d (.ep v k p.toNat 0)):=
 bEo (rows:=row.map g) hf hv (aLz hq _) (tY (m:=st.objs.length) (ds:=g a) hd hx aWc hy ht (dM g hp))
theorem bUn[Mode]{α:Type}{x:Operand}{t:Nat}{g:α->List D}{c:List (List α)}{row:List α}{a:α}{q p:Int}{j:Nat}{d0:D}{ty:TypeId}{pos:String}{af:Array Edge}{gd:Option (Nat×Bool)}(hd:d<n)
  (hx:st.eval x=.ep v k p.toNat j)(hf:st.objs[f]?=some (.fam e k vs (c.map λr=>r.map g)))(hv:vs[q.toNat]?=some v)(hq:idx c q=some row)(hp:idx row p=some a)(hj:(g a)[j]?=some d0)(ht:fZ P t):
  aM P n ⟨some d,.load t x,ty,pos,af,gd⟩ st (st.set d (.d d0)):=
 bEo (rows:=row.map g) hf hv (aLz hq _) (zG (m:=st.objs.length) (ds:=g a) hd hx aWc (aLz hp _) hj ht)
theorem aSz[Mode]{α:Type}{x y:Operand}{t e0 m bytes:Nat}{v0 z:Value}{g:α->List D}{c c':List (List α)}{row:List α}{ty:TypeId}{pos:String}{af:Array Edge}{gd:Option (Nat×Bool)}(hd:d<n)(ht:SliceTy P t e0 1 bytes z)
  (hx:st.eval x=.d (.lit v0))(ho:st.objs[m]?=some (.arr v0 e0 1 (vs.map λv=>[.lit v])))(hf:st.objs[f]?=some (.fam e k vs (c.map λr=>r.map g)))(hy:st.eval y=.d (.sl 1 [[.lit v]]))(hb:app bytes c [row]=some c')(hby:Nat.blt 0 bytes=true):
  Step P n ⟨some d,.call {callee:=.builtin .append,args:= #[x,y],argTypes:= #[t,t]},ty,pos,af,gd⟩ st (λs=>∃v',s=⟨upd st.env d (.d (.lit v')),st.objs.set m (.arr v' e0 1 ((vs++[v]).map λv=>[.lit v]))⟩):=by
 intro A M w0 a w hR K Q hK;obtain⟨hl,_⟩:=hR.inv.holds _ (List.mem_of_getElem? hf);have hl2:vs.length=c.length:=by simpa using hl
 have hb2:app bytes vs [v]=some (vs++[v]):=by
  unfold app at hb|-;split at hb
  ·rename_i hc
   rw[if_pos (by rw[hl2];exact hc)]
  ·cases hb
 exact kI (f:=λv=>[D.lit v]) (xs:=vs) (ys:=[v]) hd ht hx ho hy (λ_=>rfl) hb2 hby A M w0 a w hR K Q hK
theorem bQs[Mode]{α:Type}{x y:Operand}{t m:Nat}{g:α->List D}{c c':List (List α)}{row:List α}{a a':α}{q p:Int}{j:Nat}{es:List D}{u:AV}{ty:TypeId}{pos:String}{af:Array Edge}{gd:Option (Nat×Bool)}
  (hx:st.eval x=.ep v k p.toNat j)(hf:st.objs[f]?=some (.fam e k vs (c.map λr=>r.map g)))(hv:vs[q.toNat]?=some v)(hq:idx c q=some row)(hp:idx row p=some a)(hy:st.eval y=u)(hk:cD y=true)(hu:u.cells=some es)(ht:∀w,(sizeOf t).run P w=.ok m w)
  (hm:es.length=m)(hm0:0<m)(hj:j+es.length<=(g a).length)(hpa:fU (g a) j es=g a')(hc:c.set q.toNat (row.set p.toNat a')=c'):
  aM P n ⟨none,.store t x y,ty,pos,af,gd⟩ st ⟨st.env,st.objs.set f (.fam e k vs (c'.map λr=>r.map g))⟩:=by
 have e1:(c'.map λr=>r.map g)=(c.map λr=>r.map g).set q.toNat ((row.set p.toNat a').map g):=by rw[<-hc,List.map_set]
 have hpr:(row.map g)[p.toNat]?=some (g a):=aLz hp _;rw[e1];refine bJx (rows:=row.map g) (env':=st.env) hf hv (aLz hq _) ?_;have:=aPi (P:=P) (n:=n) (st:=⟨st.env,st.objs.set f (.fam e k (vs.set q.toNat yV) ((c.map λr=>r.map g).set q.toNat []))++[.arr v e k (row.map g)]⟩) (l:=st.objs.length) (rows':=(row.set p.toNat a').map g) (ty:=ty) (pos:=pos) (af:=af) (gd:=gd)
  hx aWc hpr hy hk hu ht hm hm0 hj (by rw[hpa,List.map_set])
 have e2:∀(L:List MO) (x y:MO),(L++[x]).set L.length y=L++[y]:=by
  intro L x y;rw[List.set_append_right _ _ (Nat.le_refl _)]
  simp
 have e3:=e2 (st.objs.set f (MO.fam e k (vs.set q.toNat yV) ((c.map λr=>r.map g).set q.toNat []))) (.arr v e k (row.map g)) (.arr v e k ((row.set p.toNat a').map g));rw[List.length_set] at e3;simp only[St.put1,e3] at this;exact this
end
end Go.Am
end
end
section
section
namespace Go.Am
def cQ{α:Type}(l:List α)(bs seen:List Nat):List α:=((l.zip bs).filter λq=>!seen.contains q.2).map (·.1)
theorem bDt{α:Type}{l:List α}{bs:List Nat}(h:bs.length=l.length):cQ l bs []=l:=by
 unfold cQ;have:(l.zip bs).filter (λq=>!([]:List Nat).contains q.2)=l.zip bs:=by rw[List.filter_eq_self];intro q _;simp
 rw[this,List.map_fst_zip (by omega)]
theorem aCz{α:Type}:∀{l:List α} {bs seen:List Nat} {j b:Nat} {p:α},bs.Pairwise (·<·)->l[j]?=some p->bs[j]?=some b->b∉seen->
  ∃i,(cQ l bs seen)[i]?=some p/\cQ l bs (seen++[b])=(cQ l bs seen).eraseIdx i
 |[],_,_,j,_,_,_,h,_,_=>by simp at h
 |_::_,[],_,j,_,_,_,_,h,_=>by simp at h
 | a ::l,c::bs,seen,0,b,p,hp,hl,hb,hs=>by
  simp at hl hb
  subst hl;subst hb;rw[List.pairwise_cons] at hp;refine⟨0,?_,?_⟩
  ·simp[cQ,hs]
  ·have e1:∀q∈l.zip bs,(!(seen++[c]).contains q.2)=!seen.contains q.2:=by
    intro q hq;have:=hp.1 q.2 (List.of_mem_zip hq).2;have hne:q.2≠c:=by omega
    simp[hne]
   simp only[cQ,List.zip_cons_cons,List.filter_cons];rw[List.filter_congr e1]
   simp[hs]
 | a::l,c::bs,seen,j+1,b,p,hp,hl,hb,hs=>by
  rw[List.pairwise_cons] at hp
  simp at hl hb
  obtain⟨i,h1,h2⟩:=aCz (seen:=seen) hp.2 hl hb hs;have hcb:c≠b:=by
   have:=hp.1 b (List.mem_of_getElem? hb)
   omega
  have ec:(seen++[b]).contains c=seen.contains c:=by simp[hcb]
  have cons:∀s:List Nat,cQ (a::l) (c::bs) s=bif s.contains c then cQ l bs s else a::cQ l bs s:=by
   intro s;unfold cQ;rw[List.zip_cons_cons,List.filter_cons];cases s.contains c<;>rfl
  rw[cons seen,cons (seen++[b]),ec];cases seen.contains c with
  |true=>exact⟨i,h1,h2⟩
  |false=>exact⟨i+1,by simpa using h1,by simp[h2]⟩
def bIj{α:Type}(left:List α)(A:Prop)(B:α->List α->Prop):Prop:=(left=[]->A)/\∀i p,left[i]?=some p->B p (left.eraseIdx i)
def aMd{α:Type}(l:List α)(f:List α->Prop):Prop:=f l
theorem aSh{α:Type}{l:List α}{bs:List Nat}{f:List α->Prop}(h:aMd l f)(hl:cQ l bs []=l):f (cQ l bs []):=by rw[hl];exact h
theorem aUx{α:Type}{l:List α}{bs seen:List Nat}{j b:Nat}{p:α}{A:Prop}{B:α->List α->Prop}(h:bIj (cQ l bs seen) A B)(hp:bs.Pairwise (·<·)/\l[j]?=some p/\bs[j]?=some b/\b∉seen):B p (cQ l bs (seen++[b])):=by
 obtain⟨i,h1,h2⟩:=aCz hp.1 hp.2.1 hp.2.2.1 hp.2.2.2;rw[h2];exact h.2 i p h1
theorem MRs.len{w:World}{X:aS}{es:List (Value×AV)}{ms:List MapEntry}(h:MRs w X es ms):ms.length=es.length:=by
 have:=congrArg List.length h.keys
 simpa using this
section
variable{P:Program}{n d:Nat}{st:St}
theorem bNi[Mode]{t kt et:TypeId}{α:Type}{l:List α}{f:α->Value×AV}{x:Operand}{r m:Nat}{bs:List Nat}{ck:Nat}{ty:TypeId}{pos:String}{af:Array Edge}{gd:Option (Nat×Bool)}(hd:d<n)
  (ht:P.underlying t=some (.map kt et))(hx:st.eval x=.d (.lit (.map (some r))))(ho:st.objs[m]?=some (.map r (l.map f) bs ck)):
  Step P n ⟨some d,.range t x,ty,pos,af,gd⟩ st (λs=>∃q,cQ l bs []=l/\s=⟨upd st.env d (.d (.lit (.pointer (some ⟨q,0,none⟩)))),st.objs++[.iter q r ck [] ck]⟩):=by
 intro A M w0 ac w hR K Q hK;obtain⟨ms,hh,hms,hb1,hb2,hb3⟩:=hR.inv.holds _ (List.mem_of_getElem? ho);have hrun:(execOp ac.eval ⟨some d,.range t x,ty,pos,af,gd⟩).run P w=.ok (.value (.pointer (some ⟨w.heap.size,0,none⟩))) (w.alloc (.mapIter (some r) ck #[] ck)):=by
  simp[execOp,hR.lit hx,Instr.range,run_underlying ht,eS hh]
 have hlen:bs.length=l.length:=by rw[<-hb1,List.length_map,hms.len,List.length_map]
 unfold Oper.wp;rw[hrun,Oper.upon_value];refine hK _ _ _ ⟨w.heap.size,bDt hlen,rfl⟩ ?_;have hR':=hR.add (w':=w.alloc (.mapIter (some r) ck #[] ck)) (m:=.iter w.heap.size r ck [] ck) (Keeps.alloc _ _ _) (λb o hf=>by simp[MO.foot] at hf;omega) (λhm=>by
  show(w.alloc (.mapIter (some r) ck #[] ck)).heap[w.heap.size]?=_;exact heap_alloc_new w _)
 exact hR'.put (o:=⟨some d,.range t x,ty,pos,af,gd⟩) rfl hd (.of_lit rfl)
theorem bHu[Mode]{A M:aS}{w0:W0}{a:Act}{w w1:World}{mi r m ck b:Nat}{seen:List Nat}(hR:R A M w0 n st a w)(ho:st.objs[mi]?=some (.iter r m ck seen ck))(hw:w1=w\/w1=w.drew):
  R A M w0 n ⟨st.env,st.objs.set mi (.iter r m ck (seen++[b]) ck)⟩ a (ChangeMaps.setBlock w1 r (.mapIter (some m) ck (seen.toArray.push b) ck)):=by
 have hh:w.heap[r]?=some (.mapIter (some m) ck seen.toArray ck):=hR.inv.holds _ (List.mem_of_getElem? ho);have hrl:r<w.heap.size:=(Array.getElem?_eq_some_iff.1 hh).1;have hk:Keeps (λb _=>b=r) w (ChangeMaps.setBlock w1 r (.mapIter (some m) ck (seen.toArray.push b) ck)):=by
  rcases hw with rfl|rfl
  ·exact Keeps.setObj _ _ _
  ·exact(Keeps.drew _ _).trans (Keeps.setObj w.drew _ _)
 refine hR.replace (m':=.iter r m ck (seen++[b]) ck) ho hk (λb o hb=>by subst hb;rfl) (λb o hf=>.inl hf) λhm=>?_;show(ChangeMaps.setBlock w1 r (.mapIter (some m) ck (seen.toArray.push b) ck)).heap[r]?=_;have hrl1:r<w1.heap.size:=by rcases hw with rfl|rfl<;>exact hrl
 simp[ChangeMaps.setBlock,hrl1]
theorem bUs[Mode]{α β:Type}{kv:α->Value}{av:β->AV}{l:List (α×β)}{x:Operand}{q r mi mm:Nat}{bs seen:List Nat}{ck:Nat}{ty:TypeId}{pos:String}{af:Array Edge}{gd:Option (Nat×Bool)}(hd:d<n)
  (hx:st.eval x=.d (.lit (.pointer (some ⟨q,0,none⟩))))(hi:st.objs[mi]?=some (.iter q r ck seen ck))(ho:st.objs[mm]?=some (.map r (l.map λp=>(kv p.1,av p.2)) bs ck)):
  Step P n ⟨some d,.next x false,ty,pos,af,gd⟩ st (λs=>(cQ l bs seen=[]/\s=st.set d (.tup [.d (.lit (.bool false))]))\/
   ∃(j b:Nat) (p:α×β),(bs.Pairwise (·<·)/\l[j]?=some p/\bs[j]?=some b/\b∉seen)/\s=⟨upd st.env d (.tup [.d (.lit (.bool true)),.any,.any]),st.objs.set mi (.iter q r ck (seen++[b]) ck)⟩):=by
 intro A M w0 ac w hR K Q hK;obtain⟨ms,hh,hms,hb1,hb2,hb3⟩:=hR.inv.holds _ (List.mem_of_getElem? ho);have hq:w.heap[q]?=some (.mapIter (some r) ck seen.toArray ck):=hR.inv.holds _ (List.mem_of_getElem? hi);have hlen:bs.length=l.length:=by rw[<-hb1,List.length_map,hms.len,List.length_map]
 have hbj:∀j (hj:j<ms.toList.length),bs[j]?=some ms.toList[j].born:=by intro j hj;rw[<-hb1,List.getElem?_map,List.getElem?_eq_getElem hj];rfl
 rcases run_next_at (P:=P) w ty q r ck ck seen.toArray ms ck hq hh (λe he=>hb3 _ (by rw[<-hb1];exact List.mem_map_of_mem he)) (Nat.le_refl _) with⟨h0,hrun⟩|⟨e,he,w1,hw1,hrun⟩
 ·unfold Oper.wp;have hrun':(execOp ac.eval ⟨some d,.next x false,ty,pos,af,gd⟩).run P w=.ok (.value (.tuple #[.bool false])) w:=by
   simp[execOp,hR.lit hx,hrun]
  rw[hrun',Oper.upon_value];refine hK _ _ _ (.inl ⟨?_,rfl⟩) (hR.put (o:=⟨some d,.next x false,ty,pos,af,gd⟩) rfl hd (.tup (us:=[_]) rfl λi hi=>by
   match i,hi with
   |0,_=>exact .d (.lit _ rfl)))
  unfold cQ;rw[List.map_eq_nil_iff,List.filter_eq_nil_iff];intro z hz;have hz2:=(List.of_mem_zip hz).2;rw[<-hb1] at hz2;obtain⟨e,he,hez⟩:=List.mem_map.1 hz2;have h1:leftOf ms seen.toArray= #[]:=Array.eq_empty_of_size_eq_zero h0;have h2:e∉(leftOf ms seen.toArray):=by rw[h1];simp
  simp only[leftOf,Array.mem_filter,not_and] at h2;have:=h2 (by simpa using he)
  simp at this
  simp[<-hez,this]
 ·unfold Oper.wp;have hrun':(execOp ac.eval ⟨some d,.next x false,ty,pos,af,gd⟩).run P w=.ok (.value (.tuple #[.bool true,e.key,e.val])) (ChangeMaps.setBlock w1 q (.mapIter (some r) ck (seen.toArray.push e.born) ck)):=by
   simp[execOp,hR.lit hx,hrun]
  rw[hrun',Oper.upon_value];obtain⟨hem,hes⟩:=mem_left he;obtain⟨j,hj,rfl⟩:=List.getElem_of_mem hem;have hjl:j<l.length:=by rw[<-hlen,<-hb1];simpa using hj
  refine hK _ _ _ (.inr ⟨j,ms.toList[j].born,l[j],⟨hb2,List.getElem?_eq_getElem hjl,hbj j hj,by simpa using hes⟩,rfl⟩) ?_;exact(bHu hR hi hw1).put (o:=⟨some d,.next x false,ty,pos,af,gd⟩) rfl hd (.tup (us:=[_,_,_]) rfl λi hi=>by
   match i,hi with
   |0,_=>exact .d (.lit _ rfl)
   |1,_=>exact .any _
   |2,_=>exact .any _)
theorem bNh[Mode]{α β:Type}{kv:α->Value}{av:β->AV}{l:List (α×β)}{x:Operand}{q r mi mm j b:Nat}{p:α×β}{bs seen:List Nat}{ck:Nat}{ka:AV}{ty:TypeId}{pos:String}{af:Array Edge}{gd:Option (Nat×Bool)}(hd:d<n)
  (hx:st.eval x=.d (.lit (.pointer (some ⟨q,0,none⟩))))(hi:st.objs[mi]?=some (.iter q r ck (seen++[b]) ck))(ho:st.objs[mm]?=some (.map r (l.map λp=>(kv p.1,av p.2)) bs ck))
  (hp:bs.Pairwise (·<·)/\l[j]?=some p/\bs[j]?=some b/\b∉seen)(hk:∀w X,VR w X ka (kv p.1)):
  aM P n ⟨some d,.entry x,ty,pos,af,gd⟩ st (st.set d (.tup [ka,av p.2])):=
 bZ rfl hd λA M w0 ac w hR=>by
  obtain⟨ms,hh,hms,hb1,hb2,hb3⟩:=hR.inv.holds _ (List.mem_of_getElem? ho);have hq:w.heap[q]?=some (.mapIter (some r) ck (seen++[b]).toArray ck):=hR.inv.holds _ (List.mem_of_getElem? hi);obtain⟨e,he,hv⟩:=hms.get (j:=j) (e:=(kv p.1,av p.2)) (by simp[hp.2.1]);have hborn:e.born=b:=by
   have:=hp.2.2.1;rw[<-hb1] at this;simp only[List.getElem?_map,he,Option.map_some,Option.some.injEq] at this;exact this
  have hkey:e.key=kv p.1:=by
   have:=congrArg (λz=>z[j]?) hms.keys;simp only[List.getElem?_map,he,hp.2.1,Option.map_some,Option.some.injEq] at this;exact this
  have hq2:w.heap[q]?=some (.mapIter (some r) ck (seen.toArray.push e.born) ck):=by rw[hq,hborn];simp
  have hrun:=run_entry_at (P:=P) w q r ck seen.toArray ms ck e hq2 hh (List.mem_of_getElem? he) (by rw[hb1];exact hb2.imp λh=>Nat.ne_of_lt h);refine⟨.tuple #[e.key,e.val],by simp[execOp,hR.lit hx,hrun],.tup (us:=[_,_]) rfl λi hi=>by
   match i,hi with
   |0,_=>exact hkey▸hk _ _
   |1,_=>exact hv⟩
theorem bJj[Mode]{t kt et:TypeId}{α:Type}{l:List α}{f:α->Value×AV}{x:Operand}{r m:Nat}{bs:List Nat}{ck:Nat}{ty:TypeId}{pos:String}{af:Array Edge}{gd:Option (Nat×Bool)}(hd:d<n)
  (ht:P.underlying t=some (.map kt et))(hx:st.eval x=.d (.lit (.map (some r))))(ho:st.objs[m]?=some (.map r (l.map f) bs ck)):
  aM P n ⟨some d,.call {callee:=.builtin .len,args:= #[x],argTypes:= #[t]},ty,pos,af,gd⟩ st (st.set d (.i l.length)):=
 bZ rfl hd λA M w0 ac w hR=>by
  obtain⟨ms,hh,hms,_⟩:=hR.inv.holds _ (List.mem_of_getElem? ho);have:ms.size=l.length:=by have:=hms.len;simpa using this
  refine⟨.int .i64 l.length,?_,.d (.lit _ rfl)⟩
  simp[execOp,resolve,hR.lit hx,invoke,builtin,Builtin.len_,run_underlying ht,eS hh,goInt,this]
theorem aIa[Mode]{t kt et:TypeId}{α β:Type}[DecidableEq α]{kv:α->Value}{av:β->AV}{l:List (α×β)}{z:β}{zv:Value}{a:α}{x y:Operand}{r m:Nat}{bs:List Nat}{clock:Nat}{ty:TypeId}{pos:String}{af:Array Edge}{gd:Option (Nat×Bool)}(hd:d<n)
  (hk:mX P kt kv)(ht:P.underlying t=some (.map kt et))(hz:∀w,(zeroValue et).run P w=.ok zv w)(hzv:∀w X,VR w X (av z) zv)
  (hx:st.eval x=.d (.lit (.map (some r))))(ho:st.objs[m]?=some (.map r (l.map λp=>(kv p.1,av p.2)) bs clock))(hyk:cD y=true){yv:AV}(hyv:st.eval y=yv)(hy:uB kv yv a):
  aM P n ⟨some d,.lookup t x y true,ty,pos,af,gd⟩ st (st.set d (.tup [av (cE a z l),.d (.lit (.bool (cI a l)))])):=
 bZ rfl hd λA M w0 ac w hR=>by
  obtain⟨ms,hh,hms,_⟩:=hR.inv.holds _ (List.mem_of_getElem? ho);have hkey:=hy _ _ _ (hyv▸hR.eval' hyk);have hkeys:ms.toList.map (·.key)=(l.map (·.1)).map kv:=by rw[hms.keys];simp
  have hf:=hk.find a (l.map (·.1)) ms.toList w hkeys
  rcases vN a z l with⟨h1,h2⟩|⟨j,p,h1,h2,h3,h4⟩
  ·have hhas:cI a l=false:=by rw[pN,h1];rfl
   refine⟨.tuple #[zv,.bool false],?_,.tup (us:=[_,_]) rfl λi hi=>by
    match i,hi with
    |0,_=>rw[h2];exact hzv _ _
    |1,_=>rw[hhas];exact .d (.lit _ rfl)⟩
   simp[execOp,hR.lit hx,hkey,Instr.lookup,run_underlying ht,eS hh,hk.chk,hf,h1,hz]
  ·have hhas:cI a l=true:=by rw[pN,h1];rfl
   obtain⟨e,he,hv⟩:=hms.get (j:=j) (e:=(kv p.1,av p.2)) (by simp[h2]);refine⟨.tuple #[e.val,.bool true],?_,.tup (us:=[_,_]) rfl λi hi=>by
    match i,hi with
    |0,_=>rw[h3];exact hv
    |1,_=>rw[hhas];exact .d (.lit _ rfl)⟩
   simp only[Array.getElem?_toList] at he
   simp[execOp,hR.lit hx,hkey,Instr.lookup,run_underlying ht,eS hh,hk.chk,hf,h1,he]
theorem aOh{α β:Type}[DecidableEq α](a:α)(v:β):∀(l:List (α×β)),cI a l=false->eM a v l=l++[(a,v)]
 |[],_=>rfl
 | (b,u)::l,h=>by
  simp only[cI,Bool.or_eq_false_iff,decide_eq_false_iff_not] at h
  simp[eM,h.1,aOh a v l h.2]
theorem aAn[Mode]{t kt et:TypeId}{α β:Type}[DecidableEq α]{kv:α->Value}{av:β->AV}{l:List (α×β)}{v:β}{a:α}{x y q:Operand}{r m:Nat}{bs:List Nat}{clock:Nat}{ty:TypeId}{pos:String}{af:Array Edge}{gd:Option (Nat×Bool)}
  (hk:mX P kt kv)(ht:P.underlying t=some (.map kt et))
  (hx:st.eval x=.d (.lit (.map (some r))))(ho:st.objs[m]?=some (.map r (l.map λp=>(kv p.1,av p.2)) bs clock))(hyk:cD y=true){yv:AV}(hyv:st.eval y=yv)(hy:uB kv yv a)(hqk:cD q=true)(hq:st.eval q=av v):
  aM P n ⟨none,.mapUpdate t x y q,ty,pos,af,gd⟩ st ⟨st.env,st.objs.set m (.map r ((eM a v l).map λp=>(kv p.1,av p.2)) (mbs a l bs clock) (mck a l clock))⟩:=by
 intro A M w0 ac w hR K Q hK;obtain⟨ms,hh,hms,hb1,hb2,hb3⟩:=hR.inv.holds _ (List.mem_of_getElem? ho);have hkey:=hy _ _ _ (hyv▸hR.eval' hyk);have hv:=hR.eval' hqk;rw[hq] at hv;have hkeys:ms.toList.map (·.key)=(l.map (·.1)).map kv:=by rw[hms.keys];simp
 have hf:=hk.find a (l.map (·.1)) ms.toList w hkeys;have hrl:r<w.heap.size:=(Array.getElem?_eq_some_iff.1 hh).1;unfold Oper.wp
 rcases vN a v l with⟨h1,h2⟩|⟨j,p,h1,h2,h3,h4⟩
 ·have hhas:cI a l=false:=by rw[pN,h1];rfl
  have hrun:(execOp ac.eval ⟨none,.mapUpdate t x y q,ty,pos,af,gd⟩).run P w=.ok .skip {w with heap:=w.heap.setIfInBounds r (.map (ms.push {key:=kv a,val:=ac.eval q,born:=clock}) (clock+1))}:=by
   simp[execOp,hR.lit hx,hkey,Instr.mapUpdate,run_underlying ht,eS hh,hk.chk,hf,h1,qM _ hh]
  rw [hrun,Oper.upon_skip];refine hK _ _ _ rfl ?_;have hR':=hR.replace (w':={w with heap:=w.heap.setIfInBounds r (.map (ms.push {key:=kv a,val:=ac.eval q,born:=clock}) (clock+1))}) (m':=.map r ((eM a v l).map λp=>(kv p.1,av p.2)) (mbs a l bs clock) (mck a l clock)) ho
   (Keeps.setObj w r _) (λb o hb=>by subst hb;rfl) (λb o hf=>.inl hf) λhmono=>by
    refine⟨ms.push {key:=kv a,val:=ac.eval q,born:=clock},?_,?_,?_,?_,?_⟩
    ·simp[hrl,mck,hhas]
    ·have hm2:=hms.mono hmono;have hv2:=hv.mono hmono
     revert hm2 hv2
     generalize aT A (st.objs.set m (.map r ((eM a v l).map λp=>(kv p.1,av p.2)) (mbs a l bs clock) (mck a l clock)))=Z
     intro hm2 hv2;rw[aOh a v l hhas];simp only[List.map_append,Array.toList_push];exact MRs.snoc hm2 rfl hv2
    ·simp[mbs,hhas,hb1]
    ·simp only[mbs,hhas,cond_false];exact List.pairwise_append.2 ⟨hb2,by simp,λx hx y hy=>by simp at hy;subst hy;exact hb3 x hx⟩
    ·simp only[mbs,hhas,cond_false,mck];intro b hb
     rcases List.mem_append.1 hb with h|h
     ·have:=hb3 b h;omega
     ·simp at h;omega
  exact hR'.put_none rfl
 ·have hhas:cI a l=true:=by rw[pN,h1];rfl
  obtain⟨e,he,_⟩:=hms.get (j:=j) (e:=(kv p.1,av p.2)) (by simp[h2]);have he':ms[j]?=some e:=by simpa using he
  have hke:e.key=kv a:=by
   have:=congrArg (λq=>q[j]?) hkeys
   simp[he',h2,h4] at this
   exact this
  have hmod:ms.modify j (λe=>{e with key:=kv a,val:=ac.eval q})=ms.modify j (λe=>{e with val:=ac.eval q}):=by
   apply Array.ext_getElem?;intro i;rw[Array.getElem?_modify,Array.getElem?_modify]
   split
   ·rename_i hq;subst hq;rw[he'];simp[<-hke]
   ·rfl
  have hrun:(execOp ac.eval ⟨none,.mapUpdate t x y q,ty,pos,af,gd⟩).run P w=.ok .skip {w with heap:=w.heap.setIfInBounds r (.map (ms.modify j λe=>{e with val:=ac.eval q}) clock)}:=by
   simp[execOp,hR.lit hx,hkey,Instr.mapUpdate,run_underlying ht,eS hh,hk.chk,hf,h1,he',hke,hk.stays,hmod,qM _ hh]
  rw [hrun,Oper.upon_skip];refine hK _ _ _ rfl ?_;have hR':=hR.replace (w':={w with heap:=w.heap.setIfInBounds r (.map (ms.modify j λe=>{e with val:=ac.eval q}) clock)}) (m':=.map r ((eM a v l).map λp=>(kv p.1,av p.2)) (mbs a l bs clock) (mck a l clock)) ho
   (Keeps.setObj w r _) (λb o hb=>by subst hb;rfl) (λb o hf=>.inl hf) λhmono=>by
    refine⟨ms.modify j λe=>{e with val:=ac.eval q},by simp[hrl,mck,hhas],?_,?_,by simpa[mbs,hhas] using hb2,by simpa[mbs,mck,hhas] using hb3⟩
    ·have hm2:=hms.mono hmono;have hv2:=hv.mono hmono
     revert hm2 hv2
     generalize aT A (st.objs.set m (.map r ((eM a v l).map λp=>(kv p.1,av p.2)) (mbs a l bs clock) (mck a l clock)))=Z
     intro hm2 hv2;rw[bBv a v l j h1,List.map_set,Array.toList_modify];exact MRs.set hm2 (by simp[h2,h4]) hv2
    ·simp only[mbs,hhas,cond_true];rw[<-hb1,Array.toList_modify];apply List.ext_getElem?;intro i;simp only[List.getElem?_map,List.getElem?_modify];cases ms.toList[i]? with
     |none=>simp
     |some e=>simp;split<;>rfl
  exact hR'.put_none rfl
def tU{α β:Type}[DecidableEq α](a:α)(l:List (α×β)):List (α×β):=match eW a (l.map (·.1)) with|some j=>l.eraseIdx j|none=>l
def aLc{α β:Type}[DecidableEq α](a:α)(l:List (α×β))(bs:List Nat):List Nat:=match eW a (l.map (·.1)) with|some j=>bs.eraseIdx j|none=>bs
theorem MRs.erase{w:World}{X:aS}:∀{es:List (Value×AV)} {ms:List MapEntry} (j:Nat),MRs w X es ms->MRs w X (es.eraseIdx j) (ms.eraseIdx j)
 |[],[],_,h=>by simpa using h
 |(_,_)::_,_::_,0,h=>h.2.2
 |(_,_)::_,_::_,j+1,h=>⟨h.1,h.2.1,MRs.erase j h.2.2⟩
theorem aGw{α β:Type}(f:α->β):∀(l:List α) (j:Nat),(l.map f).eraseIdx j=(l.eraseIdx j).map f
 |[],_=>rfl
 |_::_,0=>rfl
 |_::l,j+1=>by simp[aGw f l j]
theorem bXq[Mode]{t kt kt' et:TypeId}{α β:Type}[DecidableEq α]{kv:α->Value}{av:β->AV}{l:List (α×β)}{a:α}{x y:Operand}{r m:Nat}{bs:List Nat}{clock:Nat}{ty:TypeId}{pos:String}{af:Array Edge}{gd:Option (Nat×Bool)}
  (hk:mX P kt kv)(ht:P.underlying t=some (.map kt et))
  (hx:st.eval x=.d (.lit (.map (some r))))(ho:st.objs[m]?=some (.map r (l.map λp=>(kv p.1,av p.2)) bs clock))(hyk:cD y=true){yv:AV}(hyv:st.eval y=yv)(hy:uB kv yv a):
  aM P n ⟨none,.call {callee:=.builtin .delete,args:= #[x,y],argTypes:= #[t,kt']},ty,pos,af,gd⟩ st ⟨st.env,st.objs.set m (.map r ((tU a l).map λp=>(kv p.1,av p.2)) (aLc a l bs) clock)⟩:=by
 intro A M w0 ac w hR K Q hK;obtain⟨ms,hh,hms,hb1,hb2,hb3⟩:=hR.inv.holds _ (List.mem_of_getElem? ho);have hkey:=hy _ _ _ (hyv▸hR.eval' hyk);have hkeys:ms.toList.map (·.key)=(l.map (·.1)).map kv:=by rw[hms.keys];simp
 have hf:=hk.find a (l.map (·.1)) ms.toList w hkeys;have hrl:r<w.heap.size:=(Array.getElem?_eq_some_iff.1 hh).1;unfold Oper.wp;cases h1:eW a (l.map (·.1)) with
 | none=>
  have hset:w.heap.setIfInBounds r (.map ms clock)=w.heap:=by
   apply Array.ext_getElem?;intro q;rw[Array.getElem?_setIfInBounds]
   split
   ·rename_i hq;cases hq;rw[hh]
   ·rfl
  have hrun:(execOp ac.eval ⟨none,.call {callee:=.builtin .delete,args:= #[x,y],argTypes:= #[t,kt']},ty,pos,af,gd⟩).run P w=.ok (.value (.tuple #[])) w:=by
   simp[execOp,resolve,hR.lit hx,hkey,invoke,builtin,Builtin.delete_,run_underlying ht,eS hh,hk.chk,hf,h1,qM _ hh,hset]
  rw[hrun,Oper.upon_value];refine hK _ _ _ rfl ?_;have e2:st.objs.set m (.map r ((tU a l).map λp=>(kv p.1,av p.2)) (aLc a l bs) clock)=st.objs:=by
   simp only[tU,aLc,h1];apply List.ext_getElem?;intro q;rw[List.getElem?_set]
   split
   ·rename_i hq;subst hq;rw[ho];simp;have:=(List.getElem?_eq_some_iff.1 ho).1;omega
   ·rfl
  rw[e2];exact hR.put_none rfl
 | some j=>
  have hjl:j<l.length:=by
   rcases vN (β:=Unit) a () (l.map λp=>(p.1,())) with⟨h2,_⟩|⟨j',p,h2,h3,_⟩
   ·simp only[List.map_map] at h2;have:eW a (l.map (·.1))=none:=h2;rw[h1] at this;cases this
   ·simp only[List.map_map] at h2;have h4:eW a (l.map (·.1))=some j':=h2;rw[h1] at h4;cases h4;have:=(List.getElem?_eq_some_iff.1 h3).1
    simpa using this
  have hlm:ms.size=l.length:=by have:=hms.len;simpa using this
  have hrun:(execOp ac.eval ⟨none,.call {callee:=.builtin .delete,args:= #[x,y],argTypes:= #[t,kt']},ty,pos,af,gd⟩).run P w=.ok (.value (.tuple #[])) {w with heap:=w.heap.setIfInBounds r (.map (ms.eraseIdxIfInBounds j) clock)}:=by
   simp[execOp,resolve,hR.lit hx,hkey,invoke,builtin,Builtin.delete_,run_underlying ht,eS hh,hk.chk,hf,h1,qM _ hh,Array.getElem?_eq_getElem (show j<ms.size by omega)]
  rw [hrun,Oper.upon_value];refine hK _ _ _ rfl ?_;have hR':=hR.replace (w':={w with heap:=w.heap.setIfInBounds r (.map (ms.eraseIdxIfInBounds j) clock)}) (m':=.map r ((tU a l).map λp=>(kv p.1,av p.2)) (aLc a l bs) clock) ho
   (Keeps.setObj w r _) (λb o hb=>by subst hb;rfl) (λb o hf=>.inl hf) λhmono=>by
    have hel:(ms.eraseIdxIfInBounds j).toList=ms.toList.eraseIdx j:=by simp[Array.toList_eraseIdxIfInBounds]
    refine⟨ms.eraseIdxIfInBounds j,by simp[hrl],?_,?_,?_,?_⟩
    ·have hm2:=(hms.mono hmono).erase j;rw[hel];rw[aGw] at hm2
     revert hm2
     generalize aT A (st.objs.set m (.map r ((tU a l).map λp=>(kv p.1,av p.2)) (aLc a l bs) clock))=Z
     intro hm2;simp only[tU,h1];exact hm2
    ·rw[hel,<-aGw,hb1]
     simp[aLc,h1]
    ·simp only[aLc,h1];exact hb2.sublist (List.eraseIdx_sublist _ _)
    ·simp only[aLc,h1];exactλb hb=>hb3 b (List.mem_of_mem_eraseIdx hb)
  exact hR'.put_none rfl
end
end Go.Am
end
section
section
namespace Go.Am
def nC(agg:Bool)(ds:List D):AV:=bif agg then .agg ds else .d (ds.getD 0 (.lit undef))
theorem bIh{w:World}{X:aS}{agg:Bool}{es:List (Value×List D)}{u:Value}(h:DR w X (.mp agg es) u):
  ∃ r clock,∃ms:Array MapEntry,u=.map (some r)/\w.heap[r]?=some (.map ms clock)/\ms.toList.map (·.key)=es.map (·.1)/\
   ∀(i:Nat) (m:MapEntry) (e:Value×List D),ms.toList[i]?=some m->es[i]?=some e->VR w X (nC agg e.2) m.val:=by
 cases h with
 | mp _ _ r clock ms f hb hx hk hp hc hv h1 hr=>
  refine⟨r,clock,ms,rfl,hb,hk,λi m e hi he=>?_⟩;rw[hv i m e hi he];cases agg with
  | true=>
   refine .agg (DRs.of (by simp) λj d v hd hv=>?_);have hj:j<e.2.length:=(List.getElem?_eq_some_iff.1 hd).1
   simp[hj] at hv
   subst hv;exact hr i j e d he hd
  | false=>
   have hl:=h1 rfl e (List.mem_of_getElem? he);have hd:e.2[0]?=some (e.2.getD 0 (.lit undef)):=by simp[List.getD,show 0<e.2.length by omega]
   exact .d (hr i 0 e _ he hd)
section
variable{P:Program}{n d:Nat}{st:St}
theorem cBg{kt:TypeId}{α β:Type}[DecidableEq α]{kv:α->Value}{enc:β->List D}{agg:Bool}{l:List (α×β)}{a:α}{z:β}(hk:mX P kt kv){w:World}{X:aS}{ms:Array MapEntry}
  (hkeys:ms.toList.map (·.key)=(l.map λp=>(kv p.1,enc p.2)).map (·.1))(hval:∀(i:Nat) (m:MapEntry) (e:Value×List D),ms.toList[i]?=some m->(l.map λp=>(kv p.1,enc p.2))[i]?=some e->VR w X (nC agg e.2) m.val):
  ((Instr.findKey kt (kv a) ms.toList).run P w=.ok none w/\cI a l=false/\cE a z l=z)\/∃(j:Nat) (u:Value),(Instr.findKey kt (kv a) ms.toList).run P w=.ok (some (j,u)) w/\cI a l=true/\VR w X (nC agg (enc (cE a z l))) u:=by
 have hkeys':ms.toList.map (·.key)=(l.map (·.1)).map kv:=by rw[hkeys];simp
 have hf:=hk.find a (l.map (·.1)) ms.toList w hkeys'
 rcases vN a z l with⟨h1,h2⟩|⟨j,p,h1,h2,h3,h4⟩
 ·left
  rw[h1] at hf;exact⟨hf,by rw[pN,h1];rfl,h2⟩
 ·right
  have hjl:=(List.getElem?_eq_some_iff.1 h2).1;have hlen:ms.toList.length=l.length:=by have:=congrArg List.length hkeys';simpa using this
  have hm:ms.toList[j]?=some (ms.toList[j]'(by omega)):=List.getElem?_eq_getElem (by omega);rw[h1] at hf;simp only[Option.bind_some,hm,Option.map_some] at hf;refine⟨j,_,hf,by rw[pN,h1];rfl,?_⟩;have:=hval j _ (kv p.1,enc p.2) hm (by simp[h2]);rw[h3];exact this
theorem aHa[Mode]{t kt et:TypeId}{α β:Type}[DecidableEq α]{kv:α->Value}{enc:β->List D}{agg:Bool}{l:List (α×β)}{z:β}{zv:Value}{a:α}{x y:Operand}{ty:TypeId}{pos:String}{af:Array Edge}{gd:Option (Nat×Bool)}(hd:d<n)
  (hk:mX P kt kv)(ht:P.underlying t=some (.map kt et))(hz:∀w,(zeroValue et).run P w=.ok zv w)(hzv:∀w X,VR w X (nC agg (enc z)) zv)
  (hx:st.eval x=.d (.mp agg (l.map λp=>(kv p.1,enc p.2))))(hxk:cD x=true)(hyk:cD y=true){yv:AV}(hyv:st.eval y=yv)(hy:uB kv yv a):
  aM P n ⟨some d,.lookup t x y true,ty,pos,af,gd⟩ st (st.set d (.tup [nC agg (enc (cE a z l)),.d (.lit (.bool (cI a l)))])):=
 bZ rfl hd λA M w0 ac w hR=>by
  have h:=hR.eval' hxk;rw[hx] at h
  generalize hu:ac.eval x=u at h
  cases h with
  | d h=>
   obtain⟨r,clock,ms,rfl,hh,hkeys,hval⟩:=bIh h;have hkey:=hy _ _ _ (hyv▸hR.eval' hyk)
   rcases cBg (a:=a) (z:=z) hk hkeys hval with⟨hf,hhas,h2⟩|⟨j,v,hf,hhas,hv⟩
   ·refine⟨.tuple #[zv,.bool false],?_,.tup (us:=[_,_]) rfl λi hi=>by
     match i,hi with
     |0,_=>rw[h2];exact hzv _ _
     |1,_=>rw[hhas];exact .d (.lit _ rfl)⟩
    simp[execOp,hu,hkey,Instr.lookup,run_underlying ht,eS hh,hk.chk,hf,hz]
   ·refine⟨.tuple #[v,.bool true],?_,.tup (us:=[_,_]) rfl λi hi=>by
     match i,hi with
     |0,_=>exact hv
     |1,_=>rw[hhas];exact .d (.lit _ rfl)⟩
    simp[execOp,hu,hkey,Instr.lookup,run_underlying ht,eS hh,hk.chk,hf]
theorem aFg[Mode]{S:Type}{c:Code}{Q:Exit->St->Prop}(l:List Nat)(us:S->List (Nat×AV))(objs:S->List MO)(F:Nat->S->Prop)(hz:∀s,¬F 0 s){k0:Nat}(s0:S)(h0:F k0 s0)
  (he:Ent st ⟨aDx (keep l st.env) (us s0),objs s0⟩)
  (body:∀k s,F (k+1) s->Tr P n c ⟨aDx (keep l st.env) (us s),objs s⟩ (nO (λst'=>∃s',F k s'/\Ent st' ⟨aDx (keep l st.env) (us s'),objs s'⟩) Q)):Tr P n (.loop c) st Q:=by
 classical
 have hF:∀k s,(if F k s then some () else none)=some ()↔F k s:=λk s=>by split<;>simp_all
 refine eV l us objs (λk s=>if F k s then some () else none) (λs=>if_neg (hz s)) s0 ((hF k0 s0).2 h0) he λk s h=>?_;have:=body k s ((hF (k+1) s).1 h);refine rL this ?_;intro e s' hq;cases e with
 | normal=>
  obtain⟨s'',h1,h2⟩:=hq;exact⟨s'',(hF k s'').2 h1,h2⟩
 |_=>exact hq
def nb{α:Type}(o:Option α)(f:α->Prop):Prop:=∃x,o=some x/\f x
theorem mQ{α:Type}{o:Option α}{f:α->Prop}(h:nb o f):∃x,o=some x/\f x:=h
theorem bMf{a b:Prop}{c:Bool}(hc:c=true)(h:bif c then a else b):a:=by subst hc;exact h
theorem bMe{a b:Prop}{c:Bool}(hc:c=false)(h:bif c then a else b):b:=by subst hc;exact h
def aZa:AV->Bool
 | .d (.lit _)=>true
 | .agg ds=>eG ds
 | .tup vs=>vs.all λv=>match v with
  | .d (.lit _)=>true
  | .agg ds=>eG ds
  |_=>false
 |_=>false
theorem aSb{w w':World}{X X':aS}:∀{ds:List D} {vs:List Value},eG ds=true->DRs w X ds vs->DRs w' X' ds vs
 |[],[],_,_=>trivial
 | .lit v::ds,u::vs,hl,h=>by
  refine⟨?_,aSb (by simpa[eG] using hl) h.2⟩;have h1:=h.1;cases h1 with
  |lit _ hv=>exact .lit _ hv
 | .sl _ _::_,_::_,hl,_=>by simp[eG] at hl
 | .sn _ _::_,_::_,hl,_=>by simp[eG] at hl
 | .mp _ _::_,_::_,hl,_=>by simp[eG] at hl
 | .pt _::_,_::_,hl,_=>by simp[eG] at hl
 | .fc .. ::_,_::_,hl,_=>by simp[eG] at hl
 | .hv .. ::_,_::_,hl,_=>by simp[eG] at hl
 |[],_::_,_,h=>h.elim
 |_::_,[],_,h=>h.elim
theorem VR.litMove{w w':World}{X X':aS}{r:AV}{v:Value}(hl:aZa r=true)(h:VR w X r v):VR w' X' r v:=by
 have one:∀(x:AV) (u:Value),(match x with| .d (.lit _)=>true| .agg ds=>eG ds|_=>false)=true->VR w X x u->VR w' X' x u:=by
  intro x u hx h;cases h with
  | @d y u h=>
   cases y with
   |lit v=>cases h with|lit _ hv=>exact .d (DR.lit _ hv)
   |_=>simp at hx
  |agg h=>exact .agg (aSb hx h)
  |_=>simp at hx
 cases r with
 | tup vs=>
  cases h with
  | tup hlen h=>
   refine .tup hlen λi hi=>one _ _ ?_ (h i hi);simp only[aZa,List.all_eq_true] at hl;have:=hl vs[i] (List.getElem_mem hi)
   simpa[List.getD,hi] using this
 |d x=>exact one _ _ (by cases x<;>simp_all[aZa]) h
 |agg ds=>exact one _ _ hl h
 |_=>simp[aZa] at hl
def aEv[Mode](m:MO):Prop:=∀(w:World) (X X':aS),m.holds w X->m.holds w X'
theorem bUb[Mode]{v:Value}{e k:Nat}{rows:List (List D)}(h:eG rows.flatten=true):aEv (.arr v e k rows):=by
 rintro w X X' ⟨xs,h1,h2,h3⟩;exact⟨xs,aSb h h1,h2,h3⟩
theorem bXp[Mode]{c:Callee}{l:List Operand}{f:FuncId}{args args':List AV}{Qc:AV->List MO->Prop}{passed rest:List MO}{ts:Array TypeId}{ty:TypeId}{pos:String}{af:Array Edge}{gd:Option (Nat×Bool)}(hd:d<n)
  (ho:st.objs=passed++rest){a0:List AV}(hc:mD P st c l f a0)(ha:a0=args)(hok:iN l=true)(hb:BVs rest args args')(hf:bC P f args' passed Qc)
  (hp:∀m∈passed,aEv m)(hr:∀r o,Qc r o->aZa r=true/\∀m∈o,aEv m):
  Step P n ⟨some d,.call {callee:=c,args:=l.toArray,argTypes:=ts},ty,pos,af,gd⟩ st (λs=>∃r objs',Qc r objs'/\s=⟨upd st.env d r,objs'++rest⟩):=by
 replace ha:=ha.symm;subst ha
 intro A M w0 a w hR K Q hK;obtain⟨vs,hrun,hvs⟩:=aHz (d:=d) (ts:=ts) (ty:=ty) (pos:=pos) (af:=af) (gd:=gd) hR hc hok;unfold Oper.wp;rw[hrun,Oper.upon_enter];have hs0:=hR.keeps.size;have hsep:=hR.inv.sep;rw[ho] at hsep;have hsp:=List.pairwise_append.1 hsep;have hin:∀m∈passed,m∈st.objs:=λm hm=>by rw[ho];exact List.mem_append.2 (.inl hm)
 have hir:∀m∈rest,m∈st.objs:=λm hm=>by rw[ho];exact List.mem_append.2 (.inr hm)
 have hlt:∀b o,A b o->b<w.heap.size:=λb o h=>Nat.lt_of_lt_of_le (hR.old b o h) hs0;have hinv0:Inv w A passed:=⟨hsp.1,λm hm=>hR.inv.apart m (hin m hm),λm hm=>hp m hm _ _ _ (hR.inv.holds m (hin m hm)),hR.inv.amb.on (Mono.sub λb o h=>h.imp id λ⟨m,hm,hx⟩=>⟨m,hin m hm,hx⟩)⟩;have hvs':VRs w (aT A passed) args' vs:=hb.sound (λm hm=>hR.inv.holds m (hir m hm)) (λb o h=>h.imp id λ⟨m,hm,hx⟩=>⟨m,hin m hm,hx⟩) (λm hm b o hf hx=>by
  rcases hx with hx|⟨m',hm',hf'⟩
  ·exact hR.inv.apart m (hir m hm) b o hf hx
  ·exact hsp.2.2 m' hm' m hm b o hf' hf) hvs
 refine(hf A w vs hinv0 hlt hvs').mono ?_;rintro e w' ⟨v,r,objs',rfl,hk,hinv,hv,hnew,hq⟩;obtain⟨hlit,hpl⟩:=hr r objs' hq;refine hK _ _ _ ⟨r,objs',hq,rfl⟩ ?_;have hdis:∀m∈objs',∀m'∈rest,∀b o,m.foot b o->¬m'.foot b o:=by
  intro m hm m' hm' b o h1 h2
  rcases hnew m hm b o h1 with⟨q,hq',hqf⟩|h
  ·exact hsp.2.2 q hq' m' hm' b o hqf h2
  ·have:=nE (hR.inv.holds m' (hir m' hm')) h2;omega
 have hR2:R A M w0 n ⟨st.env,objs'++rest⟩ a w':=by
  refine hR.change hk (λb o ⟨m,hm,hf⟩=>⟨m,hin m hm,hf⟩) (λb o hb hx=>?_) ?_ λhm m hmm=>?_
  ·rcases kM.1 hx with⟨m,hm,hf⟩|⟨m,hm,hf⟩
   ·rcases hnew m hm b o hf with⟨m',hm',hf'⟩|h
    ·exact⟨m',hin m' hm',hf'⟩
    ·omega
   ·exact⟨m,hir m hm,hf⟩
  ·exact List.pairwise_append.2 ⟨hinv.sep,hsp.2.1,λx hx y hy b o h1 h2=>hdis x hx y hy b o h1 h2⟩
  ·rcases List.mem_append.1 hmm with h|h
   ·exact hpl m h _ _ _ (hinv.holds m h)
   ·exact bW (hR.inv.holds m (hir m h)) hk (λb o hf ⟨m',hm',hf'⟩=>hsp.2.2 m' hm' m h b o hf' hf) hm
 exact R.put (o:=⟨some d,.call {callee:=c,args:=l.toArray,argTypes:=ts},ty,pos,af,gd⟩) hR2 rfl hd (hv.litMove hlit)
def pZ{α:Type}(enc:α->List D):Option α->AV
 |none=>.d (.lit (.pointer none))
 |some x=>.cp (enc x)
theorem bMl[Mode]{α:Type}{enc:α->List D}{env:Nat->AV}{objs:List MO}{k:Nat}{o:Option α}{a:α}(hk:env k=pZ enc o)(h:o=some a):Ent ⟨env,objs⟩ ⟨upd env k (.cp (enc a)),objs⟩:=
 aTq λj=>by
  by_cases hj:k=j
  ·subst hj
   right
   rw[fK,hk,h]
   rfl
  ·rw[lJ _ _ hj];exact .inr rfl
end
section
variable{P:Program}{n d:Nat}{st:St}
theorem aPe[Mode]{k:Nat}{rows:List (List D)}{x:Operand}{t u el ty:TypeId}{pos:String}{af:Array Edge}{gd:Option (Nat×Bool)}(hd:d<n)
  (hx:st.eval x=.d (.sl k rows))(hk:cD x=true)(ht:P.underlying t=some (.slice el)):
  Step P n ⟨some d,.binOp .eql t x (.const (.slice none 0 0)) u,ty,pos,af,gd⟩ st (λs=>∃b:Bool,(b=true->rows=[])/\s=st.set d (.b b)):=by
 intro A M w0 a w hR K Q hK;have h:=hR.eval' hk;rw[hx] at h
 generalize hu:a.eval x=v at h
 have key:∀(ad:Option Addr) (m cap:Nat),v=.slice ad m cap->(execOp a.eval ⟨some d,.binOp .eql t x (.const (.slice none 0 0)) u,ty,pos,af,gd⟩).run P w=.ok (.value (.bool ad.isNone)) w:=by
  rintro ad m cap rfl;have hb:=Lib.run_eql_slice_nil (P:=P) w t el ad m cap 0 0 ht;have hg:eqGuard .eql t x (.const (.slice none 0 0)) (.slice ad m cap) (.slice none 0 0)=pure ():=rfl;have hc:a.eval (.const (.slice none 0 0))=.slice none 0 0:=rfl;simp only[execOp,hu,hc,Sem.run_bind,Sem.run_pure,hg,hb,Result.andThen_ok]
 have fin:∀(b:Bool),(b=true->rows=[])->(execOp a.eval ⟨some d,.binOp .eql t x (.const (.slice none 0 0)) u,ty,pos,af,gd⟩).run P w=.ok (.value (.bool b)) w->Oper.wp P ⟨some d,.binOp .eql t x (.const (.slice none 0 0)) u,ty,pos,af,gd⟩ a w K Q:=by
  intro b hb hrun;unfold Oper.wp;rw[hrun,Oper.upon_value];exact hK _ _ _ ⟨b,hb,rfl⟩ (hR.put (o:=⟨some d,.binOp .eql t x (.const (.slice none 0 0)) u,ty,pos,af,gd⟩) rfl hd (.d (.lit _ rfl)))
 cases h with
 | d h=>
  generalize hd':D.sl k rows=dd at h
  cases h with
  |nil=>exact fin true (λ_=>by cases hd';rfl) (key none 0 0 rfl)
  |e0 _ ad=>exact fin false (λh=>by cases h) (key (some ad) 0 0 rfl)
  |sl _ _ b o cap f'=>exact fin false (λh=>by cases h) (key _ _ _ rfl)
  |_=>cases hd'
theorem aPc[Mode]{c:Callee}{l:List Operand}{f:FuncId}{args:List AV}{e k:Nat}{rows:List (List D)}{ts:Array TypeId}{ty:TypeId}{pos:String}{af:Array Edge}{gd:Option (Nat×Bool)}(hd:d<n)
  {a0:List AV}(hc:mD P st c l f a0)(ha:a0=args)(hok:iN l=true)(hf:bC P f args [] (λr' o'=>∃w,r'=.d (.lit w)/\o'=[.arr w e k rows])):
  Step P n ⟨some d,.call {callee:=c,args:=l.toArray,argTypes:=ts},ty,pos,af,gd⟩ st (λs=>∃w,s=(st.setadd d (.d (.lit w)) (.arr w e k rows))):=by
 intro A M w0 a w hR K Q hK;refine aIj hd hc ha hok hf A M w0 a w hR K Q ?_;rintro s a' w' ⟨_,_,⟨v,rfl,rfl⟩,hs⟩ hR';exact hK s a' w' ⟨v,hs⟩ hR'
end
theorem aOi{α β:Type}{f:α->β}{l:List α}(h:l.map f=[]):l=[]:=List.map_eq_nil_iff.1 h
theorem cFi{α β:Type}{enc:β->List D}{agg:Bool}{fs:List MO}(i:Nat){r ck:Nat}{bs:List Nat}{l:List (α×β)}{kv:α->Value}{av:β->AV}(ho:fs[i]?=some (.map r (l.map λp=>(kv p.1,av p.2)) bs ck))(h1:agg=false->∀v,(enc v).length=1)
  (ha:∀v,av v=nC agg (enc v)):DV fs (.lit (.map (some r))) (.mp agg (l.map λp=>(kv p.1,enc p.2))):=by
 refine .map r bs ck agg _ (λh e he=>?_) (List.mem_of_getElem? (i:=i) ?_)
 ·obtain⟨p,_,rfl⟩:=List.mem_map.1 he;exact h1 h p.2
 ·rw[ho,List.map_map]
  congr 2
  exact List.map_congr_left λp _=>by simp[ha,nC]
theorem aXh[Mode]{P:Program}{f:FuncId}{args:List AV}{objs:List MO}{Q Q':AV->List MO->Prop}(h:bC P f args objs Q)(hq:∀r o,Q r o->Q' r o):bC P f args objs Q':=
 λA w vs h1 h2 h3=>(h A w vs h1 h2 h3).mono λ_ _ ⟨v,r,o,a,b,c,d,e,k⟩=>⟨v,r,o,a,b,c,d,e,hq r o k⟩
theorem aNv[Mode]{P:Program}{f:FuncId}{args:List AV}{α:Type}{enc:α->AV}{r:α}(h:bC P f args [] (λr' o'=>∃x,x=r/\r'=enc x/\o'=[])):Fn P f args (enc r):=
 aXh h λ_ _ ⟨_,hx,h1,h2⟩=>⟨by rw[h1,hx],h2⟩
end Go.Am
end
section
namespace Go.Am
variable{P:Program}{n d:Nat}{st:St}
theorem bLq[Mode]{x:Operand}{s f:Nat}{fs:Array Field}{fd:Field}{ds:List D}{d0:D}{ty:TypeId}{pos:String}{af:Array Edge}{gd:Option (Nat×Bool)}(hd:d<n)
  (hx:st.eval x=.agg ds)(hs:∀w,(underlying s).run P w=.ok (.struct fs) w)(hf:fs[f]?=some fd)(h1:fZ P fd.type)(hj:ds[fd.offset]?=some d0):
  aM P n ⟨some d,.field s x f,ty,pos,af,gd⟩ st (st.set d (.d d0)):=
 bZ rfl hd λA M w0 a w hR=>by
  have hk:cD x=true:=by cases x with|const u=>cases hx|_=>rfl
  have h:=hR.eval' hk;rw[hx] at h
  generalize hu:a.eval x=u at h
  cases h with
  | agg h=>
   rename_i cs
   obtain⟨v,hv,hdv⟩:=h.get hj;refine⟨v,?_,.d hdv⟩;have hv':cs[fd.offset]?=some v:=by simpa using hv
   simp[execOp,hu,Instr.field,hs,hf,part,h1.1,asAgg,hv']
end Go.Am
end
end
end
