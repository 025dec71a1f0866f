/- Several texts, one behind the other. -/
import Derived.Test.YtejdennodgdfhaaGreatDoorAmMap
import Derived.KernelRfl
import Derived.Test.YtejdennodgdfhaaGreatDoorAmClose
section
namespace Go.Am
structure Rho where
 β:Nat->Nat×Nat×Value
 b:Nat->Nat
 o:Nat->Nat
 s:Nat->Value
 bs:Nat->List Nat
 ck:Nat->Nat
namespace Rho
variable(ρ:Rho)
def bb(h:Nat):Nat:=bif Nat.ble 100000 h then(ρ.β h).1 else ρ.b h
def oo(h:Nat):Nat:=bif Nat.ble 100000 h then(ρ.β h).2.1 else ρ.o h
def ss(h:Nat):Value:=bif Nat.ble 100000 h then(ρ.β h).2.2 else ρ.s h
def dd:D->D
 | .hv q h j=>match q with
  |0=>.lit (ρ.ss h)
  |1=>.lit (.map (some (ρ.bb h)))
  |_=>.lit (.pointer (some ⟨ρ.bb h,ρ.oo h+j,none⟩))
 |x=>x
def a0:AV->AV
 | .d x=>.d (ρ.dd x)
 | .agg xs=>.agg (xs.map ρ.dd)
 | .bp h _ j=>.bp (ρ.bb h) (ρ.oo h) j
 | .ep v k i c=>match v with
  | .map (some h)=>.ep (ρ.ss h) k i c
  |_=>.any
 |x=>x
def a1:AV->AV
 | .tup vs=>.tup (vs.map ρ.a0)
 | .fn f vs=>.fn f (vs.map ρ.a0)
 | .mf f vs=>.mf f (vs.map ρ.a0)
 |x=>ρ.a0 x
def av:AV->AV
 | .tup vs=>.tup (vs.map ρ.a1)
 | .fn f vs=>.fn f (vs.map ρ.a1)
 | .mf f vs=>.mf f (vs.map ρ.a1)
 |x=>ρ.a0 x
end Rho
inductive VO where
 |box (ds:List D)
 |arr (e k:Nat) (rows:List (List D))
 |map (es:List (Value×AV))
 |raw (m:MO)
def Rho.mo(ρ:Rho)(h:Nat):VO->MO
 | .box ds=>.box (ρ.bb h) (ρ.oo h) (ds.map ρ.dd)
 | .arr e k rows=>.arr (ρ.ss h) e k rows
 | .map es=>.map (ρ.bb h) es (ρ.bs h) (ρ.ck h)
 | .raw m=>m
structure VS where
 env:List (Nat×AV)
 objs:List (Nat×VO)
def lk:List (Nat×AV)->Nat->AV
 |[],_=>.any
 |(k,v)::l,j=>bif Nat.beq k j then v else lk l j
def ob:List (Nat×VO)->Nat->Option VO
 |[],_=>none
 |(k,m)::l,h=>bif Nat.beq k h then some m else ob l h
def iB(h:Nat)(m:VO):List (Nat×VO)->List (Nat×VO)
 |[]=>[(h,m)]
 |(k,x)::l=>bif Nat.beq k h then(k,m)::l else(k,x)::iB h m l
def iA(h:Nat):List (Nat×VO)->List (Nat×VO)
 |[]=>[]
 |(k,x)::l=>bif Nat.beq k h then l else(k,x)::iA h l
def chg:List (Nat×Option VO)->List (Nat×VO)->List (Nat×VO)
 |[],l=>l
 |(h,some m)::c,l=>chg c (iB h m l)
 |(h,none)::c,l=>chg c (iA h l)
def VS.at(S:VS)(ρ:Rho):St:=⟨λk=>ρ.av (lk S.env k),S.objs.map λp=>ρ.mo p.1 p.2⟩
def VS.ev(S:VS):Operand->AV
 | .tmp t=>lk S.env t
 | .const v=>.d (.lit v)
 | .global _=>.any
 | .func f=>.fn f []
structure Eff where
 v:AV
 ch:List (Nat×Option VO)
 us:List Nat
 nw:List Nat
abbrev Eff.p(v:AV):Eff:=⟨v,[],[],[]⟩
abbrev Eff.r(v:AV)(us:List Nat):Eff:=⟨v,[],us,[]⟩
def VS.app(S:VS)(d:Option Nat)(e:Eff):VS:=
 ⟨match d with|some d=>(d,e.v)::S.env|none=>S.env,chg e.ch S.objs⟩
def aDd(h:Nat):D->Bool
 | .hv _ k _=>Nat.beq k h
 |_=>false
def tJ(h:Nat):AV->Bool
 | .d x=>aDd h x
 | .agg xs=>xs.any (aDd h)
 | .bp k _ _=>Nat.beq k h
 | .ep v _ _ _=>match v with
  | .map (some k)=>Nat.beq k h
  |_=>false
 |_=>false
def aLd(h:Nat):AV->Bool
 | .tup vs=>vs.any (tJ h)
 | .fn _ vs=>vs.any (tJ h)
 | .mf _ vs=>vs.any (tJ h)
 |x=>tJ h x
def nD(h:Nat):AV->Bool
 | .tup vs=>vs.any (aLd h)
 | .fn _ vs=>vs.any (aLd h)
 | .mf _ vs=>vs.any (aLd h)
 |x=>tJ h x
def uN(h:Nat):VO->Bool
 | .box ds=>ds.any (aDd h)
 |_=>false
def kZ(h:Nat)(S:VS):Bool:=S.env.any (λp=>nD h p.2)||S.objs.any λp=>Nat.beq p.1 h||uN h p.2
structure Off(h:Nat)(ρ ρ':Rho):Prop where
 β:ρ'.β=ρ.β
 b:∀k,Nat.beq k h=false->ρ'.b k=ρ.b k
 o:∀k,Nat.beq k h=false->ρ'.o k=ρ.o k
 s:∀k,Nat.beq k h=false->ρ'.s k=ρ.s k
 bs:∀k,Nat.beq k h=false->ρ'.bs k=ρ.bs k
 ck:∀k,Nat.beq k h=false->ρ'.ck k=ρ.ck k
section
variable{h:Nat}{ρ ρ':Rho}
theorem Off.bb(H:Off h ρ ρ'){k:Nat}(hk:Nat.beq k h=false):ρ'.bb k=ρ.bb k:=by simp[Rho.bb,H.β,H.b k hk]
theorem Off.oo(H:Off h ρ ρ'){k:Nat}(hk:Nat.beq k h=false):ρ'.oo k=ρ.oo k:=by simp[Rho.oo,H.β,H.o k hk]
theorem Off.ss(H:Off h ρ ρ'){k:Nat}(hk:Nat.beq k h=false):ρ'.ss k=ρ.ss k:=by simp[Rho.ss,H.β,H.s k hk]
theorem Off.dd(H:Off h ρ ρ'){x:D}(hx:aDd h x=false):ρ'.dd x=ρ.dd x:=by
 cases x with
 | hv q k j=>
  have hk:Nat.beq k h=false:=hx;simp only[Rho.dd,H.bb hk,H.oo hk,H.ss hk]
 |_=>rfl
theorem oQ{α β:Type}{f g:α->β}{p:α->Bool}(hp:∀x,p x=false->f x=g x):∀{l:List α},l.any p=false->l.map f=l.map g
 |[],_=>rfl
 | x::l,h=>by
  simp only[List.any_cons,Bool.or_eq_false_iff] at h;simp only[List.map_cons,hp x h.1,oQ hp h.2]
theorem Off.a0(H:Off h ρ ρ'){x:AV}(hx:tJ h x=false):ρ'.a0 x=ρ.a0 x:=by
 cases x with
 |d x=>simp only[Rho.a0,H.dd hx]
 |agg xs=>simp only[Rho.a0,oQ (λx=>H.dd (x:=x)) hx]
 | bp k o j=>
  have hk:Nat.beq k h=false:=hx;simp only[Rho.a0,H.bb hk,H.oo hk]
 | ep v k i c=>
  cases v with
  | map r=>cases r with
   |none=>rfl
   | some k=>
    have hk:Nat.beq k h=false:=hx;simp only[Rho.a0,H.ss hk]
  |_=>rfl
 |_=>rfl
theorem Off.a1(H:Off h ρ ρ'){x:AV}(hx:aLd h x=false):ρ'.a1 x=ρ.a1 x:=by
 cases x with
 |tup vs=>simp only[Rho.a1,oQ (λx=>H.a0 (x:=x)) hx]
 |fn f vs=>simp only[Rho.a1,oQ (λx=>H.a0 (x:=x)) hx]
 |mf f vs=>simp only[Rho.a1,oQ (λx=>H.a0 (x:=x)) hx]
 |any=>rfl
 |d x=>exact H.a0 (x:=.d x) hx
 |agg x=>exact H.a0 (x:=.agg x) hx
 |cp x=>rfl
 |bp b o j=>exact H.a0 (x:=.bp b o j) hx
 |ep v k i c=>exact H.a0 (x:=.ep v k i c) hx
 |fl n k r=>rfl
theorem Off.av(H:Off h ρ ρ'){x:AV}(hx:nD h x=false):ρ'.av x=ρ.av x:=by
 cases x with
 |tup vs=>simp only[Rho.av,oQ (λx=>H.a1 (x:=x)) hx]
 |fn f vs=>simp only[Rho.av,oQ (λx=>H.a1 (x:=x)) hx]
 |mf f vs=>simp only[Rho.av,oQ (λx=>H.a1 (x:=x)) hx]
 |any=>rfl
 |d x=>exact H.a0 (x:=.d x) hx
 |agg x=>exact H.a0 (x:=.agg x) hx
 |cp x=>rfl
 |bp b o j=>exact H.a0 (x:=.bp b o j) hx
 |ep v k i c=>exact H.a0 (x:=.ep v k i c) hx
 |fl n k r=>rfl
theorem Off.mo(H:Off h ρ ρ'){k:Nat}{m:VO}(hk:Nat.beq k h=false)(hm:uN h m=false):ρ'.mo k m=ρ.mo k m:=by
 cases m with
 |box ds=>simp only[Rho.mo,H.bb hk,H.oo hk,oQ (λx=>H.dd (x:=x)) hm]
 |arr e k rows=>simp only[Rho.mo,H.ss hk]
 |map es=>simp only[Rho.mo,H.bb hk,H.bs _ hk,H.ck _ hk]
 |raw m=>rfl
theorem bRu{S:VS}(hS:S.env.any (λp=>nD h p.2)=false)(k:Nat):nD h (lk S.env k)=false:=by
 obtain⟨env,objs⟩:=S
 induction env with
 |nil=>rfl
 | cons p l ih=>
  simp only[List.any_cons,Bool.or_eq_false_iff] at hS;simp only[lk];cases Nat.beq p.1 k with
  |true=>exact hS.1
  |false=>exact ih hS.2
theorem Off.at(H:Off h ρ ρ'){S:VS}(hS:kZ h S=false):S.at ρ'=S.at ρ:=by
 simp only[kZ,Bool.or_eq_false_iff] at hS;have h1:(λk=>ρ'.av (lk S.env k))=λk=>ρ.av (lk S.env k):=funext λk=>H.av (bRu hS.1 k);have h2:(S.objs.map λp=>ρ'.mo p.1 p.2)=S.objs.map λp=>ρ.mo p.1 p.2:=
  oQ (λp hp=>by
   simp only[Bool.or_eq_false_iff] at hp;exact H.mo hp.1 hp.2) hS.2
 simp only[VS.at,h1,h2]
end
def Rho.setB(ρ:Rho)(h b o:Nat):Rho:={ρ with b:=λk=>bif Nat.beq k h then b else ρ.b k,o:=λk=>bif Nat.beq k h then o else ρ.o k}
def Rho.setS(ρ:Rho)(h:Nat)(v:Value):Rho:={ρ with s:=λk=>bif Nat.beq k h then v else ρ.s k}
section
variable{ρ:Rho}{h:Nat}
theorem bMd(b o:Nat):Off h ρ (ρ.setB h b o):=⟨rfl,λk hk=>by simp[Rho.setB,hk],λk hk=>by simp[Rho.setB,hk],λ_ _=>rfl,λ_ _=>rfl,λ_ _=>rfl⟩
theorem aDe(v:Value):Off h ρ (ρ.setS h v):=⟨rfl,λ_ _=>rfl,λ_ _=>rfl,λk hk=>by simp[Rho.setS,hk],λ_ _=>rfl,λ_ _=>rfl⟩
theorem beq_refl(n:Nat):Nat.beq n n=true:=Nat.beq_refl n
theorem bQf(hl:Nat.ble 100000 h=false)(b o:Nat):(ρ.setB h b o).bb h=b/\(ρ.setB h b o).oo h=o:=by simp[Rho.bb,Rho.oo,hl,Rho.setB]
theorem aMv(hl:Nat.ble 100000 h=false)(v:Value):(ρ.setS h v).ss h=v:=by simp[Rho.ss,hl,Rho.setS]
theorem aWj(S:VS)(x:Operand):(S.at ρ).eval x=ρ.av (S.ev x):=by cases x<;>rfl
theorem wN(S:VS)(d:Nat)(v:AV):(S.at ρ).set d (ρ.av v)=(VS.mk ((d,v)::S.env) S.objs).at ρ:=by
 simp only[VS.at,St.set,St.mk.injEq,and_true]
 funext k
 simp only[upd,lk];cases Nat.beq d k<;>rfl
theorem zK{objs:List (Nat×VO)}{h:Nat}{m:VO}(hm:ob objs h=some m):∃i,(objs.map λp=>ρ.mo p.1 p.2)[i]?=some (ρ.mo h m)/\(∀m':VO,(objs.map λp=>ρ.mo p.1 p.2).set i (ρ.mo h m')=(iB h m' objs).map λp=>ρ.mo p.1 p.2)/\
  ((objs.map λp=>ρ.mo p.1 p.2).Perm (ρ.mo h m::(iA h objs).map λp=>ρ.mo p.1 p.2)):=by
 induction objs with
 |nil=>cases hm
 | cons p l ih=>
  obtain⟨k,x⟩:=p;simp only[ob] at hm;cases hb:Nat.beq k h with
  | true=>
   rw[hb] at hm;have:=Nat.eq_of_beq_eq_true hb;subst this
   simp at hm;subst hm
   exact⟨0,by simp,λm'=>by simp[iB],by simp[iA]⟩
  | false=>
   rw[hb] at hm;obtain⟨i,h1,h2,h3⟩:=ih (by simpa using hm);refine⟨i+1,by simpa using h1,λm'=>by simp[iB,hb,h2 m'],?_⟩;simp only[iA,hb,List.map_cons,cond_false];exact(List.Perm.cons _ h3).trans (.swap _ _ _)
theorem aDk{objs:List (Nat×VO)}{h:Nat}(m:VO)(hn:objs.any (λp=>Nat.beq p.1 h||uN h p.2)=false):iB h m objs=objs++[(h,m)]:=by
 induction objs with
 |nil=>rfl
 | cons p l ih=>
  simp only[List.any_cons,Bool.or_eq_false_iff] at hn;simp only[iB,hn.1.1,cond_false,List.cons_append,ih hn.2]
theorem aAh{S:VS}(hS:kZ h S=false):S.objs.any (λp=>Nat.beq p.1 h||uN h p.2)=false:=by
 simp only[kZ,Bool.or_eq_false_iff] at hS;exact hS.2
end
end Go.Am
end
section
section
namespace Go.Am
inductive Tr'(α:Type)(R:Nat->α->Prop) where
 |l
 |n (a:Tr' α R) (k:Nat) (d:α) (h:R k d) (b:Tr' α R)
def Tr'.get{α:Type}{R:Nat->α->Prop}:Tr' α R->Nat->Option α
 | .l,_=>none
 | .n a k d _ b,t=>bif Nat.beq k t then some d else bif Nat.ble t k then a.get t else b.get t
theorem Tr'.ok{α:Type}{R:Nat->α->Prop}:∀{T:Tr' α R} {t:Nat} {d:α},T.get t=some d->R t d
 | .l,_,_,h=>by cases h
 | .n a k d h0 b,t,d',h=>by
  simp only[Tr'.get] at h;cases hb:Nat.beq k t with
  |true=>rw[hb] at h;simp at h;subst h;exact Nat.eq_of_beq_eq_true hb▸h0
  | false=>
   rw[hb] at h;cases hc:Nat.ble t k with
   |true=>rw[hc] at h;exact Tr'.ok (by simpa using h)
   |false=>rw[hc] at h;exact Tr'.ok (by simpa using h)
structure TE where
 size:Nat
 bytes:Nat
def TyR(P:Program)(t:Nat)(p:TE×TypeDesc):Prop:=(∃i,P.info? t=some i/\i.size=p.1.size/\i.bytes=p.1.bytes/\∃z,i.zero=some z/\z.cells.size=p.1.size)/\P.underlying t=some p.2
theorem ti{P:Program}{t:Nat}(i:TypeInfo){e:TE}{td:TypeDesc}{z:Value}(h2:P.underlying t=some td)(h:P.info? t=some i:=by kernel_rfl)(hz:i.zero=some z:=by exact rfl)(h3:z.cells.size=e.size:=by exact rfl)(hs:i.size=e.size:=by exact rfl)(hb:i.bytes=e.bytes:=by exact rfl):TyR P t (e,td):=
 ⟨⟨i,h,hs,hb,z,hz,h3⟩,h2⟩
structure TT(P:Program) where
 ty:Tr' (TE×TypeDesc) (TyR P)
 zr:Tr' (List D) λt zs=>∃z,(∀w,(zeroValue t).run P w=.ok z w)/\z.cells=(zs.map bD).toArray/\zOK zs=true
 mix:P.follows .mixedOrders=true
section facts
variable{P:Program}{T:TT P}{t e:Nat}{i j:TE}{td:TypeDesc}
theorem wH(h:T.ty.get t=some (i,td))(w:World):(sizeOf t).run P w=.ok i.size w:=by
 obtain⟨ii,h1,h2,_⟩:=(Tr'.ok h).1;simp only at h2
 simp[sizeOf,typeInfo,h1,h2]
def aCo:TypeDesc->Bool
 | .struct _=>true
 | .array _ _=>true
 |_=>false
theorem bJt(h:T.ty.get t=some (i,td))(w:World):(isAgg t).run P w=.ok (aCo td) w:=by
 have h2:=run_underlying (Tr'.ok h).2 w;simp only at h2;unfold isAgg;simp only[Sem.run_bind,h2,Result.andThen_ok];cases td<;>rfl
theorem aIw{m:Nat}(h:T.ty.get t=some (i,td))(ha:aCo td=true)(hs:i.size=m):gL P t m:=⟨λw=>ha▸bJt h w,λw=>hs▸wH h w⟩
theorem aIx(h:T.ty.get t=some (i,td))(ha:aCo td=false)(hs:i.size=1):dJ P t:=⟨λw=>ha▸bJt h w,λw=>hs▸wH h w⟩
theorem bNh{fs:Array Field}{f:Nat}{fd:Field}(h:T.ty.get t=some (i,.struct fs))(hf:fs.toList[f]?=some fd)(h2:T.ty.get fd.type=some (j,td))(hp:Nat.ble 1 j.size=true):bG P t f fd.offset:=by
 obtain⟨m,hm⟩:∃m,j.size=m+1:=⟨j.size-1,by have:=Nat.le_of_ble_eq_true hp;omega⟩;exact bB (λw=>run_underlying (Tr'.ok h).2 w) (by simpa using hf) rfl (λw=>hm▸wH h2 w)
theorem aIy{k:Nat}(h:T.ty.get t=some (i,.slice e))(h2:T.ty.get e=some (j,td))(hk:j.size=k)(hp:Nat.ble 1 k=true):∃z,SliceTy P t e k j.bytes z:=by
 obtain⟨ii,h3,h4,h5,z,h6,h7⟩:=(Tr'.ok h2).1;simp only at h4 h5 h7;exact⟨z,(Tr'.ok h).2,⟨ii,h3,h6,h4.trans hk,h5⟩,h7.trans hk,Nat.le_of_ble_eq_true hp⟩
end facts
structure Agr(o:Op)(S S':VS)(us:List Nat):Prop where
 ev:∀x∈o.operands.toList,S'.ev x=S.ev x
 ob:∀h∈us,ob S'.objs h=ob S.objs h
def lT[Mode](P:Program)(n:Nat)(o:Oper)(S:VS)(e:Eff):Prop:=
 ∀S',Agr o.op S S' e.us->(∀h∈e.nw,kZ h S'=false/\Nat.ble 100000 h=false)->∀ρ,Step P n o (S'.at ρ) (λst=>∃ρ':Rho,ρ'.β=ρ.β/\Ent st ((S'.app o.dst e).at ρ'))
structure cS[Mode](P:Program)(n:Nat)(o:Oper)(S:VS)(K:Eff->Prop):Prop where
 h:∃e,K e/\lT P n o S e
theorem gR[Mode]{P:Program}{n:Nat}{o:Oper}{st:St}{Q Q':St->Prop}(h:Step P n o st Q)(hq:∀s,Q s->Q' s):Step P n o st Q':=
 λA M w0 a w hR K R hK=>h A M w0 a w hR K R λs a' w' hs hR'=>hK s a' w' (hq s hs) hR'
theorem vY[Mode]{a b:St}(h:a=b):Ent a b:=h▸Ent.refl a
section lift
variable{P:Program}{n d:Nat}{S:VS}{us:List Nat}{op:Op}{ty:TypeId}{pos:String}{af:Array Edge}{gd:Option (Nat×Bool)}
theorem bOn[Mode]{v:AV}(h:∀S',Agr op S S' us->∀ρ,aY P n ⟨some d,op,ty,pos,af,gd⟩ (S'.at ρ) ((S'.at ρ).set d (ρ.av v))):lT P n ⟨some d,op,ty,pos,af,gd⟩ S (.r v us):=
 λS' hA _ ρ=>gR (h S' hA ρ) λs hs=>⟨ρ,rfl,vY (hs.trans (wN S' d v))⟩
theorem yM[Mode]{env:Nat->AV}{objs objs':List MO}(h:objs.Perm objs'):Ent ⟨env,objs⟩ ⟨env,objs'⟩:=kD (gone:=[]) (by simpa using h) λ_=>.same _
theorem aTp[Mode]{ds:List D}(ho:ds.any (aDd d)=false)(h:∀S',Agr op S S' us->∀ρ,Step P n ⟨some d,op,ty,pos,af,gd⟩ (S'.at ρ) (λs=>∃b,s=(S'.at ρ).setadd d (.bp b 0 0) (.box b 0 (ds.map ρ.dd)))):
  lT P n ⟨some d,op,ty,pos,af,gd⟩ S ⟨.bp d 0 0,[(d,some (.box ds))],us,[d]⟩:=by
 intro S' hA hn ρ;obtain⟨hf,hl⟩:=hn d (by simp);refine gR (h S' hA ρ) ?_;rintro s ⟨b,rfl⟩;have H:=bMd (ρ:=ρ) (h:=d) b 0;refine⟨ρ.setB d b 0,rfl,vY ?_⟩;obtain⟨e1,e2⟩:=bQf (ρ:=ρ) hl b 0;have h1:=H.at hf;have h2:=wN (ρ:=ρ.setB d b 0) S' d (.bp d 0 0);simp only[VS.app,chg,aDk _ (aAh hf)];have hh:(ρ.setB d b 0).av (.bp d 0 0)=.bp b 0 0:=by simp only[Rho.av,Rho.a0,e1,e2]
 rw[h1,hh] at h2;have h3:(VS.mk ((d,AV.bp d 0 0)::S'.env) (S'.objs++[(d,VO.box ds)])).at (ρ.setB d b 0)=(St.mk ((VS.mk ((d,AV.bp d 0 0)::S'.env) S'.objs).at (ρ.setB d b 0)).env (((VS.mk ((d,AV.bp d 0 0)::S'.env) S'.objs).at (ρ.setB d b 0)).objs++[(ρ.setB d b 0).mo d (.box ds)])):=by
  simp[VS.at]
 rw[h3,<-h2];simp only[St.setadd,St.set,Rho.mo,e1,e2,oQ (λx=>H.dd (x:=x)) ho]
theorem aMu[Mode]{e k:Nat}{rows:List (List D)}(h:∀S',Agr op S S' us->∀ρ,Step P n ⟨some d,op,ty,pos,af,gd⟩ (S'.at ρ) (λs=>∃v,s=(S'.at ρ).setadd d (.d (.lit v)) (.arr v e k rows))):
  lT P n ⟨some d,op,ty,pos,af,gd⟩ S ⟨.d (.hv 0 d 0),[(d,some (.arr e k rows))],us,[d]⟩:=by
 intro S' hA hn ρ;obtain⟨hf,hl⟩:=hn d (by simp);refine gR (h S' hA ρ) ?_;rintro s ⟨v,rfl⟩;have H:=aDe (ρ:=ρ) (h:=d) v;refine⟨ρ.setS d v,rfl,vY ?_⟩;have e1:=aMv (ρ:=ρ) hl v;have h1:=H.at hf;have h2:=wN (ρ:=ρ.setS d v) S' d (.d (.hv 0 d 0));simp only[VS.app,chg,aDk _ (aAh hf)];have hh:(ρ.setS d v).av (.d (.hv 0 d 0))=.d (.lit v):=by simp only[Rho.av,Rho.a0,Rho.dd,e1]
 rw[h1,hh] at h2;have h3:(VS.mk ((d,AV.d (.hv 0 d 0))::S'.env) (S'.objs++[(d,VO.arr e k rows)])).at (ρ.setS d v)=(St.mk ((VS.mk ((d,AV.d (.hv 0 d 0))::S'.env) S'.objs).at (ρ.setS d v)).env (((VS.mk ((d,AV.d (.hv 0 d 0))::S'.env) S'.objs).at (ρ.setS d v)).objs++[(ρ.setS d v).mo d (.arr e k rows)])):=by
  simp[VS.at]
 rw[h3,<-h2];simp only[St.setadd,St.set,Rho.mo,e1]
theorem bCy[Mode]{h:Nat}{m m':VO}(hm:ob S.objs h=some m)(hu:h∈us)(hs:∀S',Agr op S S' us->∀(ρ:Rho) i,(S'.at ρ).objs[i]?=some (ρ.mo h m)->aY P n ⟨none,op,ty,pos,af,gd⟩ (S'.at ρ) ((S'.at ρ).put1 i (ρ.mo h m'))):
  lT P n ⟨none,op,ty,pos,af,gd⟩ S ⟨.any,[(h,some m')],us,[]⟩:=by
 intro S' hA _ ρ;obtain⟨i,h1,h2,_⟩:=zK (ρ:=ρ) ((hA.ob h hu).trans hm);refine gR (hs S' hA ρ i h1) ?_;rintro s rfl;refine⟨ρ,rfl,vY ?_⟩;simp only[VS.app,chg,VS.at,St.put1,h2]
theorem aCs{h k:Nat}:∀{objs:List (Nat×VO)},objs.any (λp=>Nat.beq p.1 h||uN h p.2)=false->(iA k objs).any (λp=>Nat.beq p.1 h||uN h p.2)=false
 |[],_=>rfl
 | p::l,hn=>by
  simp only[List.any_cons,Bool.or_eq_false_iff] at hn;simp only[iA];cases Nat.beq p.1 k with
  |true=>exact hn.2
  | false=>
   simp only[cond_false,List.any_cons,Bool.or_eq_false_iff];exact⟨hn.1,aCs hn.2⟩
theorem bMt[Mode]{h e k:Nat}{rows rows':List (List D)}(hm:ob S.objs h=some (.arr e k rows))(hu:h∈us)
  (hs:∀S',Agr op S S' us->∀(ρ:Rho) i,(S'.at ρ).objs[i]?=some (.arr (ρ.ss h) e k rows)->Step P n ⟨some d,op,ty,pos,af,gd⟩ (S'.at ρ) (λs=>∃v,s=(S'.at ρ).setput d (.d (.lit v)) i (.arr v e k rows'))):
  lT P n ⟨some d,op,ty,pos,af,gd⟩ S ⟨.d (.hv 0 d 0),[(h,none),(d,some (.arr e k rows'))],us,[d]⟩:=by
 intro S' hA hn ρ;obtain⟨hf,hl⟩:=hn d (by simp);have hm':=(hA.ob h hu).trans hm;obtain⟨i,h1,_,h4⟩:=zK (ρ:=ρ) hm';refine gR (hs S' hA ρ i h1) ?_;rintro s ⟨v,rfl⟩;have H:=aDe (ρ:=ρ) (h:=d) v;refine⟨ρ.setS d v,rfl,?_⟩;have e1:=aMv (ρ:=ρ) hl v;have h1':=H.at hf;have h2:=wN (ρ:=ρ.setS d v) S' d (.d (.hv 0 d 0));have hh:(ρ.setS d v).av (.d (.hv 0 d 0))=.d (.lit v):=by simp only[Rho.av,Rho.a0,Rho.dd,e1]
 rw [h1',hh] at h2;have h5:(St.set (S'.at ρ) d (.d (.lit v))).env=λj=>(ρ.setS d v).av (lk ((d,AV.d (.hv 0 d 0))::S'.env) j):=congrArg St.env h2;have h6:(S'.objs.map λp=>ρ.mo p.1 p.2)=S'.objs.map λp=>(ρ.setS d v).mo p.1 p.2:=(congrArg St.objs h1').symm;simp only[VS.app,chg,aDk _ (aCs (k:=h) (aAh hf))];have h7:Ent (St.mk (St.set (S'.at ρ) d (.d (.lit v))).env ((S'.at ρ).objs.set i (.arr v e k rows'))) ((VS.mk ((d,AV.d (.hv 0 d 0))::S'.env) (iA h S'.objs++[(d,VO.arr e k rows')])).at (ρ.setS d v)):=by
  rw [h5];refine yM ?_;have hset:∀x:MO,((S'.objs.map λp=>ρ.mo p.1 p.2).set i x).Perm (x::(iA h S'.objs).map λp=>ρ.mo p.1 p.2):=by
   intro x;have hi:i<(S'.objs.map λp=>ρ.mo p.1 p.2).length:=(List.getElem?_eq_some_iff.1 h1).1;have hx:(S'.objs.map λp=>ρ.mo p.1 p.2)[i]=ρ.mo h (.arr e k rows):=(List.getElem?_eq_some_iff.1 h1).2;have a1:((S'.objs.map λp=>ρ.mo p.1 p.2).set i x).Perm (x::(S'.objs.map λp=>ρ.mo p.1 p.2).eraseIdx i):=by
    rw[List.set_eq_take_append_cons_drop,if_pos hi,List.eraseIdx_eq_take_drop_succ];exact List.perm_middle
   have a2:(S'.objs.map λp=>ρ.mo p.1 p.2).Perm (ρ.mo h (.arr e k rows)::(S'.objs.map λp=>ρ.mo p.1 p.2).eraseIdx i):=by
    conv=>lhs;rw[<-List.set_getElem_self hi,hx]
    rw[List.set_eq_take_append_cons_drop,if_pos hi,List.eraseIdx_eq_take_drop_succ];exact List.perm_middle
   exact a1.trans (.cons _ (List.Perm.cons_inv (a2.symm.trans h4)))
  have h8:((iA h S'.objs).map λp=>ρ.mo p.1 p.2)=(iA h S'.objs).map λp=>(ρ.setS d v).mo p.1 p.2:=
   (oQ (λp hp=>by
    simp only[Bool.or_eq_false_iff] at hp;exact H.mo hp.1 hp.2) (aCs (k:=h) (aAh hf))).symm
  refine(hset _).trans ?_;rw[h8,List.map_append];refine List.Perm.trans ?_ List.perm_append_comm;simp only[List.map_cons,List.map_nil,List.singleton_append,Rho.mo,e1];exact .refl _
 exact h7
theorem bJj[Mode]{h e k:Nat}{rows rows':List (List D)}(hm:ob S.objs h=some (.arr e k rows))(hu:h∈us)
  (hs:∀S',Agr op S S' us->∀(ρ:Rho) i,(S'.at ρ).objs[i]?=some (.arr (ρ.ss h) e k rows)->Step P n ⟨some d,op,ty,pos,af,gd⟩ (S'.at ρ) (λs=>∃v,s=(S'.at ρ).setput d (.d (.lit v)) i (.arr v e k rows'))):
  lT P n ⟨some d,op,ty,pos,af,gd⟩ S ⟨.d (.sl k rows'),[(h,none)],us,[]⟩:=by
 intro S' hA hn ρ;have hm':=(hA.ob h hu).trans hm;obtain⟨i,h1,_,h4⟩:=zK (ρ:=ρ) hm';refine gR (hs S' hA ρ i h1) ?_;rintro s ⟨v,rfl⟩;refine⟨ρ,rfl,λA M w0 n a w hR=>?_⟩;have hset:∀x:MO,((S'.objs.map λp=>ρ.mo p.1 p.2).set i x).Perm (x::(iA h S'.objs).map λp=>ρ.mo p.1 p.2):=by
  intro x;have hi:i<(S'.objs.map λp=>ρ.mo p.1 p.2).length:=(List.getElem?_eq_some_iff.1 h1).1;have hx:(S'.objs.map λp=>ρ.mo p.1 p.2)[i]=ρ.mo h (.arr e k rows):=(List.getElem?_eq_some_iff.1 h1).2;have a1:((S'.objs.map λp=>ρ.mo p.1 p.2).set i x).Perm (x::(S'.objs.map λp=>ρ.mo p.1 p.2).eraseIdx i):=by
   rw[List.set_eq_take_append_cons_drop,if_pos hi,List.eraseIdx_eq_take_drop_succ];exact List.perm_middle
  have a2:(S'.objs.map λp=>ρ.mo p.1 p.2).Perm (ρ.mo h (.arr e k rows)::(S'.objs.map λp=>ρ.mo p.1 p.2).eraseIdx i):=by
   conv=>lhs;rw[<-List.set_getElem_self hi,hx]
   rw[List.set_eq_take_append_cons_drop,if_pos hi,List.eraseIdx_eq_take_drop_succ];exact List.perm_middle
  exact a1.trans (.cons _ (List.Perm.cons_inv (a2.symm.trans h4)))
 have hp:=(hset (.arr v e k rows')).trans (List.perm_append_comm (l₁:=[MO.arr v e k rows']));have hk:∀r∈rows',r.length=k:=by
  have hmem:MO.arr v e k rows'∈(S'.objs.map λp=>ρ.mo p.1 p.2).set i (.arr v e k rows'):=hp.mem_iff.2 (by simp);obtain⟨_,_,_,hr⟩:=hR.inv.holds _ hmem;exact hr
 have h2:=wN (ρ:=ρ) S' d (.d (.sl k rows'));have h5:upd (S'.at ρ).env d (.d (.sl k rows'))=λj=>ρ.av (lk ((d,AV.d (.sl k rows'))::S'.env) j):=congrArg St.env h2;have hE:Ent (St.mk (upd (S'.at ρ).env d (.d (.lit v))) ((S'.at ρ).objs.set i (.arr v e k rows'))) ⟨upd (S'.at ρ).env d (.d (.sl k rows')),(iA h S'.objs).map λp=>ρ.mo p.1 p.2⟩:=
  kD hp λj=>by
   unfold upd;cases Nat.beq d j with
   |true=>exact .d (bPb hk)
   |false=>exact .same _
 have:=hE A M w0 n a w hR;rw[h5] at this;exact this
theorem bBw{a b:List (Nat×Option VO)}:∀{l:List (Nat×VO)},chg (a++b) l=chg b (chg a l):=by
 induction a with
 |nil=>intro l;rfl
 | cons p a ih=>
  intro l;obtain⟨h,m⟩:=p;cases m with
  |some m=>simp only[List.cons_append,chg,ih]
  |none=>simp only[List.cons_append,chg,ih]
theorem aVh{d:Nat}{m:VO}{x:Nat×VO}(hx:Nat.beq x.1 d=false):∀{l:List (Nat×VO)},(iB d m (l++[x])).Perm (iB d m l++[x])
 |[]=>by simp only[List.nil_append,iB,hx,cond_false];exact List.Perm.swap _ _ _
 | p::l=>by
  simp only[List.cons_append,iB];cases Nat.beq p.1 d with
  |true=>exact .refl _
  |false=>exact .cons _ (aVh hx)
theorem aYz{f g:Nat×VO->MO}{d:Nat}{m m':VO}(hm:f (d,m)=g (d,m')):∀{l:List (Nat×VO)},(∀p∈l,f p=g p)->(iB d m l).map f=(iB d m' l).map g
 |[],_=>by simp[iB,hm]
 | p::l,h=>by
  simp only[iB];cases hb:Nat.beq p.1 d with
  | true=>
   have:=Nat.eq_of_beq_eq_true hb;simp only[cond_true,List.map_cons];rw[this,hm,List.map_congr_left λq hq=>h q (List.mem_cons_of_mem _ hq)]
  | false=>
   simp only[cond_false,List.map_cons];rw[h p (by simp),aYz hm λq hq=>h q (List.mem_cons_of_mem _ hq)]
def xF(h:Nat)(e:Eff):Bool:=nD h e.v||e.ch.any λp=>Nat.beq p.1 h||(match p.2 with|some m=>uN h m|none=>false)
theorem aZo{h k:Nat}{m:VO}:∀{l:List (Nat×VO)},(l.any λp=>Nat.beq p.1 h||uN h p.2)=false->Nat.beq k h=false->uN h m=false->((iB k m l).any λp=>Nat.beq p.1 h||uN h p.2)=false
 |[],_,h1,h2=>by simp[iB,h1,h2]
 | p::l,hl,h1,h2=>by
  simp only[List.any_cons,Bool.or_eq_false_iff] at hl;simp only[iB];cases hb:Nat.beq p.1 k with
  |true=>simp only[cond_true,List.any_cons,Bool.or_eq_false_iff];exact⟨⟨hl.1.1,h2⟩,hl.2⟩
  |false=>simp only[cond_false,List.any_cons,Bool.or_eq_false_iff];exact⟨hl.1,aZo hl.2 h1 h2⟩
theorem aGd{h:Nat}:∀{c:List (Nat×Option VO)} {l:List (Nat×VO)},(l.any λp=>Nat.beq p.1 h||uN h p.2)=false->(c.any λp=>Nat.beq p.1 h||(match p.2 with|some m=>uN h m|none=>false))=false->((chg c l).any λp=>Nat.beq p.1 h||uN h p.2)=false
 |[],_,h1,_=>h1
 | (k,some m)::c,l,h1,h2=>by
  simp only[List.any_cons,Bool.or_eq_false_iff] at h2;have:=aGd (c:=c) (aZo h1 h2.1.1 h2.1.2) h2.2;exact this
 | (k,none)::c,l,h1,h2=>by
  simp only[List.any_cons,Bool.or_eq_false_iff] at h2;have:=aGd (c:=c) (aCs (k:=k) h1) h2.2;exact this
theorem aSm{h:Nat}{S:VS}{dst:Option Nat}{e:Eff}(hS:kZ h S=false)(he:xF h e=false):kZ h (S.app dst e)=false:=by
 simp only[kZ,Bool.or_eq_false_iff] at hS|-;simp only[xF,Bool.or_eq_false_iff] at he;refine⟨?_,aGd hS.2 he.2⟩;cases dst with
 |none=>exact hS.1
 |some d=>simp only[VS.app,List.any_cons,Bool.or_eq_false_iff];exact⟨he.1,hS.1⟩
theorem bMu[Mode]{q e k j:Nat}{zs:List D}{ch:List (Nat×Option VO)}{v:AV}{nw:List Nat}(hz:zs[j]?=some (.lit (.slice none 0 0)))(hq:xF q ⟨v,ch++[(d,some (.box zs))],us,nw⟩=false)
  (h:lT P n ⟨some d,op,ty,pos,af,gd⟩ S ⟨v,ch++[(d,some (.box zs))],us,nw⟩):lT P n ⟨some d,op,ty,pos,af,gd⟩ S ⟨v,ch++[(q,some (.arr e k [])),(d,some (.box (zs.set j (.hv 0 q 0))))],us,q::nw⟩:=by
 intro S' hA hn ρ;obtain⟨gf,gl⟩:=hn q (by simp);refine gR (h S' hA (λx hx=>hn x (List.mem_cons_of_mem _ hx)) ρ) ?_;rintro s ⟨ρ1,hβ,hE⟩;have G:=aDe (ρ:=ρ1) (h:=q) (.slice none 0 0);refine⟨ρ1.setS q (.slice none 0 0),hβ,hE.trans ?_⟩;have hW:=aSm (dst:=some d) gf hq;rw[<-G.at hW];have hs:=aMv (ρ:=ρ1) gl (.slice none 0 0)
 generalize ρ1.setS q (.slice none 0 0)=ρ2 at hs|-
 simp only[xF,List.any_append,List.any_cons,Bool.or_eq_false_iff] at hq;have hqd:Nat.beq q d=false:=by
  cases hb:Nat.beq q d with
  |false=>rfl
  |true=>have:=Nat.eq_of_beq_eq_true hb;subst this;simp at hq
 simp only[kZ,Bool.or_eq_false_iff] at gf;have hL:=aGd (c:=ch) gf.2 hq.2.1;have hbox:ρ2.mo d (.box zs)=ρ2.mo d (.box (zs.set j (.hv 0 q 0))):=by
  simp only[Rho.mo,List.map_set];have:ρ2.dd (.hv 0 q 0)=.lit (.slice none 0 0):=by simp only[Rho.dd,hs]
  rw[this];have h0:(zs.map ρ2.dd)[j]?=some (.lit (.slice none 0 0)):=by rw[List.getElem?_map,hz];rfl
  obtain⟨hj,h1⟩:=List.getElem?_eq_some_iff.1 h0;rw[<-h1,List.set_getElem_self]
 simp only[VS.app,bBw,chg,aDk _ hL];unfold VS.at;refine(gF e k).trans (yM ?_);refine List.Perm.trans ?_ ((aVh hqd).map _).symm;rw[List.map_append,aYz (f:=λp=>ρ2.mo p.1 p.2) (g:=λp=>ρ2.mo p.1 p.2) hbox λ_ _=>rfl];simp only[List.map_cons,List.map_nil,Rho.mo,hs];exact .refl _
theorem bJk[Mode]{q e k j:Nat}{xs:List D}{ch:List (Nat×Option VO)}{nw:List Nat}(hz:xs[j]?=some (.lit (.slice none 0 0)))(hq:xF q ⟨.agg xs,ch,us,nw⟩=false)
  (h:lT P n ⟨some d,op,ty,pos,af,gd⟩ S ⟨.agg xs,ch,us,nw⟩):lT P n ⟨some d,op,ty,pos,af,gd⟩ S ⟨.agg (xs.set j (.hv 0 q 0)),ch++[(q,some (.arr e k []))],us,q::nw⟩:=by
 intro S' hA hn ρ;obtain⟨gf,gl⟩:=hn q (by simp);refine gR (h S' hA (λx hx=>hn x (List.mem_cons_of_mem _ hx)) ρ) ?_;rintro s ⟨ρ1,hβ,hE⟩;have G:=aDe (ρ:=ρ1) (h:=q) (.slice none 0 0);refine⟨ρ1.setS q (.slice none 0 0),hβ,hE.trans ?_⟩;have hW:=aSm (dst:=some d) gf hq;rw[<-G.at hW];have hs:=aMv (ρ:=ρ1) gl (.slice none 0 0)
 generalize ρ1.setS q (.slice none 0 0)=ρ2 at hs|-
 simp only[xF,Bool.or_eq_false_iff] at hq;simp only[kZ,Bool.or_eq_false_iff] at gf;have hL:=aGd (c:=ch) gf.2 hq.2;have hval:ρ2.av (.agg xs)=ρ2.av (.agg (xs.set j (.hv 0 q 0))):=by
  simp only[Rho.av,Rho.a0,List.map_set];have:ρ2.dd (.hv 0 q 0)=.lit (.slice none 0 0):=by simp only[Rho.dd,hs]
  rw[this];have h0:(xs.map ρ2.dd)[j]?=some (.lit (.slice none 0 0)):=by rw[List.getElem?_map,hz];rfl
  obtain⟨hj,h1⟩:=List.getElem?_eq_some_iff.1 h0;rw[<-h1,List.set_getElem_self]
 have henv:(λk=>ρ2.av (lk ((d,AV.agg xs)::S'.env) k))=λk=>ρ2.av (lk ((d,AV.agg (xs.set j (.hv 0 q 0)))::S'.env) k):=by
  funext k
  simp only[lk];cases Nat.beq d k with
  |true=>exact hval
  |false=>rfl
 simp only[VS.app,bBw,chg,aDk _ hL];unfold VS.at;rw[henv];refine(gF e k).trans (yM ?_);simp only[List.map_append,List.map_cons,List.map_nil,Rho.mo,hs];exact .refl _
end lift
end Go.Am
end
section
namespace Go.Am
theorem bGu[Mode]{env:Nat->AV}{objs:List MO}{i:Nat}{m m1 m2:MO}(ho:objs[i]?=some m1)(hf:∀b o,m.foot b o->m1.foot b o\/m2.foot b o)
  (hh:∀w X,m1.holds w X->m2.holds w X->(∀b o,m2.foot b o->¬m1.foot b o)->m.holds w X):Ent ⟨env,objs++[m2]⟩ ⟨env,objs.set i m⟩:=by
 intro A M w0 n a w hR;have hmi:m1∈objs:=List.mem_of_getElem? ho;have hil:=(List.getElem?_eq_some_iff.1 ho).1;have hie:=(List.getElem?_eq_some_iff.1 ho).2;obtain⟨s1,_,s3⟩:=List.pairwise_append.1 hR.inv.sep;have hsep:=List.pairwise_iff_getElem.1 s1;have hdis:∀x∈objs,∀b o,x.foot b o->¬m2.foot b o:=λx hx b o h h'=>s3 x hx m2 (by simp) b o h h';have k:=hh w _ (hR.inv.holds m1 (List.mem_append.2 (.inl hmi))) (hR.inv.holds m2 (by simp)) λb o h2 h1=>hdis m1 hmi b o h1 h2;refine hR.change (Z:=λ_ _=>False) (Keeps.refl _ _) (λ_ _ h=>h.elim) (λb o _ hx=>?_) ?_ λhm x hx=>?_
 ·obtain⟨x,hx,hxf⟩:=hx
  rcases List.mem_or_eq_of_mem_set hx with h|rfl
  ·exact⟨x,List.mem_append.2 (.inl h),hxf⟩
  ·rcases hf _ _ hxf with h|h
   ·exact⟨m1,List.mem_append.2 (.inl hmi),h⟩
   ·exact⟨m2,by simp,h⟩
 ·refine List.pairwise_iff_getElem.2 λp q hp hq hpq b o hpf hqf=>?_;simp only[List.length_set] at hp hq;simp only[List.getElem_set] at hpf hqf;split at hpf
  ·rename_i hip
   split at hqf
   ·omega
   ·subst hip
    rcases hf _ _ hpf with h|h
    ·exact hsep i q hp hq hpq b o (by rw[hie];exact h) hqf
    ·exact hdis _ (List.getElem_mem hq) b o hqf h
  ·split at hqf
   ·rename_i hiq
    subst hiq
    rcases hf _ _ hqf with h|h
    ·exact hsep p i hp hq hpq b o hpf (by rw[hie];exact h)
    ·exact hdis _ (List.getElem_mem hp) b o hpf h
   ·exact hsep p q hp hq hpq b o hpf hqf
 ·rcases List.mem_or_eq_of_mem_set hx with h|rfl
  ·exact bV (hR.inv.holds x (List.mem_append.2 (.inl h))) (Z:=λ_ _=>False) (Keeps.refl _ _) (λ_ _ _ h=>h) hm
  ·exact bV k (Z:=λ_ _=>False) (Keeps.refl _ _) (λ_ _ _ h=>h) hm
section
variable{env:Nat->AV}{objs:List MO}{i e k j:Nat}{vs:List Value}{rss:List (List (List D))}{v:Value}{rows:List (List D)}
theorem bKk[Mode](ho:objs[i]?=some (.fam e k vs rss)):Ent ⟨env,objs++[.arr v e k rows]⟩ ⟨env,objs.set i (.fam e k (vs++[v]) (rss++[rows]))⟩:=
 bGu ho (λb o ⟨u,hu,hb⟩=>by
  rcases List.mem_append.1 hu with h|h
  ·exact .inl ⟨u,h,hb⟩
  ·simp at h;subst h;exact .inr hb) λw X h1 h2 h3=>by
  obtain⟨hl,hs,hh⟩:=h1;refine⟨by simp[hl],List.pairwise_append.2 ⟨hs,by simp,λa ha b hb x hx hy=>?_⟩,λq u us hu hus=>?_⟩
  ·simp at hb;subst hb
   exact h3 x 0 hy ⟨a,ha,hx⟩
  ·by_cases hq:q<vs.length
   ·rw[List.getElem?_append_left hq] at hu;rw[List.getElem?_append_left (by omega)] at hus;exact hh q u us hu hus
   ·have hq2:=(List.getElem?_eq_some_iff.1 hu).1
    simp at hq2
    have:q=vs.length:=by omega
    subst this;rw[List.getElem?_append_right (Nat.le_refl _)] at hu;rw[hl,List.getElem?_append_right (Nat.le_refl _)] at hus
    simp at hu hus
    subst hu;subst hus;exact h2
theorem bEg[Mode](e k:Nat):Ent ⟨env,objs⟩ ⟨env,objs++[.fam e k [] []]⟩:=by
 intro A M w0 n a w hR;exact hR.add (w':=w) (m:=.fam e k [] []) (Keeps.refl _ _) (λb o hf=>by obtain⟨v,hv,_⟩:=hf;cases hv)
  (λhm=>⟨rfl,List.Pairwise.nil,λi v rows hv _=>by simp at hv⟩)
end
section
variable{P:Program}{n d:Nat}{st:St}{o:Oper}{f e k j:Nat}{vs:List Value}{rss:List (List (List D))}{v:Value}{rows rows':List (List D)}
theorem aZw[Mode]{α:Type}{x y:Operand}{t e0 m bytes:Nat}{v0 z:Value}{g:α->List D}{c c':List (List α)}{row:List α}{ty:TypeId}{pos:String}{af:Array Edge}{gd:Option (Nat×Bool)}(hd:d<n)(ht:SliceTy P t e0 1 bytes z)
  (hx:st.eval x=.d (.lit v0))(ho:st.objs[m]?=some (.arr v0 e0 1 (vs.map λv=>[.lit v])))(hf:st.objs[f]?=some (.fam e k vs (c.map λr=>r.map g)))(hy:st.eval y=.d (.sl 1 [[.lit v]]))(hb:app bytes c [row]=some c')(hby:Nat.blt 0 bytes=true):
  Step P n ⟨some d,.call {callee:=.builtin .append,args:= #[x,y],argTypes:= #[t,t]},ty,pos,af,gd⟩ st (λs=>∃v',s=⟨upd st.env d (.d (.lit v')),st.objs.set m (.arr v' e0 1 ((vs++[v]).map λv=>[.lit v]))⟩):=by
 intro A M w0 a w hR K Q hK;obtain⟨hl,_⟩:=hR.inv.holds _ (List.mem_of_getElem? hf);have hl2:vs.length=c.length:=by simpa using hl
 have hb2:app bytes vs [v]=some (vs++[v]):=by
  unfold app at hb|-;split at hb
  ·rename_i hc
   rw[if_pos (by rw[hl2];exact hc)]
  ·cases hb
 exact iW (f:=λv=>[D.lit v]) (xs:=vs) (ys:=[v]) hd ht hx ho hy (λ_=>rfl) hb2 hby A M w0 a w hR K Q hK
end
end Go.Am
end
end
