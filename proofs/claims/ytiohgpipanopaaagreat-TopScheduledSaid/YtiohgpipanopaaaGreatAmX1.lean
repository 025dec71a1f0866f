/- Several texts, one behind the other. -/
import Derived.Test.YtiohgpipanopaaaGreatAmShort
import Derived.Test.YtiohgpipanopaaaGreatAmRes
import Derived.Test.YtiohgpipanopaaaGreatAmMap
section
namespace Go.Am
class FA (P:Program) (s f:Nat) (off:outParam Nat):Prop where h:cK P s f off
class I1 (P:Program) (t:TypeId):Prop where h:iF P t
class SO (P:Program) (t:TypeId) (e k:outParam Nat):Prop where h:gU P t e k
structure tJ(k:Nat)(p:Prop):Prop where h:p
structure Wr(p:Prop):Prop where h:p
theorem bd0{p:Prop}(z:Wr p):tJ 0 p:=⟨z.h⟩
section
variable{P:Program}{n d k:Nat}{st st':St}{Q:Exit->St->Prop}{N:St->Prop}{ops:Array Oper}{rest:List Oper}{op:Op}{ty:TypeId}{pos:String}{af:Array Edge}{dst:Option Nat}
theorem q1(h:bB P n ⟨dst,op,ty,pos,af,none⟩ st st')(hr:tJ k (TrL P n ops rest st' Q)):tJ (k+1) (TrL P n ops (⟨dst,op,ty,pos,af,none⟩::rest) st Q):=⟨tr1 rfl h hr.h⟩
theorem q2{j s:Nat}{b c:Bool}(hj:(ops[j]?).bind (·.dst)=some s)(hb:st.env s=.d (.lit (.bool c)))(hc:c=b)(hs:Nat.blt s n=true)(h:bB P n ⟨dst,op,ty,pos,af,some (j,b)⟩ st st')(hr:tJ k (TrL P n ops rest st' Q)):
  tJ (k+1) (TrL P n ops (⟨dst,op,ty,pos,af,some (j,b)⟩::rest) st Q):=⟨bGl rfl hj (aE hs) hb hc h hr.h⟩
theorem q3{j s:Nat}{b c:Bool}(hj:(ops[j]?).bind (·.dst)=some s)(hb:st.env s=.d (.lit (.bool c)))(hc:c=!b)(hs:(Nat.blt d n&&Nat.blt s n)=true)(hr:tJ k (TrL P n ops rest (st.set d (.tup [])) Q)):
  tJ (k+1) (TrL P n ops (⟨some d,op,ty,pos,af,some (j,b)⟩::rest) st Q):=⟨bJo rfl rfl (aE (bb hs).1) hj (aE (bb hs).2) hb hc hr.h⟩
theorem q4{j s:Nat}{b:Bool}(hj:(ops[j]?).bind (·.dst)=some s)(hb:st.env s=.tup [])(hs:(Nat.blt d n&&Nat.blt s n)=true)(hr:tJ k (TrL P n ops rest (st.set d (.tup [])) Q)):
  tJ (k+1) (TrL P n ops (⟨some d,op,ty,pos,af,some (j,b)⟩::rest) st Q):=⟨bGi rfl rfl (aE (bb hs).1) hj (aE (bb hs).2) hb hr.h⟩
theorem q5(h:tJ k (N st)):tJ (k+1) (TrL P n ops [] st (jO N Q)):=⟨bN h.h⟩
theorem q6{id:Nat}{l:List Oper}(h:tJ k (TrL P n l.toArray l st Q)):tJ (k+1) (Tr P n (.region id l.toArray false) st Q):=⟨bQ h.h⟩
theorem q7{x y:Code}(h:tJ k (Tr P n x st (jO (λs=>Tr P n y s Q) Q))):tJ (k+1) (Tr P n (.seq x y) st Q):=⟨bT h.h⟩
theorem q8(h:tJ k (N st)):tJ (k+1) (Tr P n .skip st (jO N Q)):=⟨sD h.h⟩
theorem q9{id:Nat}{c:Code}(h:tJ k (Tr P n c st (xA id N (jO N Q)))):tJ (k+1) (Tr P n (.block id c) st (jO N Q)):=⟨aKw h.h⟩
end
theorem aJb{l:List MO}{m:MO}{i:Nat}(h:l[i]?=some m):l[i]?=some m:=h
theorem au (k : Nat){G G':Prop}(hr:G')(h:Wr G'->tJ k G:=by
    intro z
    repeat (first
      |refine q7 ?_
      |refine q6 ?_
      |refine q5 ?_
      |refine q8 ?_
      |refine q9 ?_
      | (first
         |apply q1
         | (apply q2
            case hj=>exact rfl
            case hb=>exact rfl
            case hc=>first|assumption|exact rfl
            case hs=>exact rfl)
         case h =>first
           | (with_reducible apply aKr
              case hd=>exact aE rfl
              case hk=>exact rfl
              case hx=>first
                |exact(rfl:_=AV.d _)
                |exact(rfl:_=AV.tup _)
                |exact(rfl:_=AV.agg _)
                |exact(rfl:_=AV.bp _ _ _)
                |exact(rfl:_=AV.cp _))
           | (with_reducible apply aHs
              case hd=>exact aE rfl
              case hk=>exact rfl
              case hx=>first
                |exact(rfl:_=AV.d _)
                |exact(rfl:_=AV.agg _)
                |exact(rfl:_=AV.bp _ _ _)
                |exact(rfl:_=AV.cp _)
                |exact(rfl:_=AV.tup _))
           | (with_reducible apply aFp
              case hd=>exact aE rfl
              case hx=>exact rfl
              case hy=>exact rfl
              case hr=>exact rfl)
           | (with_reducible apply aDc
              case hd=>exact aE rfl
              case hx=>exact rfl
              case hy=>exact rfl
              case hr=>exact rfl)
           | (with_reducible apply aBz
              case hd=>exact aE rfl
              case hx=>exact rfl
              case hf=>exact FA.h)
           | (with_reducible apply aAo
              case hd=>exact aE rfl
              case hx=>exact rfl
              case ho=>first
                |exact aJb rfl (i:=0)
                |exact aJb rfl (i:=1)
                |exact aJb rfl (i:=2)
                |exact aJb rfl (i:=3)
                |exact aJb rfl (i:=4)
                |exact aJb rfl (i:=5)
                |exact aJb rfl (i:=6)
                |exact aJb rfl (i:=7)
                |exact aJb rfl (i:=8)
                |exact aJb rfl (i:=9)
              case hj=>exact rfl
              case ht=>exact I1.h)
           |exact sex rfl rfl
           |exact scm rfl rfl rfl
           |exact sar rfl rfl rfl
           |exact sn rfl
           |exact sle rfl SO.h
           |exact spt (.d _) (by assumption)
           |exact spf (.d _) (by assumption)
           |exact slc rfl I1.h
         case' hr=>skip)
      |refine q4 rfl rfl rfl ?_
      |refine q3 rfl rfl (by first|assumption|rfl) rfl ?_)
    exact bd0 z):G:=(h ⟨hr⟩).h
end Go.Am
end
section
namespace Go.Am
structure Rho where
 β:Nat->Nat×Nat×Value
 b:Nat->Nat
 o:Nat->Nat
 s:Nat->Value
 bs:Nat->List Nat
 ck:Nat->Nat
namespace Rho
variable(ρ:Rho)
def bb(h:Nat):Nat:=bif Nat.ble 100000 h then(ρ.β h).1 else ρ.b h
def oo(h:Nat):Nat:=bif Nat.ble 100000 h then(ρ.β h).2.1 else ρ.o h
def ss(h:Nat):Value:=bif Nat.ble 100000 h then(ρ.β h).2.2 else ρ.s h
def dd:D->D
 | .hv q h j=>match q with
  |0=>.lit (ρ.ss h)
  |1=>.lit (.map (some (ρ.bb h)))
  |_=>.lit (.pointer (some ⟨ρ.bb h,ρ.oo h+j,none⟩))
 |x=>x
def a0:AV->AV
 | .d x=>.d (ρ.dd x)
 | .agg xs=>.agg (xs.map ρ.dd)
 | .bp h _ j=>.bp (ρ.bb h) (ρ.oo h) j
 | .ep v k i c=>match v with
  | .map (some h)=>.ep (ρ.ss h) k i c
  |_=>.any
 |x=>x
def a1:AV->AV
 | .tup vs=>.tup (vs.map ρ.a0)
 | .fn f vs=>.fn f (vs.map ρ.a0)
 | .mf f vs=>.mf f (vs.map ρ.a0)
 |x=>ρ.a0 x
def av:AV->AV
 | .tup vs=>.tup (vs.map ρ.a1)
 | .fn f vs=>.fn f (vs.map ρ.a1)
 | .mf f vs=>.mf f (vs.map ρ.a1)
 |x=>ρ.a0 x
end Rho
inductive VO where
 |box (ds:List D)
 |arr (e k:Nat) (rows:List (List D))
 |map (es:List (Value×AV))
 |raw (m:MO)
def Rho.mo(ρ:Rho)(h:Nat):VO->MO
 | .box ds=>.box (ρ.bb h) (ρ.oo h) (ds.map ρ.dd)
 | .arr e k rows=>.arr (ρ.ss h) e k rows
 | .map es=>.map (ρ.bb h) es (ρ.bs h) (ρ.ck h)
 | .raw m=>m
structure VS where
 env:List (Nat×AV)
 objs:List (Nat×VO)
def lk:List (Nat×AV)->Nat->AV
 |[],_=>.any
 |(k,v)::l,j=>bif Nat.beq k j then v else lk l j
def ob:List (Nat×VO)->Nat->Option VO
 |[],_=>none
 |(k,m)::l,h=>bif Nat.beq k h then some m else ob l h
def nB(h:Nat)(m:VO):List (Nat×VO)->List (Nat×VO)
 |[]=>[(h,m)]
 |(k,x)::l=>bif Nat.beq k h then(k,m)::l else(k,x)::nB h m l
def sW(h:Nat):List (Nat×VO)->List (Nat×VO)
 |[]=>[]
 |(k,x)::l=>bif Nat.beq k h then l else(k,x)::sW h l
def chg:List (Nat×Option VO)->List (Nat×VO)->List (Nat×VO)
 |[],l=>l
 |(h,some m)::c,l=>chg c (nB h m l)
 |(h,none)::c,l=>chg c (sW h l)
def VS.at(S:VS)(ρ:Rho):St:=⟨λk=>ρ.av (lk S.env k),S.objs.map λp=>ρ.mo p.1 p.2⟩
def VS.ev(S:VS):Operand->AV
 | .tmp t=>lk S.env t
 | .const v=>.d (.lit v)
 | .global _=>.any
 | .func f=>.fn f []
structure Eff where
 v:AV
 ch:List (Nat×Option VO)
 us:List Nat
 nw:List Nat
abbrev Eff.p(v:AV):Eff:=⟨v,[],[],[]⟩
abbrev Eff.r(v:AV)(us:List Nat):Eff:=⟨v,[],us,[]⟩
def VS.app(S:VS)(d:Option Nat)(e:Eff):VS:=
 ⟨match d with|some d=>(d,e.v)::S.env|none=>S.env,chg e.ch S.objs⟩
def aHe(h:Nat):D->Bool
 | .hv _ k _=>Nat.beq k h
 |_=>false
def yB(h:Nat):AV->Bool
 | .d x=>aHe h x
 | .agg xs=>xs.any (aHe h)
 | .bp k _ _=>Nat.beq k h
 | .ep v _ _ _=>match v with
  | .map (some k)=>Nat.beq k h
  |_=>false
 |_=>false
def aPp(h:Nat):AV->Bool
 | .tup vs=>vs.any (yB h)
 | .fn _ vs=>vs.any (yB h)
 | .mf _ vs=>vs.any (yB h)
 |x=>yB h x
def qL(h:Nat):AV->Bool
 | .tup vs=>vs.any (aPp h)
 | .fn _ vs=>vs.any (aPp h)
 | .mf _ vs=>vs.any (aPp h)
 |x=>yB h x
def aCx(h:Nat):VO->Bool
 | .box ds=>ds.any (aHe h)
 |_=>false
def pI(h:Nat)(S:VS):Bool:=S.env.any (λp=>qL h p.2)||S.objs.any λp=>Nat.beq p.1 h||aCx h p.2
structure Off(h:Nat)(ρ ρ':Rho):Prop where
 β:ρ'.β=ρ.β
 b:∀k,Nat.beq k h=false->ρ'.b k=ρ.b k
 o:∀k,Nat.beq k h=false->ρ'.o k=ρ.o k
 s:∀k,Nat.beq k h=false->ρ'.s k=ρ.s k
 bs:∀k,Nat.beq k h=false->ρ'.bs k=ρ.bs k
 ck:∀k,Nat.beq k h=false->ρ'.ck k=ρ.ck k
section
variable{h:Nat}{ρ ρ':Rho}
theorem Off.bb(H:Off h ρ ρ'){k:Nat}(hk:Nat.beq k h=false):ρ'.bb k=ρ.bb k:=by simp[Rho.bb,H.β,H.b k hk]
theorem Off.oo(H:Off h ρ ρ'){k:Nat}(hk:Nat.beq k h=false):ρ'.oo k=ρ.oo k:=by simp[Rho.oo,H.β,H.o k hk]
theorem Off.ss(H:Off h ρ ρ'){k:Nat}(hk:Nat.beq k h=false):ρ'.ss k=ρ.ss k:=by simp[Rho.ss,H.β,H.s k hk]
theorem Off.dd(H:Off h ρ ρ'){x:D}(hx:aHe h x=false):ρ'.dd x=ρ.dd x:=by
 cases x with
 | hv q k j=>
  have hk:Nat.beq k h=false:=hx;simp only[Rho.dd,H.bb hk,H.oo hk,H.ss hk]
 |_=>rfl
theorem sC{α β:Type}{f g:α->β}{p:α->Bool}(hp:∀x,p x=false->f x=g x):∀{l:List α},l.any p=false->l.map f=l.map g
 |[],_=>rfl
 | x::l,h=>by
  simp only[List.any_cons,Bool.or_eq_false_iff] at h;simp only[List.map_cons,hp x h.1,sC hp h.2]
theorem Off.a0(H:Off h ρ ρ'){x:AV}(hx:yB h x=false):ρ'.a0 x=ρ.a0 x:=by
 cases x with
 |d x=>simp only[Rho.a0,H.dd hx]
 |agg xs=>simp only[Rho.a0,sC (λx=>H.dd (x:=x)) hx]
 | bp k o j=>
  have hk:Nat.beq k h=false:=hx;simp only[Rho.a0,H.bb hk,H.oo hk]
 | ep v k i c=>
  cases v with
  | map r=>cases r with
   |none=>rfl
   | some k=>
    have hk:Nat.beq k h=false:=hx;simp only[Rho.a0,H.ss hk]
  |_=>rfl
 |_=>rfl
theorem Off.a1(H:Off h ρ ρ'){x:AV}(hx:aPp h x=false):ρ'.a1 x=ρ.a1 x:=by
 cases x with
 |tup vs=>simp only[Rho.a1,sC (λx=>H.a0 (x:=x)) hx]
 |fn f vs=>simp only[Rho.a1,sC (λx=>H.a0 (x:=x)) hx]
 |mf f vs=>simp only[Rho.a1,sC (λx=>H.a0 (x:=x)) hx]
 |any=>rfl
 |d x=>exact H.a0 (x:=.d x) hx
 |agg x=>exact H.a0 (x:=.agg x) hx
 |cp x=>rfl
 |bp b o j=>exact H.a0 (x:=.bp b o j) hx
 |ep v k i c=>exact H.a0 (x:=.ep v k i c) hx
 |fl n k r=>rfl
theorem Off.av(H:Off h ρ ρ'){x:AV}(hx:qL h x=false):ρ'.av x=ρ.av x:=by
 cases x with
 |tup vs=>simp only[Rho.av,sC (λx=>H.a1 (x:=x)) hx]
 |fn f vs=>simp only[Rho.av,sC (λx=>H.a1 (x:=x)) hx]
 |mf f vs=>simp only[Rho.av,sC (λx=>H.a1 (x:=x)) hx]
 |any=>rfl
 |d x=>exact H.a0 (x:=.d x) hx
 |agg x=>exact H.a0 (x:=.agg x) hx
 |cp x=>rfl
 |bp b o j=>exact H.a0 (x:=.bp b o j) hx
 |ep v k i c=>exact H.a0 (x:=.ep v k i c) hx
 |fl n k r=>rfl
theorem Off.mo(H:Off h ρ ρ'){k:Nat}{m:VO}(hk:Nat.beq k h=false)(hm:aCx h m=false):ρ'.mo k m=ρ.mo k m:=by
 cases m with
 |box ds=>simp only[Rho.mo,H.bb hk,H.oo hk,sC (λx=>H.dd (x:=x)) hm]
 |arr e k rows=>simp only[Rho.mo,H.ss hk]
 |map es=>simp only[Rho.mo,H.bb hk,H.bs _ hk,H.ck _ hk]
 |raw m=>rfl
theorem bYk{S:VS}(hS:S.env.any (λp=>qL h p.2)=false)(k:Nat):qL h (lk S.env k)=false:=by
 obtain⟨env,objs⟩:=S
 induction env with
 |nil=>rfl
 | cons p l ih=>
  simp only[List.any_cons,Bool.or_eq_false_iff] at hS;simp only[lk];cases Nat.beq p.1 k with
  |true=>exact hS.1
  |false=>exact ih hS.2
theorem Off.at(H:Off h ρ ρ'){S:VS}(hS:pI h S=false):S.at ρ'=S.at ρ:=by
 simp only[pI,Bool.or_eq_false_iff] at hS;have h1:(λk=>ρ'.av (lk S.env k))=λk=>ρ.av (lk S.env k):=funext λk=>H.av (bYk hS.1 k);have h2:(S.objs.map λp=>ρ'.mo p.1 p.2)=S.objs.map λp=>ρ.mo p.1 p.2:=
  sC (λp hp=>by
   simp only[Bool.or_eq_false_iff] at hp;exact H.mo hp.1 hp.2) hS.2
 simp only[VS.at,h1,h2]
end
def Rho.setB(ρ:Rho)(h b o:Nat):Rho:={ρ with b:=λk=>bif Nat.beq k h then b else ρ.b k,o:=λk=>bif Nat.beq k h then o else ρ.o k}
def Rho.setS(ρ:Rho)(h:Nat)(v:Value):Rho:={ρ with s:=λk=>bif Nat.beq k h then v else ρ.s k}
section
variable{ρ:Rho}{h:Nat}
theorem bSl(b o:Nat):Off h ρ (ρ.setB h b o):=⟨rfl,λk hk=>by simp[Rho.setB,hk],λk hk=>by simp[Rho.setB,hk],λ_ _=>rfl,λ_ _=>rfl,λ_ _=>rfl⟩
theorem aMp(v:Value):Off h ρ (ρ.setS h v):=⟨rfl,λ_ _=>rfl,λ_ _=>rfl,λk hk=>by simp[Rho.setS,hk],λ_ _=>rfl,λ_ _=>rfl⟩
theorem beq_refl(n:Nat):Nat.beq n n=true:=Nat.beq_refl n
theorem bWo(hl:Nat.ble 100000 h=false)(b o:Nat):(ρ.setB h b o).bb h=b/\(ρ.setB h b o).oo h=o:=by simp[Rho.bb,Rho.oo,hl,Rho.setB]
theorem aQz(hl:Nat.ble 100000 h=false)(v:Value):(ρ.setS h v).ss h=v:=by simp[Rho.ss,hl,Rho.setS]
theorem bBz(S:VS)(x:Operand):(S.at ρ).eval x=ρ.av (S.ev x):=by cases x<;>rfl
theorem at_set(S:VS)(d:Nat)(v:AV):(S.at ρ).set d (ρ.av v)=(VS.mk ((d,v)::S.env) S.objs).at ρ:=by
 simp only[VS.at,St.set,St.mk.injEq,and_true]
 funext k
 simp only[upd,lk];cases Nat.beq d k<;>rfl
theorem aQu{objs:List (Nat×VO)}{h:Nat}{m:VO}(hm:ob objs h=some m):∃i,(objs.map λp=>ρ.mo p.1 p.2)[i]?=some (ρ.mo h m)/\(∀m':VO,(objs.map λp=>ρ.mo p.1 p.2).set i (ρ.mo h m')=(nB h m' objs).map λp=>ρ.mo p.1 p.2)/\
  ((objs.map λp=>ρ.mo p.1 p.2).Perm (ρ.mo h m::(sW h objs).map λp=>ρ.mo p.1 p.2)):=by
 induction objs with
 |nil=>cases hm
 | cons p l ih=>
  obtain⟨k,x⟩:=p;simp only[ob] at hm;cases hb:Nat.beq k h with
  | true=>
   rw[hb] at hm;have:=Nat.eq_of_beq_eq_true hb;subst this
   simp at hm;subst hm
   exact⟨0,by simp,λm'=>by simp[nB],by simp[sW]⟩
  | false=>
   rw[hb] at hm;obtain⟨i,h1,h2,h3⟩:=ih (by simpa using hm);refine⟨i+1,by simpa using h1,λm'=>by simp[nB,hb,h2 m'],?_⟩;simp only[sW,hb,List.map_cons,cond_false];exact(List.Perm.cons _ h3).trans (.swap _ _ _)
theorem aHn{objs:List (Nat×VO)}{h:Nat}(m:VO)(hn:objs.any (λp=>Nat.beq p.1 h||aCx h p.2)=false):nB h m objs=objs++[(h,m)]:=by
 induction objs with
 |nil=>rfl
 | cons p l ih=>
  simp only[List.any_cons,Bool.or_eq_false_iff] at hn;simp only[nB,hn.1.1,cond_false,List.cons_append,ih hn.2]
theorem aIp{S:VS}(hS:pI h S=false):S.objs.any (λp=>Nat.beq p.1 h||aCx h p.2)=false:=by
 simp only[pI,Bool.or_eq_false_iff] at hS;exact hS.2
end
end Go.Am
end
