/- Several texts, one behind the other. -/
import Derived.Test.YtejdennodgdfhaaGreatDoorAmX11
import Derived.Test.YtejdennodgdfhaaGreatDoorAmClose
section
section
namespace Go.Am
section
variable{P:Program}(T:TT P)
def rdV(S:VS):ResultVar->(AV->Prop)->Prop
 | .tmp t,K=>frc (lk S.env t) K
 | .cell a t,K=>match lk S.env a,T.ty.get t with
  | .bp h _ j,some (i,td)=>match ob S.objs h with
   |some (.box ds)=>bif aCo td then tdK i.size j ds λes=>K (.agg es) else bif Nat.beq i.size 1 then tdK 1 j ds λes=>one1 es λx=>K (.d x) else False
   |_=>False
  |_,_=>False
def bMj(S:VS)(r:AV):List ResultVar->Prop
 |[x]=>rdV T S x λv=>vA S.objs v=r/\okA r=true
 |[x,y]=>rdV T S x λv=>rdV T S y λu=>∃a b,vA S.objs v=a/\vA S.objs u=b/\r=.tup [a,b]/\(okA a&&okA b)=true/\(aBy a&&aBy b)=true
 |[x,y,z]=>rdV T S x λv=>rdV T S y λu=>rdV T S z λt=>∃a b c,vA S.objs v=a/\vA S.objs u=b/\vA S.objs t=c/\r=.tup [a,b,c]/\(okA a&&(okA b&&okA c))=true/\(aBy a&&(aBy b&&aBy c))=true
 |[]=>r=.tup []
 |_=>False
variable{T}
theorem aIk{S:VS}{ρ:Rho}:∀{x:ResultVar} {K:AV->Prop},rdV T S x K->∃v,K v/\RVc P (S.at ρ) x (ρ.av v)
 | .tmp t,K,h=>⟨_,vC h,.tmp t rfl⟩
 | .cell a t,K,h=>by
  simp only[rdV] at h;split at h
  ·rename_i hh o j i td ha ht
   split at h
   ·rename_i ds hm
    obtain⟨p,hp,_⟩:=zK (ρ:=ρ) hm;cases hag:aCo td with
    | true=>
     rw[hag] at h;obtain⟨hl,h⟩:=xS (K:=λes=>K (.agg es)) h;exact⟨_,h,.cell a t (xC ha) hp (aIw ht hag rfl) aOq (by simpa using hl)⟩
    | false=>
     rw[hag] at h;obtain⟨h1,h⟩:=gD h;obtain⟨hl,h⟩:=xS (K:=λes=>one1 es λx=>K (.d x)) h;obtain⟨d0,he,h⟩:=aRe (K:=λx=>K (.d x)) h;exact⟨_,h,.cell1 a t (xC ha) hp (aIx ht hag (Nat.eq_of_beq_eq_true h1)) (by rw[List.getElem?_map,aWo he];rfl)⟩
   ·exact h.elim
  ·exact h.elim
theorem bSk{S:VS}{r:AV}{rs:List ResultVar}{ρ:Rho}(hr:rQ (S.at ρ).objs)(h:bMj T S r rs):∃r0,ResW P (S.at ρ) rs r0/\BV (S.at ρ).objs r0 r:=by
 unfold bMj at h;split at h
 ·obtain⟨v,⟨h1,h2⟩,hv⟩:=aIk (ρ:=ρ) h;exact⟨_,.one hv,aEz ρ hr h1 h2⟩
 ·obtain⟨v,h,hv⟩:=aIk (ρ:=ρ) h;obtain⟨u,⟨a,b,h1,h2,rfl,h3,h4⟩,hu⟩:=aIk (ρ:=ρ) h;simp only[Bool.and_eq_true] at h3;exact⟨_,.two hv hu,zX (.cons (aEz ρ hr h1 h3.1) (.cons (aEz ρ hr h2 h3.2) .nil))⟩
 ·obtain⟨v,h,hv⟩:=aIk (ρ:=ρ) h;obtain⟨u,h,hu⟩:=aIk (ρ:=ρ) h;obtain⟨t,⟨a,b,c,h1,h2,h5,rfl,h3,h4⟩,ht⟩:=aIk (ρ:=ρ) h;simp only[Bool.and_eq_true] at h3;exact⟨_,.three hv hu ht,zX (.cons (aEz ρ hr h1 h3.1) (.cons (aEz ρ hr h2 h3.2.1) (.cons (aEz ρ hr h5 h3.2.2) .nil)))⟩
 ·subst h;exact⟨_,.none,.same _⟩
 ·exact h.elim
end
theorem aTt[Mode]{P:Program}{n:Nat}{c:Code}{st:St}{Q Q':Exit->St->Prop}(h:Tr P n c st Q)(hq:∀e s,Q e s->∃s1,Ent s s1/\(rQ s1.objs->Q' e s1)):Tr P n c st Q':=
 λA M w0 a w hR hn=>wpIn_mono (h A M w0 a w hR hn) λe a' w' ⟨s,h1,hR'⟩=>by
  obtain⟨s1,he,h2⟩:=hq e s h1;have hR1:=he A M w0 n a' w' hR';exact⟨s1,h2 (aLn hR1.inv.holds),hR1⟩
def vJ:Nat->List AV->List (Nat×AV)
 |_,[]=>[]
 |k,v::l=>(k,v)::vJ (k+1) l
theorem aMl:∀{l:List AV} {k j:Nat},lk (vJ k l) (k+j)=l.getD j .any
 |[],k,j=>by simp[vJ,lk]
 |v::l,k,0=>by simp[vJ,lk]
 | v::l,k,j+1=>by
  have:Nat.beq k (k+(j+1))=false:=by
   cases hb:Nat.beq k (k+(j+1)) with
   |false=>rfl
   |true=>have:=Nat.eq_of_beq_eq_true hb;omega
  have h2:=aMl (l:=l) (k:=k+1) (j:=j);rw[show k+1+j=k+(j+1) by omega] at h2;simp only[vJ,lk,this,cond_false,h2]
  simp
def aFm:AV->Bool
 | .bp .. =>false
 | .ep .. =>false
 | .tup _=>false
 | .fn _ _=>false
 | .mf _ _=>false
 |_=>true
def okR:AV->Bool
 | .bp .. =>false
 | .ep .. =>false
 | .tup vs=>vs.all aFm
 | .fn _ vs=>vs.all aFm
 | .mf _ vs=>vs.all aFm
 |_=>true
theorem bTv{w:World}{X:bE}{x:AV}{v:Value}(h:VR w X x v)(ρ:Rho)(hx:aFm x=true):ρ.a1 x=x:=by
 cases h with
 |any=>rfl
 |d h=>show AV.d _=_;rw[h.nohv ρ]
 |agg h=>show AV.agg _=_;rw[h.nohv ρ]
 |cp=>rfl
 |fl=>rfl
 |bp=>simp[aFm] at hx
 |ep=>simp[aFm] at hx
 |tup=>simp[aFm] at hx
 |fn=>simp[aFm] at hx
 |mf=>simp[aFm] at hx
theorem bFg{w:World}{X:bE}{vs:List AV}{us:List Value}(h:∀i,i<vs.length->VR w X (vs.getD i .any) (us.getD i undef))(ρ:Rho)(hx:(vs.all aFm)=true):vs.map ρ.a1=vs:=by
 refine aSw λx hxm=>?_;obtain⟨i,hi,rfl⟩:=List.getElem_of_mem hxm;have h1:=h i hi;simp only[List.getD,List.getElem?_eq_getElem hi,Option.getD_some] at h1;exact bTv h1 ρ (List.all_eq_true.1 hx _ hxm)
theorem bSh{w:World}{X:bE}{x:AV}{v:Value}(h:VR w X x v)(ρ:Rho)(hx:okR x=true):ρ.av x=x:=by
 cases h with
 |any=>rfl
 |d h=>show AV.d _=_;rw[h.nohv ρ]
 |agg h=>show AV.agg _=_;rw[h.nohv ρ]
 |cp=>rfl
 |fl=>rfl
 |bp=>simp[okR] at hx
 |ep=>simp[okR] at hx
 |tup hl h=>show AV.tup _=_;rw[bFg h ρ hx]
 |fn hl h=>show AV.fn _ _=_;rw[bFg h ρ hx]
 |mf hl h=>show AV.mf _ _=_;rw[bFg h ρ hx]
theorem bKl[Mode]{S:VS}{ρ:Rho}{d:Nat}{r:AV}(hr:okR r=true):Ent ((S.at ρ).set d r) ((VS.mk ((d,r)::S.env) S.objs).at ρ):=by
 intro A M w0 n a w hR;have h:=hR.env d;simp only[St.set,fS] at h;have e:=bSh h ρ hr;have:=wN (ρ:=ρ) S d r;rw[e] at this;exact this▸hR
def tP(β:sV):Rho:=⟨β,λ_=>0,λ_=>0,λ_=>undef,λ_=>[],λ_=>0⟩
theorem bGt[Mode]{args:List AV}{ρ:Rho}(h:args.all okR=true):Ent ⟨entry args,[]⟩ ((VS.mk (vJ 0 args) []).at ρ):=by
 intro A M w0 n a w hR;have e:(λk=>ρ.av (lk (vJ 0 args) k))=entry args:=by
  funext k
  have h1:=hR.env k;have h2:=aMl (l:=args) (k:=0) (j:=k);rw[Nat.zero_add] at h2;rw[h2];show ρ.av (args.getD k .any)=args.getD k .any;refine bSh h1 ρ ?_;show okR (args.getD k .any)=true
  by_cases hk:k<args.length
  ·simp only[List.getD,List.getElem?_eq_getElem hk,Option.getD_some];exact List.all_eq_true.1 h _ (List.getElem_mem hk)
  ·simp[List.getD,List.getElem?_eq_none (show args.length<=k by omega),okR]
 show R A M w0 n ⟨λk=>ρ.av (lk (vJ 0 args) k),[]⟩ a w;rw[e];exact hR
theorem fnx[Mode]{P:Program}(T:TT P)(X:XP){f:FuncId}{fn:Func}{c:Code}{args:List AV}{r:AV}{N:Nat}(rs:List ResultVar)(hf:P.funcs[f]?=some fn)(hr:fn.results=rs.toArray)(hn:fn.ntmps=N)
  (h:rK T N (λ_=>(0,0,undef)) X c ⟨vJ 0 args,[]⟩ λe S=>e=.ret/\bMj T S r rs)(hb:fn.body=some c:=by exact rfl)(ha:(Nat.ble args.length N&&args.all okR)=true:=by exact rfl):Fn P f args r:=by
 simp only[Bool.and_eq_true] at ha;refine eH hf hb hr hn (Nat.le_of_ble_eq_true ha.1) ?_;refine aTt (dA (bGt (ρ:=tP λ_=>(0,0,undef)) ha.2) (rY h _ rfl)) ?_;rintro e s ⟨S',ρ',hβ,⟨he,hres⟩,hent⟩;refine⟨_,hent,λhro=>⟨he,?_⟩⟩;obtain⟨r0,h1,h2⟩:=bSk hro hres;exact⟨r0,_,h1,by simp,h2⟩
end Go.Am
end
section
namespace Go.Am
def aWl(env:List (Nat×AV)):List Nat->List (Nat×AV)->List (Nat×AV)
 |[],us=>us
 |k::ks,us=>(k,lk env k)::aWl env ks us
def aQr(objs:List (Nat×VO)):List Nat->List (Nat×VO)->List (Nat×VO)
 |[],os=>os
 | h::hs,os=>match ob objs h with
  |some m=>(h,m)::aQr objs hs os
  |none=>aQr objs hs os
def VS.pt(S:VS)(ks:List Nat)(us:List (Nat×AV))(hs:List Nat)(os:List (Nat×VO)):VS:=⟨aWl S.env ks us,aQr S.objs hs os⟩
def aQq(env:List (Nat×AV)):List Nat->List (Nat×AV)->(List (Nat×AV)->Prop)->Prop
 |[],us,K=>K us
 |k::ks,us,K=>frc (lk env k) λv=>aQq env ks us λr=>K ((k,v)::r)
def aGj(objs:List (Nat×VO)):List Nat->List (Nat×VO)->(List (Nat×VO)->Prop)->Prop
 |[],os,K=>K os
 | h::hs,os,K=>match ob objs h with
  |some m=>aGj objs hs os λr=>K ((h,m)::r)
  |none=>aGj objs hs os K
def VS.ptK(S:VS)(ks:List Nat)(us:List (Nat×AV))(hs:List Nat)(os:List (Nat×VO))(K:VS->Prop):Prop:=aQq S.env ks us λenv=>aGj S.objs hs os λobjs=>K ⟨env,objs⟩
theorem aYq{env:List (Nat×AV)}{us:List (Nat×AV)}:∀{ks:List Nat} {K:List (Nat×AV)->Prop},aQq env ks us K->K (aWl env ks us)
 |[],_,h=>h
 |k::ks,K,h=>aYq (K:=λr=>K ((k,lk env k)::r)) (vC (K:=λv=>aQq env ks us λr=>K ((k,v)::r)) h)
theorem aOo{objs:List (Nat×VO)}{os:List (Nat×VO)}:∀{hs:List Nat} {K:List (Nat×VO)->Prop},aGj objs hs os K->K (aQr objs hs os)
 |[],_,h=>h
 | k::hs,K,h=>by
  simp only[aGj] at h;simp only[aQr];split at h
  ·rename_i m hm;exact aOo (K:=λr=>K ((k,m)::r)) h
  ·exact aOo h
theorem bTu{S:VS}{ks:List Nat}{us:List (Nat×AV)}{hs:List Nat}{os:List (Nat×VO)}{K:VS->Prop}(h:S.ptK ks us hs os K):K (S.pt ks us hs os):=
 aOo (K:=λobjs=>K ⟨aWl S.env ks us,objs⟩) (aYq (K:=λenv=>aGj S.objs hs os λobjs=>K ⟨env,objs⟩) h)
def rl:List (Nat×Nat)->Nat->Nat
 |[],h=>h
 |(a,b)::l,h=>bif Nat.beq a h then b else rl l h
def rnD(rn:List (Nat×Nat)):D->D
 | .hv q h j=>.hv q (rl rn h) j
 |x=>x
def rn0(rn:List (Nat×Nat)):AV->AV
 | .d x=>.d (rnD rn x)
 | .agg xs=>.agg (xs.map (rnD rn))
 | .bp h o j=>.bp (rl rn h) o j
 | .ep v k i c=>match v with
  | .map (some h)=>.ep (.map (some (rl rn h))) k i c
  |v=>.ep v k i c
 |x=>x
def rn1(rn:List (Nat×Nat)):AV->AV
 | .tup vs=>.tup (vs.map (rn0 rn))
 | .fn f vs=>.fn f (vs.map (rn0 rn))
 | .mf f vs=>.mf f (vs.map (rn0 rn))
 |x=>rn0 rn x
def rnA(rn:List (Nat×Nat)):AV->AV
 | .tup vs=>.tup (vs.map (rn1 rn))
 | .fn f vs=>.fn f (vs.map (rn1 rn))
 | .mf f vs=>.mf f (vs.map (rn1 rn))
 |x=>rn0 rn x
def rnO(rn:List (Nat×Nat)):VO->VO
 | .box ds=>.box (ds.map (rnD rn))
 |x=>x
def Rho.ren(ρ:Rho)(rn:List (Nat×Nat)):Rho:=⟨ρ.β,λh=>ρ.bb (rl rn h),λh=>ρ.oo (rl rn h),λh=>ρ.ss (rl rn h),λh=>ρ.bs (rl rn h),λh=>ρ.ck (rl rn h)⟩
def aTn:List (Nat×Nat)->Bool
 |[]=>true
 |p::l=>!(Nat.ble 100000 p.1)&&aTn l
theorem bIx:∀{rn:List (Nat×Nat)} {h:Nat},aTn rn=true->Nat.ble 100000 h=true->rl rn h=h
 |[],_,_,_=>rfl
 | p::l,h,hr,hb=>by
  simp only[aTn,Bool.and_eq_true,Bool.not_eq_true'] at hr;simp only[rl];cases hp:Nat.beq p.1 h with
  |true=>have:=Nat.eq_of_beq_eq_true hp;rw[this] at hr;rw[hb] at hr;cases hr.1
  |false=>exact bIx hr.2 hb
section
variable{ρ:Rho}{rn:List (Nat×Nat)}(hr:aTn rn=true)
include hr
theorem aRs(h:Nat):(ρ.ren rn).bb h=ρ.bb (rl rn h)/\(ρ.ren rn).oo h=ρ.oo (rl rn h)/\(ρ.ren rn).ss h=ρ.ss (rl rn h):=by
 cases hb:Nat.ble 100000 h with
 |false=>simp[Rho.bb,Rho.oo,Rho.ss,hb,Rho.ren]
 |true=>simp[Rho.bb,Rho.oo,Rho.ss,hb,Rho.ren,bIx hr hb]
theorem aZr(x:D):(ρ.ren rn).dd x=ρ.dd (rnD rn x):=by
 cases x with
 | hv q h j=>
  obtain⟨h1,h2,h3⟩:=aRs (ρ:=ρ) hr h;simp only[Rho.dd,rnD,h1,h2,h3]
 |_=>rfl
omit hr in
theorem tI{α β γ:Type}{f:α->β}{g:γ->β}{k:α->γ}(h:∀x,f x=g (k x))(l:List α):l.map f=(l.map k).map g:=by
 rw[List.map_map];exact List.map_congr_left λx _=>h x
theorem tO(x:AV):(ρ.ren rn).a0 x=ρ.a0 (rn0 rn x):=by
 cases x with
 |d x=>simp only[Rho.a0,rn0,aZr hr]
 |agg xs=>simp only[Rho.a0,rn0];rw[tI (aZr hr) xs]
 |bp h o j=>obtain⟨h1,h2,_⟩:=aRs (ρ:=ρ) hr h;simp only[Rho.a0,rn0,h1,h2]
 | ep v k i c=>
  cases v with
  | map r=>cases r with
   |none=>rfl
   |some h=>obtain⟨_,_,h3⟩:=aRs (ρ:=ρ) hr h;simp only[Rho.a0,rn0,h3]
  |_=>rfl
 |_=>rfl
theorem aZq(x:AV):(ρ.ren rn).a1 x=ρ.a1 (rn1 rn x):=by
 cases x with
 |tup vs=>simp only[Rho.a1,rn1];rw[tI (tO hr) vs]
 |fn f vs=>simp only[Rho.a1,rn1];rw[tI (tO hr) vs]
 |mf f vs=>simp only[Rho.a1,rn1];rw[tI (tO hr) vs]
 |any=>rfl
 |d x=>exact tO hr (.d x)
 |agg x=>exact tO hr (.agg x)
 |cp x=>rfl
 |bp b o j=>exact tO hr (.bp b o j)
 | ep v k i c=>
  have:=tO (ρ:=ρ) hr (.ep v k i c);cases v with
  |map r=>cases r<;>exact this
  |_=>exact this
 |fl=>rfl
theorem bSi(x:AV):(ρ.ren rn).av x=ρ.av (rnA rn x):=by
 cases x with
 |tup vs=>simp only[Rho.av,rnA];rw[tI (aZq hr) vs]
 |fn f vs=>simp only[Rho.av,rnA];rw[tI (aZq hr) vs]
 |mf f vs=>simp only[Rho.av,rnA];rw[tI (aZq hr) vs]
 |any=>rfl
 |d x=>exact tO hr (.d x)
 |agg x=>exact tO hr (.agg x)
 |cp x=>rfl
 |bp b o j=>exact tO hr (.bp b o j)
 | ep v k i c=>
  have:=tO (ρ:=ρ) hr (.ep v k i c);cases v with
  |map r=>cases r<;>exact this
  |_=>exact this
 |fl=>rfl
theorem bSj(h:Nat)(m:VO):(ρ.ren rn).mo h m=ρ.mo (rl rn h) (rnO rn m):=by
 obtain⟨h1,h2,h3⟩:=aRs (ρ:=ρ) hr h;cases m with
 |box ds=>simp only[Rho.mo,rnO,h1,h2];rw[tI (aZr hr) ds]
 |arr e k rows=>simp only[Rho.mo,rnO,h3]
 |map es=>simp only[Rho.mo,rnO,h1];rfl
 |raw m=>rfl
end
theorem bIc{env:List (Nat×AV)}{f:AV->AV}:∀{l:List (Nat×AV)},l.map (λp=>lk env p.1)=l.map (λp=>f p.2)->∀k,lk l k=.any\/f (lk l k)=lk env k
 |[],_,k=>.inl rfl
 | p::l,h,k=>by
  simp only[List.map_cons,List.cons.injEq] at h;simp only[lk];cases hb:Nat.beq p.1 k with
  |true=>have:=Nat.eq_of_beq_eq_true hb;subst this;exact .inr h.1.symm
  |false=>exact bIc h.2 k
def aFq:List (Nat×VO)->Nat->Nat
 |[],_=>0
 |(k,_)::l,h=>bif Nat.beq k h then 0 else aFq l h+1
theorem aRn{ρ:Rho}:∀{objs:List (Nat×VO)} {h:Nat} {m:VO},ob objs h=some m->(objs.map λp=>ρ.mo p.1 p.2)[aFq objs h]?=some (ρ.mo h m)/\(objs.map (·.1))[aFq objs h]?=some h
 |[],_,_,h=>by cases h
 | (k,x)::l,h,m,hm=>by
  simp only[ob] at hm;simp only[aFq];cases hb:Nat.beq k h with
  | true=>
   rw[hb] at hm;have:=Nat.eq_of_beq_eq_true hb;subst this
   simp at hm;subst hm
   simp
  | false=>
   rw[hb] at hm;have:=aRn (ρ:=ρ) (by simpa using hm)
   simpa using this
theorem aUa{objs:List (Nat×VO)}:∀{l:List Nat},(∀h∈l,∃m,ob objs h=some m)->apart l=true->apart (l.map (aFq objs))=true
 |[],_,_=>rfl
 | h ::l,hl,ha=>by
  simp only[apart] at ha;cases hm:bF h l with
  |true=>rw[hm] at ha;simp at ha
  | false=>
   rw [hm] at ha;simp only[List.map_cons,apart];have:bF (aFq objs h) (l.map (aFq objs))=false:=by
    cases hq:bF (aFq objs h) (l.map (aFq objs)) with
    |false=>rfl
    | true=>
     obtain⟨g,hg,he⟩:=List.mem_map.1 (gG.1 hq);obtain⟨m1,h1⟩:=hl h (by simp);obtain⟨m2,h2⟩:=hl g (by simp[hg]);have e1:=(aRn (ρ:=tP λ_=>(0,0,undef)) h1).2;have e2:=(aRn (ρ:=tP λ_=>(0,0,undef)) h2).2;rw[he] at e2;rw[e1] at e2;cases e2;rw[gG.2 hg] at hm;cases hm
   rw[this];simp only[cond_false];exact aUa (λg hg=>hl g (by simp[hg])) (by simpa using ha)
theorem aZk{ρ:Rho}{rn:List (Nat×Nat)}(hr:aTn rn=true){objs:List (Nat×VO)}:∀{l:List (Nat×VO)},l.map (λp=>ob objs (rl rn p.1))=l.map (λp=>some (rnO rn p.2))->pick (objs.map λp=>ρ.mo p.1 p.2) ((l.map λp=>rl rn p.1).map (aFq objs))=some (l.map λp=>(ρ.ren rn).mo p.1 p.2)
 |[],_=>rfl
 | p::l,h=>by
  simp only[List.map_cons,List.cons.injEq] at h;have h1:=(aRn (ρ:=ρ) h.1).1;have h2:=aZk (ρ:=ρ) hr (l:=l) h.2;simp only[List.map_cons,pick,h1];simp only[List.map_map] at h2|-;rw[h2];simp only[bSj hr]
theorem lev[Mode](rn:List (Nat×Nat)){β:sV}{S S':VS}(h1:S'.env.map (λp=>lk S.env p.1)=S'.env.map (λp=>rnA rn p.2):=by exact rfl)(h2:S'.objs.map (λp=>ob S.objs (rl rn p.1))=S'.objs.map (λp=>some (rnO rn p.2)):=by exact rfl)
  (h3:(aTn rn&&apart (S'.objs.map λp=>rl rn p.1))=true:=by exact rfl):LeV β S S':=by
 simp only[Bool.and_eq_true] at h3;intro ρ hρ;refine⟨ρ.ren rn,hρ,?_⟩;unfold VS.at;refine aW _ (aUa (objs:=S.objs) (λh hh=>?_) h3.2) (aZk h3.1 h2) λk=>?_
 ·obtain⟨p,hp,rfl⟩:=List.mem_map.1 hh;have:(λp:Nat×VO=>ob S.objs (rl rn p.1)) p=(λp:Nat×VO=>some (rnO rn p.2)) p:=List.map_inj_left.1 h2 p hp;exact⟨_,this⟩
 ·rcases bIc h1 k with h|h
  ·left;rw[h];rfl
  ·right;rw[bSi h3.1,h]
section
variable{α γ:Type}{r:γ}{x y:Option γ}{g:α->Option γ}
theorem br{c:Bool}{K:Bool->Prop}(h:(bif c then x else y)=some r)(ht:x=some r->K true)(hf:y=some r->K false):OB c K:=by
 cases c with
 |true=>exact⟨ht h⟩
 |false=>exact⟨hf h⟩
theorem oi{f:α->List D}{xs:List α}{p:Int}{K:List D->Prop}(h:(idx xs p).bind g=some r)(k:∀x,g x=some r->K (f x)):bKa (xs.map f) p K:=by
 obtain⟨x,hx,h⟩:=bind_some h;exact⟨⟨_,dI f hx,k x h⟩⟩
theorem ol{f:α->List D}{xs:List α}{K:Int->Prop}(k:K xs.length):aWx (xs.map f) K:=⟨⟨xs.length,by simp,k⟩⟩
theorem oap{f:α->List D}{k0 bytes:Nat}{xs ys:List α}{g:List α->Option γ}{K:List (List D)->Prop}(h:(app bytes xs ys).bind g=some r)(k:∀zs,g zs=some r->K (zs.map f))(hk:∀x,(f x).length=k0:=by exactλ_=>rfl):bDq k0 bytes (xs.map f) (ys.map f) K:=by
 obtain⟨zs,hz,h⟩:=bind_some h;obtain⟨h1,rfl⟩:=aHc hz;refine⟨⟨_,?_,bN hk,k _ h⟩⟩;simp only[app,List.length_map,h1,if_true,List.map_append]
theorem bUk(f:α->List D){k0 bytes:Nat}{xs ys:List α}{rows:List (List D)}{g:List α->Option γ}{K:List (List D)->Prop}(h:(app bytes xs ys).bind g=some r)(k:∀zs,g zs=some r->K (zs.map f))(hk:∀x,(f x).length=k0:=by exactλ_=>rfl)(hr:rows=xs.map f:=by exact rfl):bDq k0 bytes rows (ys.map f) K:=by
 subst hr;exact oap h k hk
theorem osb{f:α->List D}{xs:List α}{lo hi:Int}{g:List α->Option γ}{K:List (List D)->Prop}(h:(sub xs lo hi).bind g=some r)(k:∀zs,g zs=some r->K (zs.map f)):aWy (xs.map f) lo hi K:=by
 obtain⟨zs,hz,h⟩:=bind_some h;exact⟨⟨_,bQq f hz,k _ h⟩⟩
theorem jg{S:VS}{m t:Nat}{ds:List Nat}{A:(VS->Prop)->Prop}{B:VS->Prop}{X:Option Bool}{g:Bool->Option γ}(h:X.bind g=some r)(ha:∀x,X=some x->A (GN S m t ds x))(hb:∀x,g x=some r->B ⟨(t,.b x)::pH ds S.env,S.objs⟩):JG S m t ds A B:=by
 obtain⟨x,hx,h⟩:=bind_some h;exact⟨⟨x,ha x hx,hb x h⟩⟩
theorem jt{S S':VS}{m t:Nat}{ds:List Nat}{v x:Bool}(h:some v=some x)(h1:aHh m S'.env=S.env:=by exact rfl)(h2:aSi (t::ds) m S'.env=true:=by exact rfl)(h3:lk S'.env t=.b v:=by exact rfl)(h4:S'.objs=S.objs:=by exact rfl):GN S m t ds x S':=by
 cases h;exact⟨h1,h2,h3,h4⟩
theorem jo{S:VS}{m t:Nat}{ds:List Nat}{A:(VS->Prop)->Prop}{B:VS->Prop}{X:Option Bool}{c:Bool}{g:Bool->Option γ}(h:X.bind g=some r)(ha:∀x,X=some x->A (GN S m t ds x))(hb:∀x,g x=some r->B ⟨(t,.b x)::pH ds S.env,S.objs⟩)(hc:c=true:=by kernel_rfl):JO c S m t ds A B:=by
 obtain⟨x,hx,h⟩:=bind_some h;exact⟨⟨hc,x,ha x hx,hb x h⟩⟩
end
theorem xlp[Mode]{P:Program}{T:TT P}{n:Nat}{β:sV}{X:XP}{c:Code}{S:VS}{Q:Exit->VS->Prop}{A R:Type}{r:R}{k0:Nat}(ks hs:List Nat)(σ:A->List (Nat×AV)×List (Nat×VO))(F:Nat->A->Option R)(a0:A)(h0:F k0 a0=some r)(he:LeV β S (S.pt ks (σ a0).1 hs (σ a0).2))
  (body:∀k a,F (k+1) a=some r->S.ptK ks (σ a).1 hs (σ a).2 λS1=>rK T n β X c S1 λe S'=>match e with| .normal=>∃a',F k a'=some r/\LeV β S' (S.pt ks (σ a').1 hs (σ a').2)|e=>Q e S')(hz:∀a,F 0 a=none:=by exactλ_=>rfl):OLp T n β X c S Q:=by
 refine⟨aTv he λρ hρ=>?_⟩;refine bDk (λs:A×{ρ:Rho // ρ.β=β}=>(S.pt ks (σ s.1).1 hs (σ s.1).2).at s.2.1) (λk s=>F k s.1) r (λs=>hz s.1) ?_ k0 (a0,⟨ρ,hρ⟩) h0;rintro k ⟨a,ρ1,h1⟩ hk;refine oU (rY (bTu (body k a hk)) ρ1 h1) ?_;rintro e st ⟨S',ρ',hβ,hq,hent⟩;cases e with
 | normal=>
  obtain⟨a',ha,hl⟩:=hq;obtain⟨ρ2,h2,he2⟩:=hl ρ' hβ;exact⟨(a',⟨ρ2,h2⟩),ha,hent.trans he2⟩
 |_=>exact⟨S',ρ',hβ,hq,hent⟩
end Go.Am
end
end
section
section
namespace Go.Am
def hsD:D->List Nat
 | .hv _ h _=>[h]
 |_=>[]
def hs0:AV->List Nat
 | .d x=>hsD x
 | .agg xs=>xs.flatMap hsD
 | .bp h _ _=>[h]
 |_=>[]
def hs1:AV->List Nat
 | .tup vs=>vs.flatMap hs0
 | .fn _ vs=>vs.flatMap hs0
 |x=>hs0 x
def hsA:AV->List Nat
 | .tup vs=>vs.flatMap hs1
 | .fn _ vs=>vs.flatMap hs1
 |x=>hs0 x
def inX(objs:List (Nat×VO))(h:Nat):List Nat:=match ob objs h with
 |some (.box ds)=>ds.flatMap hsD
 |_=>[]
def aNc(objs:List (Nat×VO))(v:AV):List Nat:=hsA v++(hsA v).flatMap (inX objs)
section
variable{objs objs':List (Nat×VO)}
theorem aVs{x:D}(h:∀k∈hsD x,ob objs' k=ob objs k):vD1 objs' x=vD1 objs x:=by
 cases x with
 |hv q k j=>simp only[vD1,h k (by simp[hsD])]
 |_=>rfl
theorem aJg{xs:List D}(h:∀k∈xs.flatMap hsD,ob objs' k=ob objs k):xs.map (vD1 objs')=xs.map (vD1 objs):=
 List.map_congr_left λx hx=>aVs λk hk=>h k (List.mem_flatMap.2 ⟨x,hx,hk⟩)
theorem tT{x:AV}(h:∀k∈hs0 x,ob objs' k=ob objs k)(h2:∀k∈hs0 x,∀q∈inX objs k,ob objs' q=ob objs q):vA0 objs' x=vA0 objs x:=by
 cases x with
 |d x=>simp only[vA0];rw[aVs h]
 |agg xs=>simp only[vA0];rw[aJg h]
 | bp k o j=>
  have e:=h k (by simp[hs0]);simp only[vA0,e]
  split
  ·rename_i ds hm
   have:(ds.drop j).map (vD1 objs')=(ds.drop j).map (vD1 objs):=aJg λq hq=>h2 k (by simp[hs0]) q (by
    simp only[inX,hm];obtain⟨x,hx,hq⟩:=List.mem_flatMap.1 hq;exact List.mem_flatMap.2 ⟨x,List.mem_of_mem_drop hx,hq⟩)
   rw[this]
  ·rfl
 |_=>rfl
theorem bJw{x:AV}(h:∀k∈hs1 x,ob objs' k=ob objs k)(h2:∀k∈hs1 x,∀q∈inX objs k,ob objs' q=ob objs q):vA1 objs' x=vA1 objs x:=by
 have key:∀vs:List AV,(∀k∈vs.flatMap hs0,ob objs' k=ob objs k)->(∀k∈vs.flatMap hs0,∀q∈inX objs k,ob objs' q=ob objs q)->vs.map (vA0 objs')=vs.map (vA0 objs):=λvs h h2=>
  List.map_congr_left λx hx=>tT (λk hk=>h k (List.mem_flatMap.2 ⟨x,hx,hk⟩)) λk hk=>h2 k (List.mem_flatMap.2 ⟨x,hx,hk⟩)
 cases x with
 |tup vs=>simp only[vA1];rw[key vs h h2]
 |fn f vs=>simp only[vA1];rw[key vs h h2]
 |any=>rfl
 |d x=>exact tT (x:=.d x) h h2
 |agg x=>exact tT (x:=.agg x) h h2
 |cp x=>rfl
 |bp b o j=>exact tT (x:=.bp b o j) h h2
 |ep=>rfl
 |fl=>rfl
 |mf=>rfl
theorem bAn{x:AV}(h:∀k∈aNc objs x,ob objs' k=ob objs k):vA objs' x=vA objs x:=by
 have h1:∀k∈hsA x,ob objs' k=ob objs k:=λk hk=>h k (List.mem_append.2 (.inl hk));have h2:∀k∈hsA x,∀q∈inX objs k,ob objs' q=ob objs q:=λk hk q hq=>h q (List.mem_append.2 (.inr (List.mem_flatMap.2 ⟨k,hk,hq⟩)));have key:∀vs:List AV,(∀k∈vs.flatMap hs1,ob objs' k=ob objs k)->(∀k∈vs.flatMap hs1,∀q∈inX objs k,ob objs' q=ob objs q)->vs.map (vA1 objs')=vs.map (vA1 objs):=λvs h h2=>
  List.map_congr_left λx hx=>bJw (λk hk=>h k (List.mem_flatMap.2 ⟨x,hx,hk⟩)) λk hk=>h2 k (List.mem_flatMap.2 ⟨x,hx,hk⟩)
 cases x with
 |tup vs=>simp only[vA];rw[key vs h1 h2]
 |fn f vs=>simp only[vA];rw[key vs h1 h2]
 |any=>rfl
 |d x=>exact tT (x:=.d x) h1 h2
 |agg x=>exact tT (x:=.agg x) h1 h2
 |cp x=>rfl
 |bp b o j=>exact tT (x:=.bp b o j) h1 h2
 |ep=>rfl
 |fl=>rfl
 |mf=>rfl
end
theorem bDi[Mode]{P:Program}{n:Nat}{o:Oper}{st:St}{Q:St->Prop}(h:rQ st.objs->Step P n o st Q):Step P n o st Q:=
 λA M w0 a w hR=>h (aLn hR.inv.holds) A M w0 a w hR
def nlA:AV->AV->AV
 | .d (.lit (.slice none 0 0)),.d (.sl k _)=>.d (.sl k [])
 |a,_=>a
def nlL:List AV->List AV->List AV
 |a::l,b::m=>nlA a b::nlL l m
 |l,_=>l
theorem bOe(a b:AV):nlA a b=a\/(a=.d (.lit (.slice none 0 0))/\∃k,nlA a b=.d (.sl k [])):=by
 unfold nlA
 split
 ·exact .inr ⟨rfl,_,rfl⟩
 ·exact .inl rfl
theorem aMm{objs:List (Nat×VO)}{ρ:Rho}{fs:List MO}:∀{ars bs:List AV},(∀x∈ars,okA (vA objs x)=true->BV fs (ρ.av x) (vA objs x))->(nlL (ars.map (vA objs)) bs).all okA=true->BVs fs (ars.map ρ.av) (nlL (ars.map (vA objs)) bs)
 | [],_,_,_=>by
  rename_i bs
  cases bs<;>exact .nil
 | a::l,[],h,ho=>by
  simp only[List.map_cons,nlL,List.all_cons,Bool.and_eq_true] at ho|-;refine .cons (h a (by simp) ho.1) ?_;have:nlL (l.map (vA objs)) []=l.map (vA objs):=by cases l<;>rfl
  have:=aMm (ars:=l) (bs:=[]) (λx hx=>h x (by simp[hx])) (by rw[this];exact ho.2)
  rwa[show nlL (l.map (vA objs)) []=l.map (vA objs) by cases l<;>rfl] at this
 | a ::l,b::m,h,ho=>by
  simp only[List.map_cons,nlL,List.all_cons,Bool.and_eq_true] at ho|-;refine .cons ?_ (aMm (λx hx=>h x (by simp[hx])) ho.2)
  rcases bOe (vA objs a) b with he|⟨he,k,hk⟩
  ·rw[he] at ho|-;exact h a (by simp) ho.1
  ·rw [hk];have:=h a (by simp) (by rw[he];rfl);have e:a=.d (.lit (.slice none 0 0)):=by
    cases a with
    | d x=>
     cases x with
     | hv q g j=>
      simp only[vA,vA0,vD1] at he;split at he<;>cases he
     |lit v=>exact he
     |_=>cases he
    | bp b o j=>
     simp only[vA,vA0] at he;split at he
     ·cases hx:(Nat.ble j _&&_)<;>rw[hx] at he<;>cases he
     ·cases he
    |_=>cases he
   rw[e];exact .d (.nil k)
def bEq:List Nat->(List Nat->Prop)->Prop
 |[],K=>K []
 |x::l,K=>bEq l λr=>K (x::r)
theorem aYx:∀{l:List Nat} {K:List Nat->Prop},bEq l K->K l
 |[],_,h=>h
 |x::l,K,h=>aYx (K:=λr=>K (x::r)) h
def rC(S:VS)(l:List Operand):Callee->Option (FuncId×List AV)
 | .value (.func f)=>some (f,l.map S.ev)
 | .value (.tmp t)=>match lk S.env t with
  | .fn f caps=>bif aJw caps then some (f,l.map S.ev++caps) else none
  |_=>none
 |_=>none
section
variable{P:Program}{n d:Nat}{S:VS}{ty:TypeId}{pos:String}{af:Array Edge}{gd:Option (Nat×Bool)}{K:Eff->Prop}{c:Callee}{l:List Operand}{ts:Array TypeId}{f:FuncId}{ars:List AV}
theorem aEc{S':VS}{us:List Nat}(hA:Agr (.call ⟨c,l.toArray,ts⟩) S S' us)(hc:rC S l c=some (f,ars))(he:∀args w,(callFunc f args).run P w=.ok (.enter f args) w)(ρ:Rho):∃a0,kL P (S'.at ρ) c l f a0/\a0=ars.map ρ.av:=by
 unfold rC at hc;have hl:∀x∈l,S'.ev x=S.ev x:=λx hx=>hA.ev x (by cases c<;>simp[Op.operands,Call.operands,hx]);split at hc
 ·cases hc;exact⟨_,.func _ _ he,aHp ρ hl⟩
 ·rename_i t
  split at hc
  ·rename_i caps ht
   cases hf:aJw caps with
   |false=>rw[hf] at hc;cases hc
   | true=>
    rw[hf] at hc;cases hc;have ht':lk S'.env t=.fn f caps:=by
     have:=hA.ev (.tmp t) (by simp[Op.operands,Call.operands]);exact this.trans ht
    refine⟨_,.clo t f (caps.map ρ.a1) l he (xC ht'),?_⟩;rw[aHp ρ hl,List.map_append,aXe ρ hf]
  ·cases hc
 ·cases hc
theorem aTf{r:AV}(h:r.one1=true)(ρ:Rho):ρ.av r=r/\ρ.a1 r=r:=by
 cases r with
 |d x=>obtain⟨v,rfl⟩:=D.isLit_spec h;exact⟨rfl,rfl⟩
 | agg xs=>
  have e:xs.map ρ.dd=xs:=oP (p:=D.isLit) (λx hx=>by obtain⟨v,rfl⟩:=D.isLit_spec hx;rfl) h;exact⟨congrArg AV.agg e,congrArg AV.agg e⟩
 |_=>simp[AV.one1] at h
theorem bLt{r:AV}(h:r.isLit=true)(ρ:Rho):ρ.av r=r:=by
 cases r with
 | tup vs=>
  simp only[AV.isLit] at h;show AV.tup _=_;rw[oP (p:=AV.one1) (λx hx=>(aTf hx ρ).2) h]
 |d x=>exact(aTf (r:=.d x) h ρ).1
 |agg xs=>exact(aTf (r:=.agg xs) h ρ).1
 |_=>simp[AV.isLit,AV.one1] at h
theorem aVr{ars:List AV}{objs:List (Nat×VO)}{x:AV}(hx:x∈ars){k:Nat}(hk:k∈aNc objs x):k∈ars.flatMap (aNc objs):=List.mem_flatMap.2 ⟨x,hx,hk⟩
theorem ocl[Mode]{args':List AV}{r:AV}(he:∀args w,(callFunc f args).run P w=.ok (.enter f args) w)(hf:Fn P f args' r)(hd:d<n)(hc:rC S l c=some (f,ars))(hv:nlL (ars.map (vA S.objs)) args'=args')(hok:(iE l&&args'.all okA)=true)(hl:r.isLit=true)(k:K (.r r (ars.flatMap (aNc S.objs)))):
  cS P n ⟨some d,.call ⟨c,l.toArray,ts⟩,ty,pos,af,gd⟩ S K:=by
 simp only[Bool.and_eq_true] at hok;refine dV k λS' hA ρ=>bDi λhro=>?_;obtain⟨a0,h1,h2⟩:=aEc hA hc he ρ;have e:ρ.av r=r:=bLt hl ρ;rw[e];refine fV hd h1 h2 hok.1 ?_ hf hl;have hro':rQ (S'.objs.map λp=>ρ.mo p.1 p.2):=hro;have hok2:=hok.2;rw[<-hv] at hok2|-;exact aMm (λx hx ha=>aEz ρ hro' (bAn λk hk=>hA.ob k (aVr hx hk)) ha) hok2
theorem ocd[Mode]{args':List AV}{r:AV}(he:∀args w,(callFunc f args).run P w=.ok (.enter f args) w)(hf:Fn P f args' r)(hd:d<n)(hc:rC S l c=some (f,ars))(hv:nlL ars args'=args')(hok:(iE l&&ars.all okA)=true)(hl:okR r=true)(k:K (.p r)):
  cS P n ⟨some d,.call ⟨c,l.toArray,ts⟩,ty,pos,af,gd⟩ S K:=by
 simp only[Bool.and_eq_true] at hok;refine⟨⟨_,k,λS' hA _ ρ=>?_⟩⟩;obtain⟨a0,h1,h2⟩:=aEc hA hc he ρ;rw[oP (λx=>aRc ρ (x:=x)) hok.2] at h2;have hb:BVs [] ars args':=by
  rw [<-hv];have key:∀{ars bs:List AV},BVs [] ars (nlL ars bs):=by
   intro ars
   induction ars with
   |nil=>intro bs;cases bs<;>exact .nil
   | cons a l ih=>
    intro bs;cases bs with
    |nil=>exact BVs.refl _ _
    | cons b m=>
     refine .cons ?_ ih
     rcases bOe a b with he|⟨he,k,hk⟩
     ·rw[he];exact .same _
     ·rw[hk,he];exact .d (.nil k)
  exact key
 exact gR (cY hd h1 h2 hok.1 hb hf) λs hs=>⟨ρ,rfl,hs▸bKl (S:=S') hl⟩
section
variable{α γ:Type}{sh:Option α}{r:γ}{g:α->Option γ}{enc:α->AV}{args':List AV}
theorem cl[Mode](he:∀args w,(callFunc f args).run P w=.ok (.enter f args) w)(hf:∀x,sh=some x->Fn P f args' (enc x))(h:sh.bind g=some r)(k:∀x,g x=some r->bEq (ars.flatMap (aNc S.objs)) λus=>K (.r (enc x) us))
  (hc:rC S l c=some (f,ars):=by exact rfl)(hv:nlL (ars.map (vA S.objs)) args'=args':=by exact rfl)(hok:(Nat.ble (d+1) n&&(iE l&&args'.all okA))=true:=by exact rfl)(hl:∀x,(enc x).isLit=true:=by exactλ_=>rfl):
  cS P n ⟨some d,.call ⟨c,l.toArray,ts⟩,ty,pos,af,gd⟩ S K:=by
 obtain⟨x,hx,h⟩:=bind_some h;simp only[Bool.and_eq_true] at hok;exact ocl he (hf x hx) (Nat.le_of_ble_eq_true hok.1) hc hv (by simp only[Bool.and_eq_true];exact hok.2) (hl x) (aYx (K:=λus=>K (.r (enc x) us)) (k x h))
theorem cd[Mode](he:∀args w,(callFunc f args).run P w=.ok (.enter f args) w)(hf:∀x,sh=some x->Fn P f args' (enc x))(h:sh.bind g=some r)(k:∀x,g x=some r->K (.p (enc x)))
  (hc:rC S l c=some (f,ars):=by exact rfl)(hv:nlL ars args'=args':=by exact rfl)(hok:(Nat.ble (d+1) n&&(iE l&&ars.all okA))=true:=by exact rfl)(hl:∀x,okR (enc x)=true:=by exactλ_=>rfl):
  cS P n ⟨some d,.call ⟨c,l.toArray,ts⟩,ty,pos,af,gd⟩ S K:=by
 obtain⟨x,hx,h⟩:=bind_some h;simp only[Bool.and_eq_true] at hok;exact ocd he (hf x hx) (Nat.le_of_ble_eq_true hok.1) hc hv (by simp only[Bool.and_eq_true];exact hok.2) (hl x) (k x h)
end
end
section
variable{α γ:Type}{r:γ}
theorem onz{q:Int}{p:Prop}{g:Unit->Option γ}(h:(chk (!decide (q=0))).bind g=some r)(k:g ()=some r->p):q≠0/\p:=by
 obtain⟨u,hu,h⟩:=bind_some h;exact⟨bTp hu,k h⟩
theorem oge{q:Int}{p:Prop}{g:Unit->Option γ}(h:(chk (decide (0<=q))).bind g=some r)(k:g ()=some r->p):0<=q/\p:=by
 obtain⟨u,hu,h⟩:=bind_some h;exact⟨bEi hu,k h⟩
end
section
variable{P:Program}{n d:Nat}{S:VS}{ty:TypeId}{pos:String}{af:Array Edge}{gd:Option (Nat×Bool)}{K:Eff->Prop}{x y:Operand}{t u:TypeId}
end
end Go.Am
end
section
namespace Go.Am
def aDv(v:Value)(lo k:Nat):Value:=match v with
 | .slice (some a) n c=>.slice (some (if c=lo then a else a.add (lo*k))) (n-lo) (c-lo)
 |v=>v
def nC(v:Value)(q:Nat):Value:=match v with
 | .slice a _ c=>.slice a q c
 |v=>v
theorem aUv(v:Value)(q:Nat):(nC v q).ownBlock=v.ownBlock:=by
 cases v<;>try rfl
 rename_i a _ _;cases a<;>rfl
section
variable{P:Program}{n d:Nat}{st:St}{o:Oper}
theorem bBo[Mode]{x y:Operand}{t e k m:Nat}{v:Value}{e':Nat}{rows:List (List D)}{kd:IntKind}{p:Int}{ty:TypeId}{pos:String}{af:Array Edge}{gd:Option (Nat×Bool)}(hd:d<n)
  (hx:st.eval x=.d (.lit v))(ho:st.objs[m]?=some (.arr v e' k rows))(hy:st.eval y=.d (.lit (.int kd p)))(ht:iL P t e k)(h0:0<=p)(h1:p<=rows.length):
  aY P n ⟨some d,.slice t x (some y) none none,ty,pos,af,gd⟩ st (st.set d (.d (.lit (aDv v p.toNat k)))):=
 cA rfl hd λA M w0 a w hR=>by
  obtain⟨xs,_,hown,_⟩:=hR.inv.holds _ (List.mem_of_getElem? ho)
  rcases hown.2 with⟨rfl,hn⟩|⟨g,cap,cur,rfl,_,_,hcap,_⟩
  ·have hp:p=0:=by omega
   subst hp;exact⟨_,by simp[execOp,Instr.sliceAt,Instr.slice,ht.1,ht.2,hR.lit hx,hR.lit hy,Instr.sliceBounds,Instr.sliceBound,asIntOf,aDv],.of_lit rfl⟩
  ·refine⟨_,?_,.of_lit rfl⟩
   by_cases hc:cap=p.toNat
   ·simp[execOp,Instr.sliceAt,Instr.slice,ht.1,ht.2,hR.lit hx,hR.lit hy,Instr.sliceBounds,Instr.sliceBound,asIntOf,aDv,h0,h1,hc]
   ·simp[execOp,Instr.sliceAt,Instr.slice,ht.1,ht.2,hR.lit hx,hR.lit hy,Instr.sliceBounds,Instr.sliceBound,asIntOf,aDv,h0,h1,hc]
theorem aQm[Mode]{w:World}{X:bE}{v:Value}{e k q:Nat}{rows:List (List D)}(h:(MO.arr v e k rows).holds w X)(hq:q<=rows.length):(MO.arr (nC v q) e k (rows.take q)).holds w X:=by
 obtain⟨xs,hd,hown,hr⟩:=h;have hrt:∀r∈rows.take q,r.length=k:=λr hr'=>hr r (List.mem_of_mem_take hr');have hfl:(rows.take q).flatten=rows.flatten.take (q*k):=by
  have h1:rows.flatten=(rows.take q).flatten++(rows.drop q).flatten:=by rw[<-List.flatten_append,List.take_append_drop]
  have h2:(rows.take q).flatten.length=q*k:=by rw[nZ hrt,List.length_take,Nat.min_eq_left hq]
  rw[h1,<-h2,List.take_left']
  rfl
 have hlq:(rows.take q).length=q:=by rw[List.length_take,Nat.min_eq_left hq]
 have hqk:q*k<=rows.length*k:=Nat.mul_le_mul_right _ hq;refine⟨xs.take (q*k),by rw[hfl];exact hd.take _,⟨by rw[List.length_take,hlq,hown.1];omega,?_⟩,hrt⟩;rw[hlq]
 rcases hown.2 with⟨rfl,hn⟩|⟨g,cap,cur,rfl,h1,h2,h3,h4,h5,h6⟩
 ·have:q=0:=by omega
  subst this;exact .inl ⟨rfl,rfl⟩
 ·exact .inr ⟨g,cap,cur,rfl,h1,h2,by omega,h4,h5,by rw[<-h6,List.take_take,Nat.min_eq_left hqk]⟩
theorem bBm[Mode]{x:Operand}{t e k bytes m lo:Nat}{z v:Value}{rows:List (List D)}{ty:TypeId}{pos:String}{af:Array Edge}{gd:Option (Nat×Bool)}(ht:SliceTy P t e k bytes z)
  (hx:st.eval x=.d (.lit (aDv v lo k)))(ho:st.objs[m]?=some (.arr v e k rows))(hlo:lo<=rows.length)(hz1:∀u∈z.cells.toList,u.oneCell'=true):
  aY P n ⟨none,.call {callee:=.builtin .clear,args:= #[x],argTypes:= #[t]},ty,pos,af,gd⟩ st (st.put1 m (.arr (nC v lo) e k (rows.take lo))):=by
 intro A M w0 a w hR K Q hK;have hh:=hR.inv.holds _ (List.mem_of_getElem? ho);have hown:=hh;obtain⟨xs,hxs,hown,hr⟩:=hown;unfold Oper.wp;have done0:(execOp a.eval ⟨none,.call {callee:=.builtin .clear,args:= #[x],argTypes:= #[t]},ty,pos,af,gd⟩).run P w=.ok (.value (.tuple #[])) w->
   (⟨none,.call {callee:=.builtin .clear,args:= #[x],argTypes:= #[t]},ty,pos,af,gd⟩:Oper).upon P a K Q ((execOp a.eval ⟨none,.call {callee:=.builtin .clear,args:= #[x],argTypes:= #[t]},ty,pos,af,gd⟩).run P w):=by
  intro hrun;rw[hrun,Oper.upon_value];refine hK _ _ _ rfl ?_;have hR':=hR.replace (w':=w) (m':=.arr (nC v lo) e k (rows.take lo)) ho (Keeps.refl (λ_ _=>False) w) (λ_ _ h=>h.elim) (λb o hf=>.inl (by simpa[MO.foot,aUv] using hf)) λhm=>
   bV (aQm hh hlo) (Keeps.refl (λ_ _=>False) w) (λ_ _ _ h=>h) hm
  exact hR'.put_none rfl
 rcases hown.2 with⟨rfl,hn⟩|⟨g,cap,cur,rfl,hg1,hg2,hg3,hg4,hg5,hg6⟩
 ·refine done0 ?_
  simp[execOp,resolve,invoke,builtin,hR.lit hx,aDv,Builtin.clear_,run_underlying ht.und]
 ·by_cases he:rows.length=lo
  ·refine done0 ?_
   simp[execOp,resolve,invoke,builtin,hR.lit hx,aDv,he,Builtin.clear_,run_underlying ht.und]
  ·have hv:aDv (.slice (some ⟨g,0,none⟩) rows.length cap) lo k=.slice (some ⟨g,lo*k,none⟩) (rows.length-lo) (cap-lo):=by
    simp[aDv,show¬cap=lo by omega,Addr.add_lit]
   rw[hv] at hx;obtain⟨inf,hi,hz,hs,hbs⟩:=ht.inf;have hzl:z.cells.toList.length=k:=by simpa using ht.size
   have hcl:(Builtin.zeroCells z.cells (rows.length-lo)).toList.length=(rows.length-lo)*k:=by simp[size_zeroCells,ht.size]
   have hin:lo*k+(rows.length-lo)*k<=cur.size:=by
    rw[hg5,<-Nat.add_mul];exact Nat.mul_le_mul_right _ (by omega)
   have hcell:∀j,j<cur.size->w.cell? ⟨g,j,none⟩=cur[j]?:=λj _=>cell_of_row w g j cur e (0,0) hg2;have hz1':∀u∈(Builtin.zeroCells z.cells (rows.length-lo)).toList,u.oneCell'=true:=by
    intro u hu;simp only[Builtin.zeroCells,Array.toList_map,List.mem_map] at hu;obtain⟨i,_,rfl⟩:=hu;have hlt:i % z.cells.size<z.cells.size:=Nat.mod_lt _ (by rw[ht.size];exact ht.pos);rw[getElem!_pos z.cells (i % z.cells.size) hlt];exact hz1 _ (by simp)
   have hst:=run_storeCells_cells (P:=P) g (lo*k) (Builtin.zeroCells z.cells (rows.length-lo)).toList 0 w (λj hj=>by
     rw[hcell _ (by omega),Array.getElem?_eq_getElem (by omega)];rfl) (λj hj=>frozen_of_row w g _ cur e hg2) hz1'
   have hrun:(execOp a.eval ⟨none,.call {callee:=.builtin .clear,args:= #[x],argTypes:= #[t]},ty,pos,af,gd⟩).run P w=.ok (.value (.tuple #[])) (w.setCells g (lo*k) (Builtin.zeroCells z.cells (rows.length-lo)).toList):=by
    have hz0:¬rows.length-lo=0:=by omega
    generalize hq:rows.length-lo=q at*
    obtain⟨q',rfl⟩:∃q',q=q'+1:=⟨q-1,by omega⟩;simp only[execOp,resolve,invoke,builtin,Sem.run_bind,hR.lit hx,List.map_toArray,List.map_cons,List.map_nil]
    simp[Builtin.clear_,run_underlying ht.und,ht.zero,hst]
   rw[hrun,Oper.upon_value];refine hK _ _ _ rfl ?_;have hne:(Builtin.zeroCells z.cells (rows.length-lo)).toList≠[]:=by
    intro h0;rw[h0] at hcl;simp at hcl;have:=Nat.mul_pos (n:=rows.length-lo) (m:=k) (by omega) ht.pos
    omega
   have hrow:∀(vs:List Value) (off:Nat) (w:World) (cur:Array Value),w.heap[g]?=some (.cells cur e (0,0))->∃cur',(w.setCells g off vs).heap[g]?=some (.cells cur' e (0,0))/\cur'.size=cur.size:=by
    intro vs
    induction vs with
    |nil=>exactλoff w cur hh=>⟨cur,hh,rfl⟩
    | cons v vs ih=>
     intro off w cur hh;obtain⟨cur',h1,h2⟩:=ih (off+1) (w.setCell ⟨g,off,none⟩ v) _ (heap_setCell_same w g off cur e v hh);exact⟨cur',h1,by simpa using h2⟩
   have hR':=hR.replace (w':=w.setCells g (lo*k) (Builtin.zeroCells z.cells (rows.length-lo)).toList) (m':=.arr (nC (.slice (some ⟨g,0,none⟩) rows.length cap) lo) e k (rows.take lo)) ho
    (Keeps.setCells w g (lo*k) _ (Z:=λb _=>b=g) (λq h1 h2=>rfl) hne)
    (λb o hb=>by subst hb;rfl) (λb o hf=>.inl (by simpa[MO.foot,aUv] using hf)) λhmono=>by
     obtain⟨ys,hys,hyo,hyr⟩:=aQm hh hlo;have hlq:(rows.take lo).length=lo:=by rw[List.length_take,Nat.min_eq_left hlo]
     obtain⟨cur',hc1,hc2⟩:=hrow (Builtin.zeroCells z.cells (rows.length-lo)).toList (lo*k) w cur hg2;refine⟨ys,hys.mono hmono,⟨hyo.1,.inr ⟨g,cap,cur',by rw[hlq];rfl,hg1,hc1,by omega,hg4,by rw[hc2,hg5],?_⟩⟩,hyr⟩;have h6:cur.toList.take ((rows.take lo).length*k)=ys:=by
      rcases hyo.2 with⟨h,_⟩|⟨g',cap',cur2,h,_,h2,_,_,_,h6⟩
      ·simp[nC] at h
      ·simp[nC] at h
       obtain⟨rfl,_,_⟩:=h;rw[hg2] at h2;cases h2;exact h6
     rw[<-h6];apply List.ext_getElem?;intro q;rw[List.getElem?_take,List.getElem?_take]
     split
     ·rename_i hq
      rw[hlq] at hq;have hout:=World.cell?_setCells_out g (Builtin.zeroCells z.cells (rows.length-lo)).toList (lo*k) w ⟨g,q,none⟩ λ_ _=>.inl hq;rw[cell_of_row _ g q cur' e (0,0) hc1,cell_of_row w g q cur e (0,0) hg2] at hout
      simpa using hout
     ·rfl
   exact hR'.put_none rfl
theorem bAa[Mode]{x y:Operand}{t e k m q:Nat}{v:Value}{e':Nat}{rows:List (List D)}{kd:IntKind}{p:Int}{ty:TypeId}{pos:String}{af:Array Edge}{gd:Option (Nat×Bool)}(hd:d<n)
  (hx:st.eval x=.d (.lit v))(ho:st.objs[m]?=some (.arr (nC v q) e' k rows))(hy:st.eval y=.d (.lit (.int kd p)))(hp:p.toNat=q)(h0:0<=p)(ht:iL P t e k):
  aY P n ⟨some d,.slice t x none (some y) none,ty,pos,af,gd⟩ st (st.set d (.d (.lit (nC v q)))):=
 cA rfl hd λA M w0 a w hR=>by
  subst hp;obtain⟨xs,_,hown,_⟩:=hR.inv.holds _ (List.mem_of_getElem? ho);cases v with
  | slice b c1 c2=>
   rcases hown.2 with⟨h,hn⟩|⟨g,cap,cur,h,_,_,hcap,_⟩
   ·simp only[nC,Value.slice.injEq] at h;obtain⟨rfl,hp,rfl⟩:=h;exact⟨_,by simp[execOp,Instr.sliceAt,Instr.slice,ht.1,ht.2,hR.lit hx,hR.lit hy,Instr.sliceBounds,Instr.sliceBound,asIntOf,nC,show p=0 by omega],.of_lit rfl⟩
   ·simp only[nC,Value.slice.injEq] at h;obtain⟨rfl,hp,rfl⟩:=h;refine⟨_,?_,.of_lit rfl⟩
    by_cases hc:c2=0
    ·simp[execOp,Instr.sliceAt,Instr.slice,ht.1,ht.2,hR.lit hx,hR.lit hy,Instr.sliceBounds,Instr.sliceBound,asIntOf,nC,h0,hc]
     intro _;omega
    ·simp[execOp,Instr.sliceAt,Instr.slice,ht.1,ht.2,hR.lit hx,hR.lit hy,Instr.sliceBounds,Instr.sliceBound,asIntOf,nC,h0,show p<=(c2:Int) by omega,hc,Addr.add_lit]
  | _=> 
   rcases hown.2 with⟨h,hn⟩|⟨g,cap,cur,h,_⟩<;>simp[nC] at h
end
section
variable{P:Program}{n d:Nat}{st:St}{o:Oper}
theorem bMm[Mode]{α:Type}{x:Operand}{t e k bytes m lo:Nat}{z v:Value}{f:α->List D}{xs:List α}{u:Unit}{ty:TypeId}{pos:String}{af:Array Edge}{gd:Option (Nat×Bool)}(ht:SliceTy P t e k bytes z)
  (hx:st.eval x=.d (.lit (aDv v lo k)))(ho:st.objs[m]?=some (.arr v e k (xs.map f)))(hlo:chk (decide (lo<=xs.length))=some u)(hz1:∀u∈z.cells.toList,u.oneCell'=true):
  aY P n ⟨none,.call {callee:=.builtin .clear,args:= #[x],argTypes:= #[t]},ty,pos,af,gd⟩ st (st.put1 m (.arr (nC v lo) e k ((xs.take lo).map f))):=by
 have:=bBm (n:=n) (ty:=ty) (pos:=pos) (af:=af) (gd:=gd) ht hx ho (by simpa using aCr hlo) hz1
 rwa[<-List.map_take] at this
theorem bAb[Mode]{α:Type}{x y:Operand}{t e k m:Nat}{v:Value}{e':Nat}{f:α->List D}{xs:List α}{kd:IntKind}{p:Int}{u:Unit}{ty:TypeId}{pos:String}{af:Array Edge}{gd:Option (Nat×Bool)}(hd:d<n)
  (hx:st.eval x=.d (.lit v))(ho:st.objs[m]?=some (.arr v e' k (xs.map f)))(hy:st.eval y=.d (.lit (.int kd p)))(ht:iL P t e k)(h:chk (decide (0<=p)&&decide (p<=(xs.length:Int)))=some u):
  aY P n ⟨some d,.slice t x (some y) none none,ty,pos,af,gd⟩ st (st.set d (.d (.lit (aDv v p.toNat k)))):=by
 have hc:=aCr h;simp only[Bool.and_eq_true,decide_eq_true_eq] at hc;exact bBo hd hx ho hy ht hc.1 (by rw[List.length_map];exact hc.2)
end
theorem bRf{a b:Int}{u:Unit}(h:chk (decide (a<=b))=some u):a<=b:=by simpa using aCr h
end Go.Am
end
end
