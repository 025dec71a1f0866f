/- Several texts, one behind the other. -/
import Derived.Test.YtdebnakalmnnpaaGreatDoorAmX11
import Derived.Test.YtdebnakalmnnpaaGreatDoorAmClose
import Derived.Test.YtdebnakalmnnpaaGreatDoorAmVal
import Derived.RangeFuncSeq
import Derived.Sort.OwnSortedInts
import Derived.Lib.BitFns
section
section
section
namespace Go.Am
section
variable{P:Program}(T:TT P)
def rdV(S:VS):ResultVar->(AV->Prop)->Prop
 | .tmp t,K=>frc (lk S.env t) K
 | .cell a t,K=>match lk S.env a,T.ty.get t with
  | .bp h _ j,some (i,td)=>match ob S.objs h with
   |some (.box ds)=>bif aEj td then tdK i.size j ds λes=>K (.agg es) else bif Nat.beq i.size 1 then tdK 1 j ds λes=>one1 es λx=>K (.d x) else False
   |_=>False
  |_,_=>False
def bXm(S:VS)(r:AV):List ResultVar->Prop
 |[x]=>rdV T S x λv=>vA S.objs v=r/\okA r=true
 |[x,y]=>rdV T S x λv=>rdV T S y λu=>∃a b,vA S.objs v=a/\vA S.objs u=b/\r=.tup [a,b]/\(okA a&&okA b)=true/\(xZ a&&xZ b)=true
 |[x,y,z]=>rdV T S x λv=>rdV T S y λu=>rdV T S z λt=>∃a b c,vA S.objs v=a/\vA S.objs u=b/\vA S.objs t=c/\r=.tup [a,b,c]/\(okA a&&(okA b&&okA c))=true/\(xZ a&&(xZ b&&xZ c))=true
 |[]=>r=.tup []
 |_=>False
variable{T}
theorem aBd{S:VS}{ρ:Rho}:∀{x:ResultVar} {K:AV->Prop},rdV T S x K->∃v,K v/\RVc P (S.at ρ) x (ρ.av v)
 | .tmp t,K,h=>⟨_,aAx h,.tmp t rfl⟩
 | .cell a t,K,h=>by
  simp only[rdV] at h;split at h
  ·rename_i hh o j i td ha ht
   split at h
   ·rename_i ds hm
    obtain⟨p,hp,_⟩:=sE (ρ:=ρ) hm;cases hag:aEj td with
    | true=>
     rw[hag] at h;obtain⟨hl,h⟩:=aBf (K:=λes=>K (.agg es)) h;exact⟨_,h,.cell a t (aDa ha) hp (aPn ht hag rfl) aWf (by simpa using hl)⟩
    | false=>
     rw[hag] at h;obtain⟨h1,h⟩:=jD h;obtain⟨hl,h⟩:=aBf (K:=λes=>one1 es λx=>K (.d x)) h;obtain⟨d0,he,h⟩:=aSo (K:=λx=>K (.d x)) h;exact⟨_,h,.cell1 a t (aDa ha) hp (aJl ht hag (Nat.eq_of_beq_eq_true h1)) (by rw[List.getElem?_map,bAl he];rfl)⟩
   ·exact h.elim
  ·exact h.elim
theorem cEf{S:VS}{r:AV}{rs:List ResultVar}{ρ:Rho}(hr:sW (S.at ρ).objs)(h:bXm T S r rs):∃r0,ResW P (S.at ρ) rs r0/\BV (S.at ρ).objs r0 r:=by
 unfold bXm at h;split at h
 ·obtain⟨v,⟨h1,h2⟩,hv⟩:=aBd (ρ:=ρ) h;exact⟨_,.one hv,aKr ρ hr h1 h2⟩
 ·obtain⟨v,h,hv⟩:=aBd (ρ:=ρ) h;obtain⟨u,⟨a,b,h1,h2,rfl,h3,h4⟩,hu⟩:=aBd (ρ:=ρ) h;simp only[Bool.and_eq_true] at h3;exact⟨_,.two hv hu,yH (.cons (aKr ρ hr h1 h3.1) (.cons (aKr ρ hr h2 h3.2) .nil))⟩
 ·obtain⟨v,h,hv⟩:=aBd (ρ:=ρ) h;obtain⟨u,h,hu⟩:=aBd (ρ:=ρ) h;obtain⟨t,⟨a,b,c,h1,h2,h5,rfl,h3,h4⟩,ht⟩:=aBd (ρ:=ρ) h;simp only[Bool.and_eq_true] at h3;exact⟨_,.three hv hu ht,yH (.cons (aKr ρ hr h1 h3.1) (.cons (aKr ρ hr h2 h3.2.1) (.cons (aKr ρ hr h5 h3.2.2) .nil)))⟩
 ·subst h;exact⟨_,.none,.same _⟩
 ·exact h.elim
end
theorem bNy[Mode]{P:Program}{n:Nat}{c:Code}{st:St}{Q Q':Exit->St->Prop}(h:Tr P n c st Q)(hq:∀e s,Q e s->∃s1,Ent s s1/\(sW s1.objs->Q' e s1)):Tr P n c st Q':=
 λA M w0 a w hR hn=>wpIn_mono (h A M w0 a w hR hn) λe a' w' ⟨s,h1,hR'⟩=>by
  obtain⟨s1,he,h2⟩:=hq e s h1;have hR1:=he A M w0 n a' w' hR';exact⟨s1,h2 (aSx hR1.inv.holds),hR1⟩
def aGv:Nat->List AV->List (Nat×AV)
 |_,[]=>[]
 |k,v::l=>(k,v)::aGv (k+1) l
theorem bBt:∀{l:List AV} {k j:Nat},lk (aGv k l) (k+j)=l.getD j .any
 |[],k,j=>by simp[aGv,lk]
 |v::l,k,0=>by simp[aGv,lk]
 | v::l,k,j+1=>by
  have:Nat.beq k (k+(j+1))=false:=by
   cases hb:Nat.beq k (k+(j+1)) with
   |false=>rfl
   |true=>have:=Nat.eq_of_beq_eq_true hb;omega
  have h2:=bBt (l:=l) (k:=k+1) (j:=j);rw[show k+1+j=k+(j+1) by omega] at h2;simp only[aGv,lk,this,cond_false,h2]
  simp
def aLf:AV->Bool
 | .bp .. =>false
 | .ep .. =>false
 | .tup _=>false
 | .fn _ _=>false
 | .mf _ _=>false
 |_=>true
def okR:AV->Bool
 | .bp .. =>false
 | .ep .. =>false
 | .tup vs=>vs.all aLf
 | .fn _ vs=>vs.all aLf
 | .mf _ vs=>vs.all aLf
 |_=>true
theorem cGa{w:World}{X:aS}{x:AV}{v:Value}(h:VR w X x v)(ρ:Rho)(hx:aLf x=true):ρ.a1 x=x:=by
 cases h with
 |any=>rfl
 |d h=>show AV.d _=_;rw[h.nohv ρ]
 |agg h=>show AV.agg _=_;rw[h.nohv ρ]
 |cp=>rfl
 |fl=>rfl
 |bp=>simp[aLf] at hx
 |ep=>simp[aLf] at hx
 |tup=>simp[aLf] at hx
 |fn=>simp[aLf] at hx
 |mf=>simp[aLf] at hx
theorem bQi{w:World}{X:aS}{vs:List AV}{us:List Value}(h:∀i,i<vs.length->VR w X (vs.getD i .any) (us.getD i undef))(ρ:Rho)(hx:(vs.all aLf)=true):vs.map ρ.a1=vs:=by
 refine bBl λx hxm=>?_;obtain⟨i,hi,rfl⟩:=List.getElem_of_mem hxm;have h1:=h i hi;simp only[List.getD,List.getElem?_eq_getElem hi,Option.getD_some] at h1;exact cGa h1 ρ (List.all_eq_true.1 hx _ hxm)
theorem cEc{w:World}{X:aS}{x:AV}{v:Value}(h:VR w X x v)(ρ:Rho)(hx:okR x=true):ρ.av x=x:=by
 cases h with
 |any=>rfl
 |d h=>show AV.d _=_;rw[h.nohv ρ]
 |agg h=>show AV.agg _=_;rw[h.nohv ρ]
 |cp=>rfl
 |fl=>rfl
 |bp=>simp[okR] at hx
 |ep=>simp[okR] at hx
 |tup hl h=>show AV.tup _=_;rw[bQi h ρ hx]
 |fn hl h=>show AV.fn _ _=_;rw[bQi h ρ hx]
 |mf hl h=>show AV.mf _ _=_;rw[bQi h ρ hx]
theorem bVv[Mode]{S:VS}{ρ:Rho}{d:Nat}{r:AV}(hr:okR r=true):Ent ((S.at ρ).set d r) ((VS.mk ((d,r)::S.env) S.objs).at ρ):=by
 intro A M w0 n a w hR;have h:=hR.env d;simp only[St.set,fK] at h;have e:=cEc h ρ hr;have:=qP (ρ:=ρ) S d r;rw[e] at this;exact this▸hR
def aLj(β:qT):Rho:=⟨β,λ_=>0,λ_=>0,λ_=>undef⟩
theorem bSh[Mode]{args:List AV}{ρ:Rho}(h:args.all okR=true):Ent ⟨entry args,[]⟩ ((VS.mk (aGv 0 args) []).at ρ):=by
 intro A M w0 n a w hR;have e:(λk=>ρ.av (lk (aGv 0 args) k))=entry args:=by
  funext k
  have h1:=hR.env k;have h2:=bBt (l:=args) (k:=0) (j:=k);rw[Nat.zero_add] at h2;rw[h2];show ρ.av (args.getD k .any)=args.getD k .any;refine cEc h1 ρ ?_;show okR (args.getD k .any)=true
  by_cases hk:k<args.length
  ·simp only[List.getD,List.getElem?_eq_getElem hk,Option.getD_some];exact List.all_eq_true.1 h _ (List.getElem_mem hk)
  ·simp[List.getD,List.getElem?_eq_none (show args.length<=k by omega),okR]
 show R A M w0 n ⟨λk=>ρ.av (lk (aGv 0 args) k),[]⟩ a w;rw[e];exact hR
theorem fnx[Mode]{P:Program}(T:TT P)(X:XP){f:FuncId}{fn:Func}{c:Code}{args:List AV}{r:AV}{N:Nat}(rs:List ResultVar)(hf:P.funcs[f]?=some fn)(hr:fn.results=rs.toArray)(hn:fn.ntmps=N)
  (h:aGz T N (λ_=>(0,0,undef)) X c ⟨aGv 0 args,[]⟩ λe S=>e=.ret/\bXm T S r rs)(hb:fn.body=some c:=by exact rfl)(ha:(Nat.ble args.length N&&args.all okR)=true:=by exact rfl):Fn P f args r:=by
 simp only[Bool.and_eq_true] at ha;refine iE hf hb hr hn (Nat.le_of_ble_eq_true ha.1) ?_;refine bNy (kA (bSh (ρ:=aLj λ_=>(0,0,undef)) ha.2) (wY h _ rfl)) ?_;rintro e s ⟨S',ρ',hβ,⟨he,hres⟩,hent⟩;refine⟨_,hent,λhro=>⟨he,?_⟩⟩;obtain⟨r0,h1,h2⟩:=cEf hro hres;exact⟨r0,_,h1,by simp,h2⟩
end Go.Am
end
section
namespace Go.Am
def bFl(env:List (Nat×AV)):List Nat->List (Nat×AV)->List (Nat×AV)
 |[],us=>us
 |k::ks,us=>(k,lk env k)::bFl env ks us
def aYw(objs:List (Nat×VO)):List Nat->List (Nat×VO)->List (Nat×VO)
 |[],os=>os
 | h::hs,os=>match ob objs h with
  |some m=>(h,m)::aYw objs hs os
  |none=>aYw objs hs os
def VS.pt(S:VS)(ks:List Nat)(us:List (Nat×AV))(hs:List Nat)(os:List (Nat×VO)):VS:=⟨bFl S.env ks us,aYw S.objs hs os⟩
def aYv(env:List (Nat×AV)):List Nat->List (Nat×AV)->(List (Nat×AV)->Prop)->Prop
 |[],us,K=>K us
 |k::ks,us,K=>frc (lk env k) λv=>aYv env ks us λr=>K ((k,v)::r)
def aMa(objs:List (Nat×VO)):List Nat->List (Nat×VO)->(List (Nat×VO)->Prop)->Prop
 |[],os,K=>K os
 | h::hs,os,K=>match ob objs h with
  |some m=>aMa objs hs os λr=>K ((h,m)::r)
  |none=>aMa objs hs os K
def VS.ptK(S:VS)(ks:List Nat)(us:List (Nat×AV))(hs:List Nat)(os:List (Nat×VO))(K:VS->Prop):Prop:=aYv S.env ks us λenv=>aMa S.objs hs os λobjs=>K ⟨env,objs⟩
theorem bHw{env:List (Nat×AV)}{us:List (Nat×AV)}:∀{ks:List Nat} {K:List (Nat×AV)->Prop},aYv env ks us K->K (bFl env ks us)
 |[],_,h=>h
 |k::ks,K,h=>bHw (K:=λr=>K ((k,lk env k)::r)) (aAx (K:=λv=>aYv env ks us λr=>K ((k,v)::r)) h)
theorem aWa{objs:List (Nat×VO)}{os:List (Nat×VO)}:∀{hs:List Nat} {K:List (Nat×VO)->Prop},aMa objs hs os K->K (aYw objs hs os)
 |[],_,h=>h
 | k::hs,K,h=>by
  simp only[aMa] at h;simp only[aYw];split at h
  ·rename_i m hm;exact aWa (K:=λr=>K ((k,m)::r)) h
  ·exact aWa h
theorem bZt{S:VS}{ks:List Nat}{us:List (Nat×AV)}{hs:List Nat}{os:List (Nat×VO)}{K:VS->Prop}(h:S.ptK ks us hs os K):K (S.pt ks us hs os):=
 aWa (K:=λobjs=>K ⟨bFl S.env ks us,objs⟩) (bHw (K:=λenv=>aMa S.objs hs os λobjs=>K ⟨env,objs⟩) h)
def rl:List (Nat×Nat)->Nat->Nat
 |[],h=>h
 |(a,b)::l,h=>bif Nat.beq a h then b else rl l h
def rnD(rn:List (Nat×Nat)):D->D
 | .hv q h j=>.hv q (rl rn h) j
 |x=>x
def rn0(rn:List (Nat×Nat)):AV->AV
 | .d x=>.d (rnD rn x)
 | .agg xs=>.agg (xs.map (rnD rn))
 | .bp h o j=>.bp (rl rn h) o j
 | .ep v k i c=>match v with
  | .map (some h)=>.ep (.map (some (rl rn h))) k i c
  |v=>.ep v k i c
 |x=>x
def rn1(rn:List (Nat×Nat)):AV->AV
 | .tup vs=>.tup (vs.map (rn0 rn))
 | .fn f vs=>.fn f (vs.map (rn0 rn))
 | .mf f vs=>.mf f (vs.map (rn0 rn))
 |x=>rn0 rn x
def rnA(rn:List (Nat×Nat)):AV->AV
 | .tup vs=>.tup (vs.map (rn1 rn))
 | .fn f vs=>.fn f (vs.map (rn1 rn))
 | .mf f vs=>.mf f (vs.map (rn1 rn))
 |x=>rn0 rn x
def rnO(rn:List (Nat×Nat)):VO->VO
 | .box ds=>.box (ds.map (rnD rn))
 |x=>x
def Rho.ren(ρ:Rho)(rn:List (Nat×Nat)):Rho:=⟨ρ.β,λh=>ρ.bb (rl rn h),λh=>ρ.oo (rl rn h),λh=>ρ.ss (rl rn h)⟩
def bCm:List (Nat×Nat)->Bool
 |[]=>true
 |p::l=>!(Nat.ble 100000 p.1)&&bCm l
theorem bUi:∀{rn:List (Nat×Nat)} {h:Nat},bCm rn=true->Nat.ble 100000 h=true->rl rn h=h
 |[],_,_,_=>rfl
 | p::l,h,hr,hb=>by
  simp only[bCm,Bool.and_eq_true,Bool.not_eq_true'] at hr;simp only[rl];cases hp:Nat.beq p.1 h with
  |true=>have:=Nat.eq_of_beq_eq_true hp;rw[this] at hr;rw[hb] at hr;cases hr.1
  |false=>exact bUi hr.2 hb
section
variable{ρ:Rho}{rn:List (Nat×Nat)}(hr:bCm rn=true)
include hr
theorem aZw(h:Nat):(ρ.ren rn).bb h=ρ.bb (rl rn h)/\(ρ.ren rn).oo h=ρ.oo (rl rn h)/\(ρ.ren rn).ss h=ρ.ss (rl rn h):=by
 cases hb:Nat.ble 100000 h with
 |false=>simp[Rho.bb,Rho.oo,Rho.ss,hb,Rho.ren]
 |true=>simp[Rho.bb,Rho.oo,Rho.ss,hb,Rho.ren,bUi hr hb]
theorem bJb(x:D):(ρ.ren rn).dd x=ρ.dd (rnD rn x):=by
 cases x with
 | hv q h j=>
  obtain⟨h1,h2,h3⟩:=aZw (ρ:=ρ) hr h;simp only[Rho.dd,rnD,h1,h2,h3]
 |_=>rfl
omit hr in
theorem yT{α β γ:Type}{f:α->β}{g:γ->β}{k:α->γ}(h:∀x,f x=g (k x))(l:List α):l.map f=(l.map k).map g:=by
 rw[List.map_map];exact List.map_congr_left λx _=>h x
theorem zF(x:AV):(ρ.ren rn).a0 x=ρ.a0 (rn0 rn x):=by
 cases x with
 |d x=>simp only[Rho.a0,rn0,bJb hr]
 |agg xs=>simp only[Rho.a0,rn0];rw[yT (bJb hr) xs]
 |bp h o j=>obtain⟨h1,h2,_⟩:=aZw (ρ:=ρ) hr h;simp only[Rho.a0,rn0,h1,h2]
 | ep v k i c=>
  cases v with
  | map r=>cases r with
   |none=>rfl
   |some h=>obtain⟨_,_,h3⟩:=aZw (ρ:=ρ) hr h;simp only[Rho.a0,rn0,h3]
  |_=>rfl
 |_=>rfl
theorem bJa(x:AV):(ρ.ren rn).a1 x=ρ.a1 (rn1 rn x):=by
 cases x with
 |tup vs=>simp only[Rho.a1,rn1];rw[yT (zF hr) vs]
 |fn f vs=>simp only[Rho.a1,rn1];rw[yT (zF hr) vs]
 |mf f vs=>simp only[Rho.a1,rn1];rw[yT (zF hr) vs]
 |any=>rfl
 |d x=>exact zF hr (.d x)
 |agg x=>exact zF hr (.agg x)
 |cp x=>rfl
 |bp b o j=>exact zF hr (.bp b o j)
 | ep v k i c=>
  have:=zF (ρ:=ρ) hr (.ep v k i c);cases v with
  |map r=>cases r<;>exact this
  |_=>exact this
 |fl=>rfl
theorem cEd(x:AV):(ρ.ren rn).av x=ρ.av (rnA rn x):=by
 cases x with
 |tup vs=>simp only[Rho.av,rnA];rw[yT (bJa hr) vs]
 |fn f vs=>simp only[Rho.av,rnA];rw[yT (bJa hr) vs]
 |mf f vs=>simp only[Rho.av,rnA];rw[yT (bJa hr) vs]
 |any=>rfl
 |d x=>exact zF hr (.d x)
 |agg x=>exact zF hr (.agg x)
 |cp x=>rfl
 |bp b o j=>exact zF hr (.bp b o j)
 | ep v k i c=>
  have:=zF (ρ:=ρ) hr (.ep v k i c);cases v with
  |map r=>cases r<;>exact this
  |_=>exact this
 |fl=>rfl
theorem cEe(h:Nat)(m:VO):(ρ.ren rn).mo h m=ρ.mo (rl rn h) (rnO rn m):=by
 obtain⟨h1,h2,h3⟩:=aZw (ρ:=ρ) hr h;cases m with
 |box ds=>simp only[Rho.mo,rnO,h1,h2];rw[yT (bJb hr) ds]
 |arr e k rows=>simp only[Rho.mo,rnO,h3]
 |map agg es=>simp only[Rho.mo,rnO,h1]
 |raw m=>rfl
end
theorem bTf{env:List (Nat×AV)}{f:AV->AV}:∀{l:List (Nat×AV)},l.map (λp=>lk env p.1)=l.map (λp=>f p.2)->∀k,lk l k=.any\/f (lk l k)=lk env k
 |[],_,k=>.inl rfl
 | p::l,h,k=>by
  simp only[List.map_cons,List.cons.injEq] at h;simp only[lk];cases hb:Nat.beq p.1 k with
  |true=>have:=Nat.eq_of_beq_eq_true hb;subst this;exact .inr h.1.symm
  |false=>exact bTf h.2 k
def aLh:List (Nat×VO)->Nat->Nat
 |[],_=>0
 |(k,_)::l,h=>bif Nat.beq k h then 0 else aLh l h+1
theorem aZr{ρ:Rho}:∀{objs:List (Nat×VO)} {h:Nat} {m:VO},ob objs h=some m->(objs.map λp=>ρ.mo p.1 p.2)[aLh objs h]?=some (ρ.mo h m)/\(objs.map (·.1))[aLh objs h]?=some h
 |[],_,_,h=>by cases h
 | (k,x)::l,h,m,hm=>by
  simp only[ob] at hm;simp only[aLh];cases hb:Nat.beq k h with
  | true=>
   rw[hb] at hm;have:=Nat.eq_of_beq_eq_true hb;subst this
   simp at hm;subst hm
   simp
  | false=>
   rw[hb] at hm;have:=aZr (ρ:=ρ) (by simpa using hm)
   simpa using this
theorem bDa{objs:List (Nat×VO)}:∀{l:List Nat},(∀h∈l,∃m,ob objs h=some m)->apart l=true->apart (l.map (aLh objs))=true
 |[],_,_=>rfl
 | h ::l,hl,ha=>by
  simp only[apart] at ha;cases hm:aV h l with
  |true=>rw[hm] at ha;simp at ha
  | false=>
   rw [hm] at ha;simp only[List.map_cons,apart];have:aV (aLh objs h) (l.map (aLh objs))=false:=by
    cases hq:aV (aLh objs h) (l.map (aLh objs)) with
    |false=>rfl
    | true=>
     obtain⟨g,hg,he⟩:=List.mem_map.1 (jG.1 hq);obtain⟨m1,h1⟩:=hl h (by simp);obtain⟨m2,h2⟩:=hl g (by simp[hg]);have e1:=(aZr (ρ:=aLj λ_=>(0,0,undef)) h1).2;have e2:=(aZr (ρ:=aLj λ_=>(0,0,undef)) h2).2;rw[he] at e2;rw[e1] at e2;cases e2;rw[jG.2 hg] at hm;cases hm
   rw[this];simp only[cond_false];exact bDa (λg hg=>hl g (by simp[hg])) (by simpa using ha)
theorem bIq{ρ:Rho}{rn:List (Nat×Nat)}(hr:bCm rn=true){objs:List (Nat×VO)}:∀{l:List (Nat×VO)},l.map (λp=>ob objs (rl rn p.1))=l.map (λp=>some (rnO rn p.2))->pick (objs.map λp=>ρ.mo p.1 p.2) ((l.map λp=>rl rn p.1).map (aLh objs))=some (l.map λp=>(ρ.ren rn).mo p.1 p.2)
 |[],_=>rfl
 | p::l,h=>by
  simp only[List.map_cons,List.cons.injEq] at h;have h1:=(aZr (ρ:=ρ) h.1).1;have h2:=bIq (ρ:=ρ) hr (l:=l) h.2;simp only[List.map_cons,pick,h1];simp only[List.map_map] at h2|-;rw[h2];simp only[cEe hr]
theorem lev[Mode](rn:List (Nat×Nat)){β:qT}{S S':VS}(h1:S'.env.map (λp=>lk S.env p.1)=S'.env.map (λp=>rnA rn p.2):=by exact rfl)(h2:S'.objs.map (λp=>ob S.objs (rl rn p.1))=S'.objs.map (λp=>some (rnO rn p.2)):=by exact rfl)
  (h3:(bCm rn&&apart (S'.objs.map λp=>rl rn p.1))=true:=by exact rfl):LeV β S S':=by
 simp only[Bool.and_eq_true] at h3;intro ρ hρ;refine⟨ρ.ren rn,hρ,?_⟩;unfold VS.at;refine aQ _ (bDa (objs:=S.objs) (λh hh=>?_) h3.2) (bIq h3.1 h2) λk=>?_
 ·obtain⟨p,hp,rfl⟩:=List.mem_map.1 hh;have:(λp:Nat×VO=>ob S.objs (rl rn p.1)) p=(λp:Nat×VO=>some (rnO rn p.2)) p:=List.map_inj_left.1 h2 p hp;exact⟨_,this⟩
 ·rcases bTf h1 k with h|h
  ·left;rw[h];rfl
  ·right;rw[cEd h3.1,h]
section
variable{α γ:Type}{r:γ}{x y:Option γ}{g:α->Option γ}
theorem br{c:Bool}{K:Bool->Prop}(h:(bif c then x else y)=some r)(ht:x=some r->K true)(hf:y=some r->K false):OB c K:=by
 cases c with
 |true=>exact⟨ht h⟩
 |false=>exact⟨hf h⟩
theorem brp{c:Bool}{p q:Prop}{K:Bool->Prop}(h:bif c then p else q)(ht:p->K true)(hf:q->K false):OB c K:=by
 cases c with
 |true=>exact⟨ht h⟩
 |false=>exact⟨hf h⟩
theorem oi{f:α->List D}{xs:List α}{p:Int}{K:List D->Prop}(h:(idx xs p).bind g=some r)(k:∀x,g x=some r->K (f x)):bOc (xs.map f) p K:=by
 obtain⟨x,hx,h⟩:=bind_some h;exact⟨⟨_,dM f hx,k x h⟩⟩
theorem ol{f:α->List D}{xs:List α}{K:Int->Prop}(k:K xs.length):bFx (xs.map f) K:=⟨⟨xs.length,by simp,k⟩⟩
theorem oap{f:α->List D}{k0 bytes:Nat}{xs ys:List α}{g:List α->Option γ}{K:List (List D)->Prop}(h:(app bytes xs ys).bind g=some r)(k:∀zs,g zs=some r->K (zs.map f))(hk:∀x,(f x).length=k0:=by exactλ_=>rfl):bVh k0 bytes (xs.map f) (ys.map f) K:=by
 obtain⟨zs,hz,h⟩:=bind_some h;obtain⟨h1,rfl⟩:=aNa hz;refine⟨⟨_,?_,fH hk,k _ h⟩⟩;simp only[app,List.length_map,h1,if_true,List.map_append]
theorem osb{f:α->List D}{xs:List α}{lo hi:Int}{g:List α->Option γ}{K:List (List D)->Prop}(h:(sub xs lo hi).bind g=some r)(k:∀zs,g zs=some r->K (zs.map f)):bFy (xs.map f) lo hi K:=by
 obtain⟨zs,hz,h⟩:=bind_some h;exact⟨⟨_,cCf f hz,k _ h⟩⟩
theorem jg{S:VS}{m t:Nat}{ds:List Nat}{A:(VS->Prop)->Prop}{B:VS->Prop}{X:Option Bool}{g:Bool->Option γ}(h:X.bind g=some r)(ha:∀x,X=some x->A (GN S m t ds x))(hb:∀x,g x=some r->B ⟨(t,.b x)::tN ds S.env,S.objs⟩):JG S m t ds A B:=by
 obtain⟨x,hx,h⟩:=bind_some h;exact⟨⟨x,ha x hx,hb x h⟩⟩
theorem jt{S S':VS}{m t:Nat}{ds:List Nat}{v x:Bool}(h:some v=some x)(h1:aNq m S'.env=S.env:=by exact rfl)(h2:bAm (t::ds) m S'.env=true:=by exact rfl)(h3:lk S'.env t=.b v:=by exact rfl)(h4:S'.objs=S.objs:=by exact rfl):GN S m t ds x S':=by
 cases h;exact⟨h1,h2,h3,h4⟩
theorem jo{S:VS}{m t:Nat}{ds:List Nat}{A:(VS->Prop)->Prop}{B:VS->Prop}{X:Option Bool}{c:Bool}{g:Bool->Option γ}(h:X.bind g=some r)(ha:∀x,X=some x->A (GN S m t ds x))(hb:∀x,g x=some r->B ⟨(t,.b x)::tN ds S.env,S.objs⟩)(hc:c=true:=by kernel_rfl):JO c S m t ds A B:=by
 obtain⟨x,hx,h⟩:=bind_some h;exact⟨⟨hc,x,ha x hx,hb x h⟩⟩
end
theorem xlp[Mode]{P:Program}{T:TT P}{n:Nat}{β:qT}{X:XP}{c:Code}{S:VS}{Q:Exit->VS->Prop}{A R:Type}{r:R}{k0:Nat}(ks hs:List Nat)(σ:A->List (Nat×AV)×List (Nat×VO))(F:Nat->A->Option R)(a0:A)(h0:F k0 a0=some r)(he:LeV β S (S.pt ks (σ a0).1 hs (σ a0).2))
  (body:∀k a,F (k+1) a=some r->S.ptK ks (σ a).1 hs (σ a).2 λS1=>aGz T n β X c S1 λe S'=>match e with| .normal=>∃a',F k a'=some r/\LeV β S' (S.pt ks (σ a').1 hs (σ a').2)|e=>Q e S')(hz:∀a,F 0 a=none:=by exactλ_=>rfl):OLp T n β X c S Q:=by
 refine⟨aUg he λρ hρ=>?_⟩;refine bCt (λs:A×{ρ:Rho // ρ.β=β}=>(S.pt ks (σ s.1).1 hs (σ s.1).2).at s.2.1) (λk s=>F k s.1) r (λs=>hz s.1) ?_ k0 (a0,⟨ρ,hρ⟩) h0;rintro k ⟨a,ρ1,h1⟩ hk;refine rL (wY (bZt (body k a hk)) ρ1 h1) ?_;rintro e st ⟨S',ρ',hβ,hq,hent⟩;cases e with
 | normal=>
  obtain⟨a',ha,hl⟩:=hq;obtain⟨ρ2,h2,he2⟩:=hl ρ' hβ;exact⟨(a',⟨ρ2,h2⟩),ha,hent.trans he2⟩
 |_=>exact⟨S',ρ',hβ,hq,hent⟩
end Go.Am
end
end
section
section
namespace Go.Am
def hsD:D->List Nat
 | .hv _ h _=>[h]
 |_=>[]
def hs0:AV->List Nat
 | .d x=>hsD x
 | .agg xs=>xs.flatMap hsD
 | .bp h _ _=>[h]
 |_=>[]
def hs1:AV->List Nat
 | .tup vs=>vs.flatMap hs0
 | .fn _ vs=>vs.flatMap hs0
 |x=>hs0 x
def hsA:AV->List Nat
 | .tup vs=>vs.flatMap hs1
 | .fn _ vs=>vs.flatMap hs1
 |x=>hs0 x
def inX(objs:List (Nat×VO))(h:Nat):List Nat:=match ob objs h with
 |some (.box ds)=>ds.flatMap hsD
 |_=>[]
def aUi(objs:List (Nat×VO))(v:AV):List Nat:=hsA v++(hsA v).flatMap (inX objs)
section
variable{objs objs':List (Nat×VO)}
theorem bEq{x:D}(h:∀k∈hsD x,ob objs' k=ob objs k):vD1 objs' x=vD1 objs x:=by
 cases x with
 |hv q k j=>simp only[vD1,h k (by simp[hsD])]
 |_=>rfl
theorem aPz{xs:List D}(h:∀k∈xs.flatMap hsD,ob objs' k=ob objs k):xs.map (vD1 objs')=xs.map (vD1 objs):=
 List.map_congr_left λx hx=>bEq λk hk=>h k (List.mem_flatMap.2 ⟨x,hx,hk⟩)
theorem zM{x:AV}(h:∀k∈hs0 x,ob objs' k=ob objs k)(h2:∀k∈hs0 x,∀q∈inX objs k,ob objs' q=ob objs q):vA0 objs' x=vA0 objs x:=by
 cases x with
 |d x=>simp only[vA0];rw[bEq h]
 |agg xs=>simp only[vA0];rw[aPz h]
 | bp k o j=>
  have e:=h k (by simp[hs0]);simp only[vA0,e]
  split
  ·rename_i ds hm
   have:(ds.drop j).map (vD1 objs')=(ds.drop j).map (vD1 objs):=aPz λq hq=>h2 k (by simp[hs0]) q (by
    simp only[inX,hm];obtain⟨x,hx,hq⟩:=List.mem_flatMap.1 hq;exact List.mem_flatMap.2 ⟨x,List.mem_of_mem_drop hx,hq⟩)
   rw[this]
  ·rfl
 |_=>rfl
theorem bVd{x:AV}(h:∀k∈hs1 x,ob objs' k=ob objs k)(h2:∀k∈hs1 x,∀q∈inX objs k,ob objs' q=ob objs q):vA1 objs' x=vA1 objs x:=by
 have key:∀vs:List AV,(∀k∈vs.flatMap hs0,ob objs' k=ob objs k)->(∀k∈vs.flatMap hs0,∀q∈inX objs k,ob objs' q=ob objs q)->vs.map (vA0 objs')=vs.map (vA0 objs):=λvs h h2=>
  List.map_congr_left λx hx=>zM (λk hk=>h k (List.mem_flatMap.2 ⟨x,hx,hk⟩)) λk hk=>h2 k (List.mem_flatMap.2 ⟨x,hx,hk⟩)
 cases x with
 |tup vs=>simp only[vA1];rw[key vs h h2]
 |fn f vs=>simp only[vA1];rw[key vs h h2]
 |any=>rfl
 |d x=>exact zM (x:=.d x) h h2
 |agg x=>exact zM (x:=.agg x) h h2
 |cp x=>rfl
 |bp b o j=>exact zM (x:=.bp b o j) h h2
 |ep=>rfl
 |fl=>rfl
 |mf=>rfl
theorem bKf{x:AV}(h:∀k∈aUi objs x,ob objs' k=ob objs k):vA objs' x=vA objs x:=by
 have h1:∀k∈hsA x,ob objs' k=ob objs k:=λk hk=>h k (List.mem_append.2 (.inl hk));have h2:∀k∈hsA x,∀q∈inX objs k,ob objs' q=ob objs q:=λk hk q hq=>h q (List.mem_append.2 (.inr (List.mem_flatMap.2 ⟨k,hk,hq⟩)));have key:∀vs:List AV,(∀k∈vs.flatMap hs1,ob objs' k=ob objs k)->(∀k∈vs.flatMap hs1,∀q∈inX objs k,ob objs' q=ob objs q)->vs.map (vA1 objs')=vs.map (vA1 objs):=λvs h h2=>
  List.map_congr_left λx hx=>bVd (λk hk=>h k (List.mem_flatMap.2 ⟨x,hx,hk⟩)) λk hk=>h2 k (List.mem_flatMap.2 ⟨x,hx,hk⟩)
 cases x with
 |tup vs=>simp only[vA];rw[key vs h1 h2]
 |fn f vs=>simp only[vA];rw[key vs h1 h2]
 |any=>rfl
 |d x=>exact zM (x:=.d x) h1 h2
 |agg x=>exact zM (x:=.agg x) h1 h2
 |cp x=>rfl
 |bp b o j=>exact zM (x:=.bp b o j) h1 h2
 |ep=>rfl
 |fl=>rfl
 |mf=>rfl
end
theorem bNv[Mode]{P:Program}{n:Nat}{o:Oper}{st:St}{Q:St->Prop}(h:sW st.objs->Step P n o st Q):Step P n o st Q:=
 λA M w0 a w hR=>h (aSx hR.inv.holds) A M w0 a w hR
def nlA:AV->AV->AV
 | .d (.lit (.slice none 0 0)),.d (.sl k _)=>.d (.sl k [])
 |a,_=>a
def nlL:List AV->List AV->List AV
 |a::l,b::m=>nlA a b::nlL l m
 |l,_=>l
theorem bZn(a b:AV):nlA a b=a\/(a=.d (.lit (.slice none 0 0))/\∃k,nlA a b=.d (.sl k [])):=by
 unfold nlA
 split
 ·exact .inr ⟨rfl,_,rfl⟩
 ·exact .inl rfl
theorem aTw{objs:List (Nat×VO)}{ρ:Rho}{fs:List MO}:∀{ars bs:List AV},(∀x∈ars,okA (vA objs x)=true->BV fs (ρ.av x) (vA objs x))->(nlL (ars.map (vA objs)) bs).all okA=true->BVs fs (ars.map ρ.av) (nlL (ars.map (vA objs)) bs)
 | [],_,_,_=>by
  rename_i bs
  cases bs<;>exact .nil
 | a::l,[],h,ho=>by
  simp only[List.map_cons,nlL,List.all_cons,Bool.and_eq_true] at ho|-;refine .cons (h a (by simp) ho.1) ?_;have:nlL (l.map (vA objs)) []=l.map (vA objs):=by cases l<;>rfl
  have:=aTw (ars:=l) (bs:=[]) (λx hx=>h x (by simp[hx])) (by rw[this];exact ho.2)
  rwa[show nlL (l.map (vA objs)) []=l.map (vA objs) by cases l<;>rfl] at this
 | a ::l,b::m,h,ho=>by
  simp only[List.map_cons,nlL,List.all_cons,Bool.and_eq_true] at ho|-;refine .cons ?_ (aTw (λx hx=>h x (by simp[hx])) ho.2)
  rcases bZn (vA objs a) b with he|⟨he,k,hk⟩
  ·rw[he] at ho|-;exact h a (by simp) ho.1
  ·rw [hk];have:=h a (by simp) (by rw[he];rfl);have e:a=.d (.lit (.slice none 0 0)):=by
    cases a with
    | d x=>
     cases x with
     | hv q g j=>
      simp only[vA,vA0,vD1] at he;split at he<;>cases he
     |lit v=>exact he
     |_=>cases he
    | bp b o j=>
     simp only[vA,vA0] at he;split at he
     ·cases hx:(Nat.ble j _&&_)<;>rw[hx] at he<;>cases he
     ·cases he
    |_=>cases he
   rw[e];exact .d (.nil k)
def bPl:List Nat->(List Nat->Prop)->Prop
 |[],K=>K []
 |x::l,K=>bPl l λr=>K (x::r)
theorem bIb:∀{l:List Nat} {K:List Nat->Prop},bPl l K->K l
 |[],_,h=>h
 |x::l,K,h=>bIb (K:=λr=>K (x::r)) h
def qF(S:VS)(l:List Operand):Callee->Option (FuncId×List AV)
 | .value (.func f)=>some (f,l.map S.ev)
 | .value (.tmp t)=>match lk S.env t with
  | .fn f caps=>bif aQs caps then some (f,l.map S.ev++caps) else none
  |_=>none
 |_=>none
section
variable{P:Program}{n d:Nat}{S:VS}{ty:TypeId}{pos:String}{af:Array Edge}{gd:Option (Nat×Bool)}{K:Eff->Prop}{c:Callee}{l:List Operand}{ts:Array TypeId}{f:FuncId}{ars:List AV}
theorem aJt{S':VS}{us:List Nat}(hA:Agr (.call ⟨c,l.toArray,ts⟩) S S' us)(hc:qF S l c=some (f,ars))(he:∀args w,(callFunc f args).run P w=.ok (.enter f args) w)(ρ:Rho):∃a0,mD P (S'.at ρ) c l f a0/\a0=ars.map ρ.av:=by
 unfold qF at hc;have hl:∀x∈l,S'.ev x=S.ev x:=λx hx=>hA.ev x (by cases c<;>simp[Op.operands,Call.operands,hx]);split at hc
 ·cases hc;exact⟨_,.func _ _ he,aNt ρ hl⟩
 ·rename_i t
  split at hc
  ·rename_i caps ht
   cases hf:aQs caps with
   |false=>rw[hf] at hc;cases hc
   | true=>
    rw[hf] at hc;cases hc;have ht':lk S'.env t=.fn f caps:=by
     have:=hA.ev (.tmp t) (by simp[Op.operands,Call.operands]);exact this.trans ht
    refine⟨_,.clo t f (caps.map ρ.a1) l he (aDa ht'),?_⟩;rw[aNt ρ hl,List.map_append,bGe ρ hf]
  ·cases hc
 ·cases hc
theorem bCa{r:AV}(h:r.one1=true)(ρ:Rho):ρ.av r=r/\ρ.a1 r=r:=by
 cases r with
 |d x=>obtain⟨v,rfl⟩:=D.isLit_spec h;exact⟨rfl,rfl⟩
 | agg xs=>
  have e:xs.map ρ.dd=xs:=sQ (p:=D.isLit) (λx hx=>by obtain⟨v,rfl⟩:=D.isLit_spec hx;rfl) h;exact⟨congrArg AV.agg e,congrArg AV.agg e⟩
 |_=>simp[AV.one1] at h
theorem bWk{r:AV}(h:r.isLit=true)(ρ:Rho):ρ.av r=r:=by
 cases r with
 | tup vs=>
  simp only[AV.isLit] at h;show AV.tup _=_;rw[sQ (p:=AV.one1) (λx hx=>(bCa hx ρ).2) h]
 |d x=>exact(bCa (r:=.d x) h ρ).1
 |agg xs=>exact(bCa (r:=.agg xs) h ρ).1
 |_=>simp[AV.isLit,AV.one1] at h
theorem bEp{ars:List AV}{objs:List (Nat×VO)}{x:AV}(hx:x∈ars){k:Nat}(hk:k∈aUi objs x):k∈ars.flatMap (aUi objs):=List.mem_flatMap.2 ⟨x,hx,hk⟩
theorem ocl[Mode]{args':List AV}{r:AV}(he:∀args w,(callFunc f args).run P w=.ok (.enter f args) w)(hf:Fn P f args' r)(hd:d<n)(hc:qF S l c=some (f,ars))(hv:nlL (ars.map (vA S.objs)) args'=args')(hok:(iN l&&args'.all okA)=true)(hl:r.isLit=true)(k:K (.r r (ars.flatMap (aUi S.objs)))):
  cA P n ⟨some d,.call ⟨c,l.toArray,ts⟩,ty,pos,af,gd⟩ S K:=by
 simp only[Bool.and_eq_true] at hok;refine dL k λS' hA ρ=>bNv λhro=>?_;obtain⟨a0,h1,h2⟩:=aJt hA hc he ρ;have e:ρ.av r=r:=bWk hl ρ;rw[e];refine qS hd h1 h2 hok.1 ?_ hf hl;have hro':sW (S'.objs.map λp=>ρ.mo p.1 p.2):=hro;have hok2:=hok.2;rw[<-hv] at hok2|-;exact aTw (λx hx ha=>aKr ρ hro' (bKf λk hk=>hA.ob k (bEp hx hk)) ha) hok2
theorem ocd[Mode]{args':List AV}{r:AV}(he:∀args w,(callFunc f args).run P w=.ok (.enter f args) w)(hf:Fn P f args' r)(hd:d<n)(hc:qF S l c=some (f,ars))(hv:nlL ars args'=args')(hok:(iN l&&ars.all okA)=true)(hl:okR r=true)(k:K (.p r)):
  cA P n ⟨some d,.call ⟨c,l.toArray,ts⟩,ty,pos,af,gd⟩ S K:=by
 simp only[Bool.and_eq_true] at hok;refine⟨⟨_,k,λS' hA _ ρ=>?_⟩⟩;obtain⟨a0,h1,h2⟩:=aJt hA hc he ρ;rw[sQ (λx=>aAi ρ (x:=x)) hok.2] at h2;have hb:BVs [] ars args':=by
  rw [<-hv];have key:∀{ars bs:List AV},BVs [] ars (nlL ars bs):=by
   intro ars
   induction ars with
   |nil=>intro bs;cases bs<;>exact .nil
   | cons a l ih=>
    intro bs;cases bs with
    |nil=>exact BVs.refl _ _
    | cons b m=>
     refine .cons ?_ ih
     rcases bZn a b with he|⟨he,k,hk⟩
     ·rw[he];exact .same _
     ·rw[hk,he];exact .d (.nil k)
  exact key
 exact dJ (nJ hd h1 h2 hok.1 hb hf) λs hs=>⟨ρ,rfl,hs▸bVv (S:=S') hl⟩
section
variable{α γ:Type}{sh:Option α}{r:γ}{g:α->Option γ}{enc:α->AV}{args':List AV}
theorem cl[Mode](he:∀args w,(callFunc f args).run P w=.ok (.enter f args) w)(hf:∀x,sh=some x->Fn P f args' (enc x))(h:sh.bind g=some r)(k:∀x,g x=some r->bPl (ars.flatMap (aUi S.objs)) λus=>K (.r (enc x) us))
  (hc:qF S l c=some (f,ars):=by exact rfl)(hv:nlL (ars.map (vA S.objs)) args'=args':=by exact rfl)(hok:(Nat.ble (d+1) n&&(iN l&&args'.all okA))=true:=by exact rfl)(hl:∀x,(enc x).isLit=true:=by exactλ_=>rfl):
  cA P n ⟨some d,.call ⟨c,l.toArray,ts⟩,ty,pos,af,gd⟩ S K:=by
 obtain⟨x,hx,h⟩:=bind_some h;simp only[Bool.and_eq_true] at hok;exact ocl he (hf x hx) (Nat.le_of_ble_eq_true hok.1) hc hv (by simp only[Bool.and_eq_true];exact hok.2) (hl x) (bIb (K:=λus=>K (.r (enc x) us)) (k x h))
theorem cd[Mode](he:∀args w,(callFunc f args).run P w=.ok (.enter f args) w)(hf:∀x,sh=some x->Fn P f args' (enc x))(h:sh.bind g=some r)(k:∀x,g x=some r->K (.p (enc x)))
  (hc:qF S l c=some (f,ars):=by exact rfl)(hv:nlL ars args'=args':=by exact rfl)(hok:(Nat.ble (d+1) n&&(iN l&&ars.all okA))=true:=by exact rfl)(hl:∀x,okR (enc x)=true:=by exactλ_=>rfl):
  cA P n ⟨some d,.call ⟨c,l.toArray,ts⟩,ty,pos,af,gd⟩ S K:=by
 obtain⟨x,hx,h⟩:=bind_some h;simp only[Bool.and_eq_true] at hok;exact ocd he (hf x hx) (Nat.le_of_ble_eq_true hok.1) hc hv (by simp only[Bool.and_eq_true];exact hok.2) (hl x) (k x h)
end
end
section
variable{α γ:Type}{r:γ}
theorem onz{q:Int}{p:Prop}{g:Unit->Option γ}(h:(chk (!decide (q=0))).bind g=some r)(k:g ()=some r->p):q≠0/\p:=by
 obtain⟨u,hu,h⟩:=bind_some h;exact⟨cFr hu,k h⟩
theorem oge{q:Int}{p:Prop}{g:Unit->Option γ}(h:(chk (decide (0<=q))).bind g=some r)(k:g ()=some r->p):0<=q/\p:=by
 obtain⟨u,hu,h⟩:=bind_some h;exact⟨bFk hu,k h⟩
theorem oiy{f:α->List D}{g:α->Option γ}{xs:List α}{p:Int}{K:List D->Prop}(h:(idx xs p).bind g=some r)(k:∀x,idx xs p=some x->g x=some r->K (f x)):bOc (xs.map f) p K:=by
 obtain⟨x,hx,h⟩:=bind_some h;exact⟨⟨_,dM f hx,k x hx h⟩⟩
end
section
variable{P:Program}{n d:Nat}{S:VS}{ty:TypeId}{pos:String}{af:Array Edge}{gd:Option (Nat×Bool)}{K:Eff->Prop}{x y:Operand}{t u:TypeId}
theorem aWk[Mode]{α:Type}[DecidableEq α]{enc:α->List D}{a b:α}(hg:P.eqGuardType P.depth t=false)(he:aGs P t enc)(k:K (.p (.b (decide (a=b)))))(hx:S.ev x=.agg (enc a):=by exact rfl)(hy:S.ev y=.agg (enc b):=by exact rfl)
  (hl:(Nat.ble (d+1) n&&(eG (enc a)&&eG (enc b)))=true:=by exact rfl)(hv:(enc a++enc b).any hvD=false:=by exact rfl):cA P n ⟨some d,.binOp .eql t x y u,ty,pos,af,gd⟩ S K:=by
 simp only[Bool.and_eq_true] at hl;rw[List.any_append,Bool.or_eq_false_iff] at hv;refine dL (us:=[]) k λS' hA ρ=>?_;have h1:=evS (ρ:=ρ) hA (by simp[Op.operands]) hx;have h2:=evS (ρ:=ρ) hA (by simp[Op.operands]) hy;have e1:ρ.av (.agg (enc a))=.agg (enc a):=by show AV.agg _=_;rw[aBo ρ hv.1]
 have e2:ρ.av (.agg (enc b))=.agg (enc b):=by show AV.agg _=_;rw[aBo ρ hv.2]
 exact cGb (Nat.le_of_ble_eq_true hl.1) (h1.trans e1) (h2.trans e2) hl.2.1 hl.2.2 hg he
theorem bPq[Mode]{α:Type}[DecidableEq α]{enc:α->List D}{a b:α}(hg:P.eqGuardType P.depth t=false)(he:aGs P t enc)(k:K (.p (.b (!decide (a=b)))))(hx:S.ev x=.agg (enc a):=by exact rfl)(hy:S.ev y=.agg (enc b):=by exact rfl)
  (hl:(Nat.ble (d+1) n&&(eG (enc a)&&eG (enc b)))=true:=by exact rfl)(hv:(enc a++enc b).any hvD=false:=by exact rfl):cA P n ⟨some d,.binOp .neq t x y u,ty,pos,af,gd⟩ S K:=by
 simp only[Bool.and_eq_true] at hl;rw[List.any_append,Bool.or_eq_false_iff] at hv;refine dL (us:=[]) k λS' hA ρ=>?_;have h1:=evS (ρ:=ρ) hA (by simp[Op.operands]) hx;have h2:=evS (ρ:=ρ) hA (by simp[Op.operands]) hy;have e1:ρ.av (.agg (enc a))=.agg (enc a):=by show AV.agg _=_;rw[aBo ρ hv.1]
 have e2:ρ.av (.agg (enc b))=.agg (enc b):=by show AV.agg _=_;rw[aBo ρ hv.2]
 exact bFm (Nat.le_of_ble_eq_true hl.1) (h1.trans e1) (h2.trans e2) hl.2.1 hl.2.2 hg he
theorem cFs[Mode]{p q:Int}(k:K (.p (.i (bAu p q))))(hx:S.ev x=.i p:=by exact rfl)(hy:S.ev y=.i q:=by exact rfl)(hl:Nat.ble (d+1) n=true:=by exact rfl):cA P n ⟨some d,.binOp .xor t x y u,ty,pos,af,gd⟩ S K:=
 dL (us:=[]) k λ_ hA _=>bUk (Nat.le_of_ble_eq_true hl) (evS hA (by simp[Op.operands]) hx) (evS hA (by simp[Op.operands]) hy) (.inr (.inr ⟨rfl,rfl⟩))
theorem bWz[Mode]{k0:IntKind}{p q:Int}{ts:Array TypeId}(k:K (.p (.d (.lit (.int k0 (max p q))))))(hx:S.ev x=.d (.lit (.int k0 p)):=by exact rfl)(hy:S.ev y=.d (.lit (.int k0 q)):=by exact rfl)(hl:Nat.ble (d+1) n=true:=by exact rfl):
  cA P n ⟨some d,.call {callee:=.builtin .max,args:= #[x,y],argTypes:=ts},ty,pos,af,gd⟩ S K:=
 dL (us:=[]) k λ_ hA _=>cGc (Nat.le_of_ble_eq_true hl) (evS hA (by simp[Op.operands,Call.operands]) hx) (evS hA (by simp[Op.operands,Call.operands]) hy)
theorem cGx[Mode]{k0:IntKind}{p q:Int}{ts:Array TypeId}(k:K (.p (.d (.lit (.int k0 (min p q))))))(hx:S.ev x=.d (.lit (.int k0 p)):=by exact rfl)(hy:S.ev y=.d (.lit (.int k0 q)):=by exact rfl)(hl:Nat.ble (d+1) n=true:=by exact rfl):
  cA P n ⟨some d,.call {callee:=.builtin .min,args:= #[x,y],argTypes:=ts},ty,pos,af,gd⟩ S K:=
 dL (us:=[]) k λ_ hA _=>bZu (Nat.le_of_ble_eq_true hl) (evS hA (by simp[Op.operands,Call.operands]) hx) (evS hA (by simp[Op.operands,Call.operands]) hy)
end
end Go.Am
end
section
section
namespace Go.Am
section
variable{P:Program}{n d:Nat}{st:St}{o:Oper}
end
section
variable{P:Program}{n d:Nat}{st:St}{o:Oper}
end
end Go.Am
end
section
namespace Go.Am
def aGc(n:Int):List D:=[.lit (.int .u8 n)]
def aTb(a b:Str):Option Str:=if a.length+b.length<=9223372036854775807 then some (a++b) else none
theorem bUu{a b c:Str}(h:aTb a b=some c):a.length+b.length<=9223372036854775807/\c=a++b:=by
 unfold aTb at h;split at h
 ·rename_i hc;cases h;exact⟨hc,rfl⟩
 ·cases h
def sat(s:Str)(i:Int):Option Int:=if 0<=i then(s[i.toNat]?).map λb=>(b.toNat:Int) else none
theorem bXt{s:Str}{i r:Int}(h:sat s i=some r):0<=i/\∃b,s[i.toNat]?=some b/\r=b.toNat:=by
 unfold sat at h;split at h
 ·rename_i hc
  cases hb:s[i.toNat]? with
  |none=>rw[hb] at h;cases h
  |some b=>rw[hb] at h;cases h;exact⟨hc,b,rfl,rfl⟩
 ·cases h
theorem bRt(a b:Str):(⟨a.toArray⟩:ByteArray)++⟨b.toArray⟩=⟨(a++b).toArray⟩:=by
 apply ByteArray.ext;rw[ByteArray.data_append]
 simp
theorem pT(a:Str):(⟨a.toArray⟩:ByteArray).size=a.length:=rfl
theorem bDb(a:Str):(⟨a.toArray⟩:ByteArray).toList=a:=by
 rw[ByteArray.toList_eq]
theorem aNd(a:Str)(l h:Nat):(⟨a.toArray⟩:ByteArray).extract l h=⟨((a.take h).drop l).toArray⟩:=by
 apply ByteArray.ext;rw[ByteArray.data_extract]
 simp[List.extract_eq_take_drop,List.drop_take]
section
variable{P:Program}{n d:Nat}{st:St}{x y:Operand}{t u ty:TypeId}{pos:String}{af:Array Edge}{gd:Option (Nat×Bool)}{a b c:Str}
theorem cEk[Mode](hd:d<n)(hx:st.eval x=.d (.lit (sv a)))(hy:st.eval y=.d (.lit (sv b)))(h:aTb a b=some c):
  aM P n ⟨some d,.binOp .add t x y u,ty,pos,af,gd⟩ st (st.set d (.d (.lit (sv c)))):=
 gP rfl hd rfl λA M w0 ac w hR=>by
  obtain⟨h1,rfl⟩:=bUu h;have h2:¬(((⟨a.toArray⟩:ByteArray).size+(⟨b.toArray⟩:ByteArray).size:Nat):Int)>IntKind.i64.max:=by
   rw[pT,pT];simp[IntKind.max,IntKind.bits,IntKind.signed];omega
  simp only[execOp,hR.lit hx,hR.lit hy,sv,eqGuard,binOp,Op.stringOp,h2,if_false,bRt]
  rfl
theorem cGg[Mode](hd:d<n)(hx:st.eval x=.d (.lit (sv a)))(hy:st.eval y=.d (.lit (sv b))):
  aM P n ⟨some d,.binOp .eql t x y u,ty,pos,af,gd⟩ st (st.set d (.b (decide (a=b)))):=
 gP rfl hd rfl λA M w0 ac w hR=>by
  simp only[execOp,hR.lit hx,hR.lit hy,sv,eqGuard,binOp,Op.stringOp,bDb]
  by_cases h:a=b<;>simp[h]
theorem cGi[Mode](hd:d<n)(hx:st.eval x=.d (.lit (sv a)))(hy:st.eval y=.d (.lit (sv b))):
  aM P n ⟨some d,.binOp .neq t x y u,ty,pos,af,gd⟩ st (st.set d (.b (!decide (a=b)))):=
 gP rfl hd rfl λA M w0 ac w hR=>by
  simp only[execOp,hR.lit hx,hR.lit hy,sv,eqGuard,binOp,Op.stringOp,bDb]
  by_cases h:a=b<;>simp[h]
theorem cEm[Mode](hd:d<n)(hx:st.eval x=.d (.lit (sv a)))(ht:P.underlying t=some .string):
  aM P n ⟨some d,.call {callee:=.builtin .len,args:= #[x],argTypes:= #[t]},ty,pos,af,gd⟩ st (st.set d (.i a.length)):=
 gP rfl hd rfl λA M w0 ac w hR=>by
  simp[execOp,resolve,hR.lit hx,sv,invoke,builtin,Builtin.len_,goInt,run_underlying ht,pT]
theorem cEl[Mode]{k:IntKind}{i r:Int}(hd:d<n)(hx:st.eval x=.d (.lit (sv a)))(hy:st.eval y=.d (.lit (.int k i)))(ht:P.underlying t=some .string)(h:sat a i=some r):
  aM P n ⟨some d,.index t x y,ty,pos,af,gd⟩ st (st.set d (.d (.lit (.int .u8 r)))):=
 gP rfl hd rfl λA M w0 ac w hR=>by
  obtain⟨h0,b,hb,rfl⟩:=bXt h;have hg:(⟨a.toArray⟩:ByteArray)[i.toNat]?=some b:=by
   obtain⟨hlt,rfl⟩:=List.getElem?_eq_some_iff.1 hb;rw[getElem?_pos (⟨a.toArray⟩:ByteArray) i.toNat (by rw[pT];exact hlt)]
   rfl
  simp[execOp,hR.lit hx,hR.lit hy,sv,Instr.index,asIntOf,run_underlying ht,h0,hg]
theorem cEn[Mode]{lo hi:Option Operand}{p q:Int}(hd:d<n)(ht:P.underlying t=some .string)(hx:st.eval x=.d (.lit (sv a)))(hlo:nP st lo 0=some p)(hhi:nP st hi a.length=some q)(hs:sub a p q=some c):
  aM P n ⟨some d,.slice t x lo hi none,ty,pos,af,gd⟩ st (st.set d (.d (.lit (sv c)))):=
 gP rfl hd rfl λA M w0 ac w hR=>by
  obtain⟨h1,h2,h3,rfl⟩:=aWw hs;have b1:lo=none/\p=0\/∃y kd,lo=some y/\ac.eval y=.int kd p:=by
   cases lo with
   |none=>left;simp only[nP,Option.some.injEq] at hlo;exact⟨rfl,hlo.symm⟩
   | some y=>
    right
    simp only[nP] at hlo;split at hlo
    ·rename_i kd p' he;cases hlo;exact⟨y,kd,rfl,hR.lit he⟩
    ·cases hlo
  have b2:hi=none/\q=a.length\/∃y kd,hi=some y/\ac.eval y=.int kd q:=by
   cases hi with
   |none=>left;simp only[nP,Option.some.injEq] at hhi;exact⟨rfl,hhi.symm⟩
   | some y=>
    right
    simp only[nP] at hhi;split at hhi
    ·rename_i kd p' he;cases hhi;exact⟨y,kd,rfl,hR.lit he⟩
    ·cases hhi
  have e1:(Instr.sliceBounds false a.length a.length (lo.map ac.eval) (hi.map ac.eval) none).run P w=.ok (p.toNat,q.toNat,a.length) w:=by
   rcases b1 with⟨rfl,rfl⟩|⟨y,kd,rfl,hy⟩<;>rcases b2 with⟨rfl,rfl⟩|⟨y',kd',rfl,hy'⟩
   ·simp[Instr.sliceBounds]
   ·simp[Instr.sliceBounds,Instr.sliceBound,asIntOf,hy',show 0<=q by omega,show q<=(a.length:Int) by omega]
   ·simp[Instr.sliceBounds,Instr.sliceBound,asIntOf,hy,h1,show p<=(a.length:Int) by omega]
   ·simp[Instr.sliceBounds,Instr.sliceBound,asIntOf,hy',hy,h1,show 0<=q by omega,show q<=(a.length:Int) by omega]
    intro h0
    omega
  simp[execOp,Instr.sliceAt,Instr.slice,run_underlying ht,hR.lit hx,sv,pT,e1,aNd]
end
section
variable{P:Program}{n d:Nat}{S:VS}{ty:TypeId}{pos:String}{af:Array Edge}{gd:Option (Nat×Bool)}{K:Eff->Prop}{x y:Operand}{t u:TypeId}{γ:Type}{r:γ}{a b:Str}
theorem bPs[Mode]{g:Str->Option γ}(h:(aTb a b).bind g=some r)(k:∀z,g z=some r->K (.p (.d (.lit (sv z)))))(hx:S.ev x=.d (.lit (sv a)):=by exact rfl)(hy:S.ev y=.d (.lit (sv b)):=by exact rfl)(hl:Nat.ble (d+1) n=true:=by exact rfl):
  cA P n ⟨some d,.binOp .add t x y u,ty,pos,af,gd⟩ S K:=by
 obtain⟨z,hz,h⟩:=bind_some h;exact dL (us:=[]) (k z h) λ_ hA _=>cEk (Nat.le_of_ble_eq_true hl) (evS hA (by simp[Op.operands]) hx) (evS hA (by simp[Op.operands]) hy) hz
theorem cFz[Mode]{kk:IntKind}{i:Int}{g:Int->Option γ}(ht:P.underlying t=some .string)(h:(sat a i).bind g=some r)(k:∀z,g z=some r->K (.p (.d (.lit (.int .u8 z)))))(hx:S.ev x=.d (.lit (sv a)):=by exact rfl)(hy:S.ev y=.d (.lit (.int kk i)):=by exact rfl)(hl:Nat.ble (d+1) n=true:=by exact rfl):
  cA P n ⟨some d,.index t x y,ty,pos,af,gd⟩ S K:=by
 obtain⟨z,hz,h⟩:=bind_some h;exact dL (us:=[]) (k z h) λ_ hA _=>cEl (Nat.le_of_ble_eq_true hl) (evS hA (by simp[Op.operands]) hx) (evS hA (by simp[Op.operands]) hy) ht hz
theorem cEa[Mode](k:K (.p (.b (decide (a=b)))))(hx:S.ev x=.d (.lit (sv a)):=by exact rfl)(hy:S.ev y=.d (.lit (sv b)):=by exact rfl)(hl:Nat.ble (d+1) n=true:=by exact rfl):
  cA P n ⟨some d,.binOp .eql t x y u,ty,pos,af,gd⟩ S K:=
 dL (us:=[]) k λ_ hA _=>cGg (Nat.le_of_ble_eq_true hl) (evS hA (by simp[Op.operands]) hx) (evS hA (by simp[Op.operands]) hy)
theorem cEb[Mode](k:K (.p (.b (!decide (a=b)))))(hx:S.ev x=.d (.lit (sv a)):=by exact rfl)(hy:S.ev y=.d (.lit (sv b)):=by exact rfl)(hl:Nat.ble (d+1) n=true:=by exact rfl):
  cA P n ⟨some d,.binOp .neq t x y u,ty,pos,af,gd⟩ S K:=
 dL (us:=[]) k λ_ hA _=>cGi (Nat.le_of_ble_eq_true hl) (evS hA (by simp[Op.operands]) hx) (evS hA (by simp[Op.operands]) hy)
theorem bZq[Mode](ht:P.underlying t=some .string)(k:K (.p (.i a.length)))(hx:S.ev x=.d (.lit (sv a)):=by exact rfl)(hl:Nat.ble (d+1) n=true:=by exact rfl):
  cA P n ⟨some d,.call {callee:=.builtin .len,args:= #[x],argTypes:= #[t]},ty,pos,af,gd⟩ S K:=
 dL (us:=[]) k λ_ hA _=>cEm (Nat.le_of_ble_eq_true hl) (evS hA (by simp[Op.operands,Call.operands]) hx) ht
def bFj(S:VS):Option Operand->Int->Option Int
 |none,z=>some z
 |some x,_=>match S.ev x with| .d (.lit (.int _ p))=>some p|_=>none
theorem bRv{S':VS}{us:List Nat}{op:Op}{lo:Option Operand}{z p:Int}{ρ:Rho}(hA:Agr op S S' us)(hm:∀x,lo=some x->x∈op.operands.toList)(h:bFj S lo z=some p):nP (S'.at ρ) lo z=some p:=by
 cases lo with
 |none=>exact h
 | some x=>
  simp only[bFj] at h;split at h
  ·rename_i kd q hq
   cases h;have:=evS (ρ:=ρ) hA (hm x rfl) hq;simp only[nP,this]
   rfl
  ·cases h
theorem bZr[Mode]{lo hi:Option Operand}{p q:Int}{g:Str->Option γ}(ht:P.underlying t=some .string)(h:(sub a p q).bind g=some r)(k:∀z,g z=some r->K (.p (.d (.lit (sv z)))))(hx:S.ev x=.d (.lit (sv a)):=by exact rfl)
  (hlo:bFj S lo 0=some p:=by exact rfl)(hhi:bFj S hi a.length=some q:=by exact rfl)(hl:Nat.ble (d+1) n=true:=by exact rfl):cA P n ⟨some d,.slice t x lo hi none,ty,pos,af,gd⟩ S K:=by
 obtain⟨z,hz,h⟩:=bind_some h;exact dL (us:=[]) (k z h) λ_ hA _=>cEn (Nat.le_of_ble_eq_true hl) ht (evS hA (by simp[Op.operands]) hx) (bRv hA (λx e=>by subst e;simp[Op.operands]) hlo) (bRv hA (λx e=>by subst e;simp[Op.operands]) hhi) hz
end
end Go.Am
end
end
end
section
namespace Go.Am
def aBj(vs:List Value)(p:Int):Value:=vs.getD p.toNat yV
section
variable{P:Program}{n d:Nat}{st:St}{o:Oper}{f e k j:Nat}{vs:List Value}{v:Value}{α:Type}{g:α->List D}{c c':List (List α)}{row:List α}
theorem aYn[Mode]{A M:aS}{w0:W0}{a:Act}{w:World}(hR:R A M w0 n st a w)(hf:st.objs[f]?=some (.fam e k vs (c.map λr=>r.map g))){q:Int}(hq:idx c q=some row):vs[q.toNat]?=some (aBj vs q):=by
 obtain⟨hl,_⟩:=hR.inv.holds _ (List.mem_of_getElem? hf);obtain⟨h0,h1,h2⟩:=aBm hq;have hlt:q.toNat<vs.length:=by simp at hl;omega
 simp[aBj,List.getD,hlt]
theorem aDr[Mode]{x y:Operand}{t e0 m:Nat}{v0:Value}{kd:IntKind}{p:Int}{ty:TypeId}{pos:String}{af:Array Edge}{gd:Option (Nat×Bool)}(hd:d<n)
  (hx:st.eval x=.d (.lit v0))(ho:st.objs[m]?=some (.arr v0 e0 1 (vs.map λv=>[.lit v])))(hf:st.objs[f]?=some (.fam e k vs (c.map λr=>r.map g)))(hy:st.eval y=.d (.lit (.int kd p)))(ht:kB P t e0 1)(hp:idx c p=some row):
  aM P n ⟨some d,.indexAddr t x y,ty,pos,af,gd⟩ st (st.set d (.ep v0 1 p.toNat 0)):=by
 intro A M w0 a w hR K Q hK;exact bLr hd hx ho hf hy ht hp A M w0 a w hR K Q λs a' w' ⟨_,_,hs⟩ hR'=>hK s a' w' hs hR'
theorem aFt[Mode]{x:Operand}{t e0 m:Nat}{v0:Value}{p:Int}{ty:TypeId}{pos:String}{af:Array Edge}{gd:Option (Nat×Bool)}(hd:d<n)
  (hx:st.eval x=.ep v0 1 p.toNat 0)(ho:st.objs[m]?=some (.arr v0 e0 1 (vs.map λv=>[.lit v])))(hf:st.objs[f]?=some (.fam e k vs (c.map λr=>r.map g)))(hp:idx c p=some row)(ht:fZ P t):
  aM P n ⟨some d,.load t x,ty,pos,af,gd⟩ st (st.set d (.d (.lit (aBj vs p)))):=by
 intro A M w0 a w hR K Q hK;exact bQp hd hx ho (aYn hR hf hp) ht A M w0 a w hR K Q hK
theorem aFs[Mode]{x y:Operand}{t:Nat}{a:α}{kd:IntKind}{q p:Int}{ty:TypeId}{pos:String}{af:Array Edge}{gd:Option (Nat×Bool)}(hd:d<n)
  (hx:st.eval x=.d (.lit (aBj vs q)))(hf:st.objs[f]?=some (.fam e k vs (c.map λr=>r.map g)))(hq:idx c q=some row)(hy:st.eval y=.d (.lit (.int kd p)))(ht:kB P t e k)(hp:idx row p=some a):
  aM P n ⟨some d,.indexAddr t x y,ty,pos,af,gd⟩ st (st.set d (.ep (aBj vs q) k p.toNat 0)):=by
 intro A M w0 a w hR K Q hK;exact bQo hd hx hf (aYn hR hf hq) hq hy ht hp A M w0 a w hR K Q hK
theorem aPg[Mode]{x:Operand}{t:Nat}{a:α}{q p:Int}{j:Nat}{d0:D}{ty:TypeId}{pos:String}{af:Array Edge}{gd:Option (Nat×Bool)}(hd:d<n)
  (hx:st.eval x=.ep (aBj vs q) k p.toNat j)(hf:st.objs[f]?=some (.fam e k vs (c.map λr=>r.map g)))(hq:idx c q=some row)(hp:idx row p=some a)(hj:(g a)[j]?=some d0)(ht:fZ P t):
  aM P n ⟨some d,.load t x,ty,pos,af,gd⟩ st (st.set d (.d d0)):=by
 intro A M w0 a w hR K Q hK;exact bUn hd hx hf (aYn hR hf hq) hq hp hj ht A M w0 a w hR K Q hK
theorem bLs[Mode]{x y:Operand}{t m:Nat}{a a':α}{q p:Int}{j:Nat}{es:List D}{u:AV}{ty:TypeId}{pos:String}{af:Array Edge}{gd:Option (Nat×Bool)}
  (hx:st.eval x=.ep (aBj vs q) k p.toNat j)(hf:st.objs[f]?=some (.fam e k vs (c.map λr=>r.map g)))(hq:idx c q=some row)(hp:idx row p=some a)(hy:st.eval y=u)(hk:cD y=true)(hu:u.cells=some es)(ht:∀w,(sizeOf t).run P w=.ok m w)
  (hm:es.length=m)(hm0:0<m)(hj:j+es.length<=(g a).length)(hpa:fU (g a) j es=g a')(hc:c.set q.toNat (row.set p.toNat a')=c'):
  aM P n ⟨none,.store t x y,ty,pos,af,gd⟩ st ⟨st.env,st.objs.set f (.fam e k vs (c'.map λr=>r.map g))⟩:=by
 intro A M w0 a w hR K Q hK;exact bQs hx hf (aYn hR hf hq) hq hp hy hk hu ht hm hm0 hj hpa hc A M w0 a w hR K Q hK
end
theorem aUs[Mode]{env:Nat->AV}{objs:List MO}{i e k bytes:Nat}{vs:List Value}{v:Value}{α:Type}{g:α->List D}{c c':List (List α)}{row:List α}(keepers final:List MO)
  (ho:objs=keepers++[.arr v e k (row.map g)])(hi:keepers[i]?=some (.fam e k vs (c.map λr=>r.map g)))(hb:app bytes c [row]=some c')(hfi:keepers.set i (.fam e k (vs++[v]) (c'.map λr=>r.map g))=final):
  Ent ⟨env,objs⟩ ⟨env,final⟩:=by
 subst ho;subst hfi;have hc:c'=c++[row]:=by
  unfold app at hb;split at hb
  ·exact(Option.some.inj hb).symm
  ·cases hb
 subst hc;have:=bVu (env:=env) (v:=v) (rows:=row.map g) hi
 simpa using this
theorem bSf{α:Type}{fs:List MO}(i j:Nat){v0:Value}{e0 e k:Nat}{vs:List Value}{g:α->List D}{c:List (List α)}(ho:fs[i]?=some (.arr v0 e0 1 (vs.map λv=>[.lit v])))(hf:fs[j]?=some (.fam e k vs (c.map λr=>r.map g))){h:List α->List D}(hh:∀r,h r=[.sl k (r.map g)]):
  DV fs (.lit v0) (.sl 1 (c.map h)):=by
 have e1:c.map h=(c.map λr=>r.map g).map λrows=>[.sl k rows]:=by
  rw[List.map_map];exact List.map_congr_left λr _=>hh r
 rw[e1];exact .nest v0 e0 e k vs _ (List.mem_of_getElem? ho) (List.mem_of_getElem? hf)
end Go.Am
end
end
section
section
namespace Go.Am
def yv(l:Nat):Value:=.func (.yield l) #[] #[]
def aLn[Mode](P:Program)(l:Nat)(args:List AV)(m:MO)(Q:MO->Prop):Prop:=
 ∀ (A:aS) (w:World) (vs:List Value),Inv w A [m]->(∀b o,A b o->b<w.heap.size)->VRs w (aT A [m]) args vs->
  YieldAt Fence.wide 0 P l vs.toArray w λe w'=>e=.returned (.bool true)/\∃m',Keeps (fJ [m]) w w'/\Inv w' A [m']/\(∀b o,m'.foot b o->fJ [m] b o\/w.heap.size<=b)/\Q m'
section
variable{P:Program}{n d:Nat}{st:St}
theorem bNj[Mode]{t l':Nat}{l:List Operand}{args:List AV}{m:MO}{rest:List MO}{Qm:MO->Prop}{ts:Array TypeId}{ty:TypeId}{pos:String}{af:Array Edge}{gd:Option (Nat×Bool)}(hd:d<n)
  (ho:st.objs=m::rest)(ht:st.env t=.d (.lit (yv l')))(ha:st.evals l=args)(hok:iN l=true)(hy:aLn P l' args m Qm):
  bOg P n ⟨some d,.call {callee:=.value (.tmp t),args:=l.toArray,argTypes:=ts},ty,pos,af,gd⟩ st (λs=>∃m',Qm m'/\s=⟨upd st.env d (.d (.lit (.bool true))),m'::rest⟩):=by
 subst ha;intro A M w0 a w hR K Q hK;have hvs:=aCc hR hok;have hv:a.eval (.tmp t)=yv l':=by
  have:=hR.env t;rw[ht] at this;exact this.lit
 have hs0:=hR.keeps.size;have hsep:=hR.inv.sep;rw[ho] at hsep;have hsp:=List.pairwise_cons.1 hsep;have hmm:m∈st.objs:=by rw[ho];simp
 have hrr:∀x∈rest,x∈st.objs:=λx hx=>by rw[ho];simp[hx]
 have hlive:∀b o,aT A st.objs b o↔aT (aT A rest) [m] b o:=by
  intro b o;rw[ho,show m::rest=[m]++rest from rfl];exact rB b o
 have hlt:∀b o,aT A rest b o->b<w.heap.size:=by
  rintro b o (h|⟨x,hx,hf⟩)
  ·exact Nat.lt_of_lt_of_le (hR.old b o h) hs0
  ·exact nE (hR.inv.holds x (hrr x hx)) hf
 have hmo:Mono w (aT A st.objs) w (aT (aT A rest) [m]):=Mono.sub λb o h=>(hlive b o).2 h;have hinv0:Inv w (aT A rest) [m]:=by
  refine⟨by simp[Sep],λx hx b o hf hX=>?_,λx hx=>?_,hR.inv.amb.on hmo⟩
  ·simp at hx;subst hx
   rcases hX with hX|⟨m',hm',hf'⟩
   ·exact hR.inv.apart x hmm b o hf hX
   ·exact hsp.1 m' hm' b o hf hf'
  ·simp at hx;subst hx
   exact bW (hR.inv.holds x hmm) (Keeps.refl (λ_ _=>False) w) (λ_ _ _ h=>h) hmo
 obtain⟨fn,tmps,assign,body,hrun,hround⟩:=hy (aT A rest) w _ hinv0 hlt (hvs.mono hmo);refine⟨λ_ _=>trivial,?_⟩;rw[Oper.semAt_eq _ _ _ (by simp)];have he:(execOp a.eval ⟨some d,.call {callee:=.value (.tmp t),args:=l.toArray,argTypes:=ts},ty,pos,af,gd⟩).run P w=.ok (.round l' fn tmps assign body) w:=by
  simp[execOp,resolve,hv,yv,Deferred.ofValue,invoke]
  simpa using hrun
 rw [he,Oper.uponIn_round];refine⟨λh=>(by cases h),?_⟩;refine RoundIn.mono (F:=Fence.wide) hround ?_;rintro e w' ⟨rfl,m',hk,hinv,hnew,hq⟩;refine hK _ _ _ ⟨m',hq,rfl⟩ ?_;have hback:Mono w' (aT (aT A rest) [m']) w' (aT A (m'::rest)):=Mono.sub λb o h=>(rB (l:=[m']) (l':=rest) b o).1 h;have hR2:R A M w0 n ⟨st.env,m'::rest⟩ a w':=by
  refine hR.change hk (λb o ⟨x,hx,hf⟩=>⟨x,by simp at hx;subst hx;exact hmm,hf⟩) (λb o hb hx=>?_) ?_ λhm x hxx=>?_
  ·obtain⟨x,hx,hf⟩:=hx
   rcases List.mem_cons.1 hx with rfl|hx
   ·rcases hnew b o hf with⟨x',hx',hf'⟩|h
    ·simp at hx';subst hx';exact⟨_,hmm,hf'⟩
    ·omega
   ·exact⟨x,hrr x hx,hf⟩
  ·refine List.pairwise_cons.2 ⟨λy hy b o h1 h2=>?_,hsp.2⟩;exact hinv.apart m' (by simp) b o h1 (.inr ⟨y,hy,h2⟩)
  ·rcases List.mem_cons.1 hxx with rfl|h
   ·exact bW (hinv.holds _ (by simp)) (Keeps.refl (λ_ _=>False) w') (λ_ _ _ h=>h) hback
   ·exact bW (hR.inv.holds x (hrr x h)) hk (λb o hf ⟨m',hm',hf'⟩=>by
     simp at hm';subst hm'
     exact hsp.1 x h b o hf' hf) hm
 exact R.put (o:=⟨some d,.call {callee:=.value (.tmp t),args:=l.toArray,argTypes:=ts},ty,pos,af,gd⟩) hR2 rfl hd (.d (.lit _ rfl))
theorem bUr[Mode]{f:FuncId}{first:List Operand}{cs:List AV}{ty:TypeId}{pos:String}{af:Array Edge}{gd:Option (Nat×Bool)}(hd:d<n)(hc:st.evals first=cs)(hok:iN first=true):
  aM P n ⟨some d,.makeFunc (.func f) first.toArray #[],ty,pos,af,gd⟩ st (st.set d (.mf f cs)):=
 bZ rfl hd λA M w0 a w hR=>by
  have h:=aCc hR hok;rw[hc] at h;refine⟨.func (.func f) (first.map a.eval).toArray #[],by simp[execOp,Instr.makeFunc],.mf h.length λi _=>h.getD i⟩
end
def Fst(objs:List MO)(l dd:Nat):aS:=λb o=>fJ objs b o\/b=l\/b=dd
def Hst[Mode](env:Nat->AV)(tmps:Array Value)(objs:List MO)(l dd:Nat)(rec:Loop)(w:World)(X:aS):Prop:=
 (Sep objs/\∀b o,fJ objs b o->b≠l/\b≠dd)/\(∀k,VR w X (env k) (tmps.getD k undef))/\(∀m∈objs,m.holds w X)/\w.heap[l]?=some (.loop rec)/\w.heap[dd]?=some (.deferred (some []))
def Est[Mode](env:Nat->AV)(tmps:Array Value)(objs:List MO)(l dd:Nat)(rec:Loop):MO:=.ext (Fst objs l dd) (Hst env tmps objs l dd rec)
theorem bDl[Mode]{env:Nat->AV}{tmps:Array Value}{objs:List MO}{l dd:Nat}{rec:Loop}{w:World}{X:aS}(h:Hst env tmps objs l dd rec w X):(Est env tmps objs l dd rec).holds w X:=by
 obtain⟨h0,h1,h2,h3,h4⟩:=h;have hl:=(Array.getElem?_eq_some_iff.1 h3).1;have hd:=(Array.getElem?_eq_some_iff.1 h4).1;refine⟨λb o hf=>?_,λw' X' hm hk=>⟨h0,λk=>(h1 k).mono hm,λm hmm=>bW (h2 m hmm) hk (λb o hf hn=>hn (.inl ⟨m,hmm,hf⟩)) hm,?_,?_⟩⟩
 ·rcases hf with⟨m,hm,hf⟩|rfl|rfl
  ·exact nE (h2 m hm) hf
  ·exact hl
  ·exact hd
 ·exact(hk.block l hl λo hn=>hn (.inr (.inl rfl))).trans h3
 ·exact(hk.block dd hd λo hn=>hn (.inr (.inr rfl))).trans h4
theorem bMo[Mode]{env:Nat->AV}{tmps:Array Value}{objs:List MO}{l dd:Nat}{rec:Loop}{w:World}{X:aS}(h:(Est env tmps objs l dd rec).holds w X):Hst env tmps objs l dd rec w X:=
 h.2 w X (Mono.refl w X) (Keeps.refl _ w)
theorem aIx[Mode]{w:World}{r:Nat}{o:Obj}{Z:aS}(hz:∀o,Z r o):Keeps Z w (w.putObj r o):=by
 refine⟨rfl,rfl,rfl,by simp[World.putObj],λb hb h=>World.putObj_heap_other λe=>h 0 (e▸hz 0),λb y hb h=>?_,λb y hb h=>?_,λ_=>Nat.le_refl _⟩
 ·have:(w.putObj r o).heap[b]?=w.heap[b]?:=World.putObj_heap_other λe=>h (e▸hz y);simp only[World.cell?,this]
 ·have:(w.putObj r o).heap[b]?=w.heap[b]?:=World.putObj_heap_other λe=>h (e▸hz y);simp only[World.frozen?,this]
theorem aLd{w:World}{r:Nat}{o o':Obj}{X:aS}(h:w.heap[r]?=some o')(h1:∀(c:Array Value) (e:TypeId) (z:Nat×Nat),o'≠.cells c e z)(h2:∀ms c,o'≠.map ms c):Mono w X (w.putObj r o) X:=by
 refine⟨λb y v hc hx=>⟨?_,hx⟩,λb ms c hc hx=>⟨?_,hx⟩,λb c e z hc hx=>⟨?_,hx⟩⟩
 ·by_cases hb:b=r
  ·subst hb;simp only[World.cell?,h] at hc;split at hc
   ·rename_i c e z hh;exact absurd (Option.some.inj hh) (h1 c e z)
   ·cases hc
  ·have:(w.putObj r o).heap[b]?=w.heap[b]?:=World.putObj_heap_other hb;simp only[World.cell?,this] at hc|-;exact hc
 ·by_cases hb:b=r
  ·subst hb;rw[h] at hc;exact absurd (Option.some.inj hc) (h2 ms c)
  ·rw[World.putObj_heap_other hb];exact hc
 ·by_cases hb:b=r
  ·subst hb;rw[h] at hc;exact absurd (Option.some.inj hc) (h1 c e z)
  ·rw[World.putObj_heap_other hb];exact hc
def aTn(e:Nat->AV):List Nat->List AV->Nat->AV
 |p::ps,x::xs=>aTn (upd e p x) ps xs
 |_,_=>e
theorem bKe{w:World}{X:aS}{n:Nat}:∀(ps:List Nat) (xs:List AV) (vs:List Value) (e:Nat->AV) (tmps:Array Value),tmps.size=n->(∀p∈ps,p<n)->VRs w X xs vs->(∀k,VR w X (e k) (tmps.getD k undef))->
  (∀k,VR w X (aTn e ps xs k) ((((ps.zip vs).foldl (λt (p,v)=>t.setIfInBounds p v) tmps)).getD k undef))/\((ps.zip vs).foldl (λt (p,v)=>t.setIfInBounds p v) tmps).size=n
 |[],_,_,e,tmps,hs,_,_,he=>⟨by simpa[aTn] using he,by simpa using hs⟩
 |p::ps,[],[],e,tmps,hs,_,_,he=>⟨by simpa[aTn] using he,by simpa using hs⟩
 | p::ps,x::xs,v::vs,e,tmps,hs,hp,hv,he=>by
  have:=bKe ps xs vs (upd e p x) (tmps.setIfInBounds p v) (by simpa using hs) (λq hq=>hp q (by simp[hq])) hv.2 (bMm hs (hp p (by simp)) he hv.1)
  simpa[aTn] using this
 |_::_,[],_::_,_,_,_,_,hv,_=>hv.elim
 |_::_,_::_,[],_,_,_,_,hv,_=>hv.elim
abbrev rfv(cl:Bool)(f:FuncId)(bound:List AV):AV:=bif cl then .fn f bound else .mf f bound
abbrev rfa(cl:Bool)(bound:List AV)(y:AV):List AV:=bif cl then y::bound else bound++[y]
section
variable{P:Program}{n:Nat}{st:St}{Q:Exit->St->Prop}{N:St->Prop}
theorem bKd[Mode]{S S0:Type}{cl:Bool}{t:Nat}{f:FuncId}{bound:List AV}{ps:List Nat}{assign body:Code}{env:Nat->AV}(π:S->S0)(objs:S->List MO)(Y:S0->List AV->S0->Prop)(s0:S)(x0 x1:S0)
  (he:Ent st ⟨env,objs s0⟩)(hg:env t=rfv cl f bound)(hcf:∀args w,(callFunc f args).run P w=.ok (.enter f args) w)(h0:π s0=x0)
  (hps:∀p∈ps,p<n)(hna:aEs assign=true)(hnb:aEs body=true)
  (hI:∀(l:Nat) (J:S0->MO->Prop),(∀x m args x',J x m->Y x args x'->aLn P l args m (J x'))->∀m0,J x0 m0->bC P f (rfa cl bound (.d (.lit (yv l)))) [m0] (λ_ o=>∃m',J x1 m'/\o=[m']))
  (hbody:∀s args x',Y (π s) args x'->args.length=ps.length/\Tr P n assign ⟨aTn env ps args,objs s⟩ (λe s1=>e=.normal/\Tr P n body s1 (λe s2=>e=.normal/\∃s',π s'=x'/\s2.objs=objs s')))
  (hN:∀s,π s=x1->N ⟨env,objs s⟩):Tr P n (.rangeFunc (.tmp t) ps.toArray assign body) st (nO N Q):=by
 intro A M w0 a w hR hn;have hro:w0.ro=none:=hn.resolve_right (by simp[aEs])
 replace hR:=he A M w0 n a w hR
 rw[hro];have hbv:VR w (aT A (objs s0)) (rfv cl f bound) (a.tmps.getD t undef):=by
  have:=hR.env t;exact hg▸this
 obtain⟨us,hbd,hev⟩:∃us:List Value,VRs w (aT A (objs s0)) bound us/\a.eval (.tmp t)=bif cl then .func (.func f) #[] us.toArray else .func (.func f) us.toArray #[]:=by
  generalize hu:a.tmps.getD t undef=u at hbv
  cases cl with
  |true=>cases hbv with|fn hl hb=>exact⟨_,aDy hl hb,hu⟩
  |false=>cases hbv with|mf hl hb=>exact⟨_,aDy hl hb,hu⟩
 refine wpIn_rangeFunc λfn _=>?_;obtain⟨rec,hrec⟩:∃rec:LoopState->Option Code->Loop,rec=λst pe=>{state:=st,pending:=pe,fn,tmps:=a.tmps,params:=ps.toArray,assign,body,defers:=w.heap.size}:=⟨_,rfl⟩;obtain⟨W1,hW1⟩:∃W1,(w.alloc (.deferred (some []))).alloc (.loop (rec .ready none))=W1:=⟨_,rfl⟩;have hL1:W1.heap[w.heap.size+1]?=some (.loop (rec .ready none)):=by
  rw[<-hW1];have:=World.alloc_heap_new (w.alloc (.deferred (some []))) (.loop (rec .ready none));rwa[World.size_alloc] at this
 have hD1:W1.heap[w.heap.size]?=some (.deferred (some [])):=by
  rw[<-hW1];have h1:=World.alloc_heap_new w (.deferred (some []));rw[<-h1];exact Go.heap_alloc_old _ _ (by simp)
 have hk1:Keeps (λ_ _=>False) w W1:=by rw[<-hW1];exact(Keeps.alloc _ w _).trans (Keeps.alloc _ _ _)
 have hs1:W1.heap.size=w.heap.size+2:=by rw[<-hW1];simp
 let l:=w.heap.size+1
 let dd:=w.heap.size
 let E:S->MO:=λs=>Est env a.tmps (objs s) l dd (rec .ready none)
 have hm1:Mono w (aT A (objs s0)) W1 (aT A [E s0]):=by
  refine lO (objs:=objs s0) (objs':=[E s0]) hk1 (λ_ _ h=>h.elim) λb o hb hx=>?_
  rcases hx with hx|⟨m,hm,hf⟩
  ·exact .inl hx
  ·simp at hm;subst hm
   rcases hf with hf|rfl|rfl
   ·exact .inr hf
   ·show aT A (objs s0) _ o;simp only[l] at hb;omega
   ·show aT A (objs s0) _ o;simp only[dd] at hb;omega
 have hinv1:Inv W1 A [E s0]:=by
  refine⟨by simp[Sep],λm hm b o hf hA=>?_,λm hm=>?_,hR.inv.amb.on hm1⟩
  ·simp at hm;subst hm
   have hlt:=Nat.lt_of_lt_of_le (hR.old b o hA) hR.keeps.size
   rcases hf with⟨m,hm,hf⟩|rfl|rfl
   ·exact hR.inv.apart m hm b o hf hA
   ·simp only[l] at hlt;omega
   ·simp only[dd] at hlt;omega
  ·simp at hm;subst hm
   exact bDl ⟨⟨hR.inv.sep,λb o ⟨m,hm,hf⟩=>by
    have:=nE (hR.inv.holds m hm) hf;simp only[l,dd]
    omega⟩,λk=>(hR.env k).mono hm1,λm hm=>bW (hR.inv.holds m hm) hk1 (λ_ _ _ h=>h) hm1,hL1,hD1⟩
 have hA1:∀b o,A b o->b<W1.heap.size:=λb o h=>by
  have:=hR.old b o h;have:=hR.keeps.size
  omega
 let J:S0->MO->Prop:=λx m=>∃s,π s=x/\m=E s
 have hround:∀x m args x',J x m->Y x args x'->aLn P l args m (J x'):=by
  rintro _ _ args x' ⟨s,rfl,rfl⟩ hY A' W vs hinv hA' hvs;obtain⟨hlen,hb⟩:=hbody s args x' hY;obtain⟨⟨es,ef⟩,e1,e2,e3,e4⟩:=bMo (hinv.holds _ (List.mem_singleton.2 rfl));have hyr:=run_yield (P:=P) (args:=vs.toArray) e3 (by rw[hrec];simp[hvs.length,hlen]);rw[hrec] at hyr;have hll:l<W.heap.size:=(Array.getElem?_eq_some_iff.1 e3).1;have hdl:dd<W.heap.size:=(Array.getElem?_eq_some_iff.1 e4).1;have hld:l≠dd:=by simp only[l,dd];omega
  let Ar:aS:=λb o=>A' b o\/b=l\/b=dd
  have hset:∀s b o,aT Ar (objs s) b o↔aT A' [E s] b o:=by
   intro s b o
   constructor
   ·rintro((h|h)|h)
    ·exact .inl h
    ·exact .inr ⟨E s,by simp,.inr h⟩
    ·exact .inr ⟨E s,by simp,.inl h⟩
   ·rintro(h|⟨m,hm,hf⟩)
    ·exact .inl (.inl h)
    ·simp at hm;subst hm
     rcases hf with hf|hf
     ·exact .inr hf
     ·exact .inl (.inr hf)
  have hmX:∀W s,Mono W (aT A' [E s]) W (aT Ar (objs s)):=λW s=>Mono.sub λb o h=>(hset s b o).1 h;have hmX':∀W s,Mono W (aT Ar (objs s)) W (aT A' [E s]):=λW s=>Mono.sub λb o h=>(hset s b o).2 h;have hup:=bKe (X:=aT Ar (objs s)) (n:=n) ps args vs env a.tmps hR.size hps (hvs.mono (hmX W s)) λk=>(e1 k).mono (hmX W s);have hRr:R Ar (fJ (objs s)) ⟨W,[],some l⟩ n ⟨aTn env ps args,objs s⟩ {tmps:=(ps.zip vs).foldl (λt (p,v)=>t.setIfInBounds p v) a.tmps,defers:=[]} W:=by
   refine⟨hup.2,Marks.nil _ ⟨W,[],some l⟩ _,hup.1,⟨es,λm hm b o hf hA=>?_,λm hm=>bW (e2 m hm) (Keeps.refl (λ_ _=>False) W) (λ_ _ _ h=>h) (hmX W s),hinv.amb.on (hmX W s)⟩,Keeps.refl _ _,λm hm b o hf=>.inl ⟨m,hm,hf⟩,λb o hA=>?_⟩
   ·rcases hA with hA|hA|hA
    ·exact hinv.apart (E s) (by simp) b o (.inl ⟨m,hm,hf⟩) hA
    ·exact(ef b o ⟨m,hm,hf⟩).1 hA
    ·exact(ef b o ⟨m,hm,hf⟩).2 hA
   ·rcases hA with hA|rfl|rfl
    ·exact hA' b o hA
    ·exact hll
    ·exact hdl
  have htm:(ps.toArray.zip vs.toArray).foldl (λ(t:Array Value) (p:Nat×Value)=>t.setIfInBounds p.1 p.2) a.tmps=(ps.zip vs).foldl (λt (p,v)=>t.setIfInBounds p v) a.tmps:=by simp
  have hyr':(Instr.yield l vs.toArray).run P W=.ok (.round l fn ((ps.zip vs).foldl (λt (p,v)=>t.setIfInBounds p v) a.tmps) assign body) W:=by
   rw[<-htm];exact hyr
  refine⟨fn,_,assign,body,hyr',roundIn_of_wpIn trivial ?_⟩;refine wpIn_mono (F:=fen (some l)) (hb Ar (fJ (objs s)) ⟨W,[],some l⟩ _ W hRr (.inr hna)) ?_;rintro e a1 w1 ⟨s1,⟨rfl,hb2⟩,hR1⟩;have hl1:w1.heap[l]?=some (.loop (rec .ready none)):=(hR1.keeps.block l hll λo h=>(ef l o h).1 rfl).trans e3;have hd1:w1.heap[dd]?=some (.deferred (some [])):=(hR1.keeps.block dd hdl λo h=>(ef dd o h).2 rfl).trans e4;refine⟨_,run_beginRound hl1 (by rw[hrec]),?_⟩;obtain⟨w2,hw2⟩:∃w2,w1.putObj l (.loop {rec .ready none with state:=.busy})=w2:=⟨_,rfl⟩;rw[hw2];have hl1lt:=(Array.getElem?_eq_some_iff.1 hl1).1;have hk12:Keeps (λb _=>b=l) w1 w2:=by rw[<-hw2];exact aIx λ_=>rfl
  have hm12:∀X,Mono w1 X w2 X:=λX=>by rw[<-hw2];exact aLd hl1 (by simp) (by simp)
  have hl2:w2.heap[l]?=some (.loop {rec .ready none with state:=.busy}):=by rw[<-hw2];exact World.putObj_heap_same hl1lt
  have hd2:w2.heap[dd]?=some (.deferred (some [])):=by rw[<-hw2];exact(World.putObj_heap_other (Ne.symm hld)).trans hd1
  have hR2:R Ar (fJ s1.objs) ⟨w2,a1.defers,some l⟩ n s1 a1 w2:=by
   refine⟨hR1.size,Marks.nil _ ⟨w2,a1.defers,some l⟩ _,λk=>(hR1.env k).mono (hm12 _),⟨hR1.inv.sep,hR1.inv.apart,λm hm=>bW (hR1.inv.holds m hm) hk12 (λb o hf e=>hR1.inv.apart m hm b o hf (.inr (.inl e))) (hm12 _),hR1.inv.amb.on (hm12 _)⟩,Keeps.refl _ _,λm hm b o hf=>.inl ⟨m,hm,hf⟩,λb o hA=>?_⟩;exact Nat.lt_of_lt_of_le (Nat.lt_of_lt_of_le (hR1.old b o hA) hR1.keeps.size) hk12.size
  refine wpIn_mono (F:=fen (some l)) (hb2 Ar (fJ s1.objs) ⟨w2,a1.defers,some l⟩ a1 w2 hR2 (.inr hnb)) ?_;rintro e a3 w3 ⟨s2,⟨rfl,s',hπ,hobj⟩,hR3⟩;have hap1:∀o,¬fJ s1.objs l o/\¬fJ s1.objs dd o:=λo=>⟨λ⟨m,hm,hf⟩=>hR1.inv.apart m hm _ _ hf (.inr (.inl rfl)),λ⟨m,hm,hf⟩=>hR1.inv.apart m hm _ _ hf (.inr (.inr rfl))⟩;have hl3:w3.heap[l]?=some (.loop {rec .ready none with state:=.busy}):=(hR3.keeps.block l (Array.getElem?_eq_some_iff.1 hl2).1 λo h=>(hap1 o).1 h).trans hl2;have hd3:w3.heap[dd]?=some (.deferred (some [])):=(hR3.keeps.block dd (Array.getElem?_eq_some_iff.1 hd2).1 λo h=>(hap1 o).2 h).trans hd2;have hl3lt:=(Array.getElem?_eq_some_iff.1 hl3).1;refine⟨_,_,run_endRound none hl3,rfl,E s',?_⟩;have hrec4:({({rec .ready none with state:=.busy}:Loop) with state:=if(none:Option Code).isNone then .ready else .done,pending:=none}:Loop)=rec .ready none:=by rw[hrec];rfl
  rw[hrec4];obtain⟨w4,hw4⟩:∃w4,w3.putObj l (.loop (rec .ready none))=w4:=⟨_,rfl⟩;rw[hw4];have hk34:Keeps (λb _=>b=l) w3 w4:=by rw[<-hw4];exact aIx λ_=>rfl
  have hm34:∀X,Mono w3 X w4 X:=λX=>by rw[<-hw4];exact aLd hl3 (by simp) (by simp)
  have hl4:w4.heap[l]?=some (.loop (rec .ready none)):=by rw[<-hw4];exact World.putObj_heap_same hl3lt
  have hd4:w4.heap[dd]?=some (.deferred (some [])):=by rw[<-hw4];exact(World.putObj_heap_other (Ne.symm hld)).trans hd3
  have hsz2:W.heap.size<=w2.heap.size:=Nat.le_trans hR1.keeps.size hk12.size;have hkF:Keeps (fJ [E s]) W w4:=by
   have k1:Keeps (fJ [E s]) W w1:=hR1.keeps.mono λb o h=>⟨E s,by simp,.inl h⟩;have k2:Keeps (fJ [E s]) W w2:=k1.trans (hk12.mono λb o h=>⟨E s,by simp,.inr (.inl h)⟩);have k3:Keeps (fJ [E s]) W w3:=k2.weaken hR3.keeps λb o ⟨m,hm,hf⟩=>by
    rcases hR1.own m hm b o hf with h|h
    ·exact .inl ⟨E s,by simp,.inl h⟩
    ·exact .inr h
   exact k3.trans (hk34.mono λb o h=>⟨E s,by simp,.inr (.inl h)⟩)
  have hF':∀b o,Fst (objs s') l dd b o->Fst (objs s) l dd b o\/W.heap.size<=b:=by
   rintro b o (⟨m,hm,hf⟩|h)
   ·rw[<-hobj] at hm
    rcases hR3.own m hm b o hf with⟨m1,hm1,hf1⟩|h
    ·rcases hR1.own m1 hm1 b o hf1 with h|h
     ·exact .inl (.inl h)
     ·exact .inr h
    ·exact .inr (Nat.le_trans hsz2 h)
   ·exact .inl (.inr h)
  have hmW:Mono W (aT A' [E s]) w4 (aT A' [E s']):=lO (objs:=[E s]) (objs':=[E s']) hkF (λb o h=>.inr h) λb o hb hx=>by
   rcases hx with hx|⟨m,hm,hf⟩
   ·exact .inl hx
   ·simp at hm;subst hm
    rcases hF' b o hf with h|h
    ·exact .inr ⟨E s,by simp,h⟩
    ·omega
  have hmR:Mono w3 (aT Ar (objs s')) w4 (aT A' [E s']):=(hm34 _).trans (hmX' w4 s');refine⟨hkF,⟨by simp[Sep],λm hm b o hf hA=>?_,λm hm=>?_,hinv.amb.on hmW⟩,λb o hf=>?_,s',hπ,rfl⟩
  ·simp at hm;subst hm
   rcases hf with⟨m,hm,hf⟩|hf
   ·rw[<-hobj] at hm;exact hR3.inv.apart m hm b o hf (.inl hA)
   ·exact hinv.apart (E s) (by simp) b o (.inr hf) hA
  ·simp at hm;subst hm
   refine bDl ⟨⟨by rw[<-hobj];exact hR3.inv.sep,λb o ⟨m,hm,hf⟩=>?_⟩,λk=>(e1 k).mono hmW,λm hm=>?_,hl4,hd4⟩
   ·rw[<-hobj] at hm;exact⟨λe=>hR3.inv.apart m hm b o hf (.inr (.inl e)),λe=>hR3.inv.apart m hm b o hf (.inr (.inr e))⟩
   ·rw[<-hobj] at hm;have h3:=hR3.inv.holds m hm;rw[hobj] at h3;exact bW h3 hk34 (λb o hf e=>hR3.inv.apart m hm b o hf (.inr (.inl e))) hmR
  ·rcases hF' b o hf with h|h
   ·exact .inl ⟨E s,by simp,h⟩
   ·exact .inr h
 obtain⟨vs,D,hargs,hres,hinvo⟩:∃(vs:List Value) (D:Deferred),VRs W1 (aT A [E s0]) (rfa cl bound (.d (.lit (yv l)))) vs/\(Deferred.ofValue (a.eval (.tmp t)) #[yv l]).run P W1=.ok D W1/\(invoke D.target D.args).run P W1=.ok (.enter f vs.toArray) W1:=by
  rw[hev];cases cl with
  |true=>exact⟨yv l::us,{target:=.fn (.func f) us.toArray,args:= #[yv l]},⟨.d (.lit _ rfl),hbd.mono hm1⟩,by simp[Deferred.ofValue,go_sem],by simp[invoke,go_sem,hcf]⟩
  |false=>exact⟨us++[yv l],{target:=.fn (.func f) #[],args:=us.toArray++ #[yv l]},(hbd.mono hm1).append ⟨.d (.lit _ rfl),trivial⟩,by simp[Deferred.ofValue,go_sem],by simp[invoke,go_sem,hcf]⟩
 have hcall:=hI l J hround (E s0) ⟨s0,h0,rfl⟩ A W1 vs hinv1 hA1 hargs;refine⟨l,[{target:=.collected dd,args:= #[]}],W1,D,W1,f,vs.toArray,W1,?_,?_,λ_ _=>trivial,?_,λh=>(by cases h),?_⟩
 ·rw[<-hW1,hrec];exact run_enterLoop_outer _ _ _ _ _
 ·have e2:resolve a.eval (rangeCall (.tmp t) l) 0=Deferred.ofValue (a.eval (.tmp t)) #[yv l]:=by
   unfold resolve;have e:(#[Operand.const (.func (.yield l) #[] #[])]:Array Operand).map a.eval= #[yv l]:=by simp[yv,Act.eval]
   simp only[rangeCall,e]
  rw[e2];exact hres
 ·exact hinvo
 ·refine CallsIn.mono ((callsIn_wide (n:=0)).2 hcall) ?_;rintro e w3 ⟨v,r,objs',rfl,hk,hinv,hv,hnew,m',⟨s',hπ,rfl⟩,rfl⟩;obtain⟨⟨es,ef⟩,e1,e2,e3,e4⟩:=bMo (hinv.holds _ (List.mem_singleton.2 rfl));have hld:l≠dd:=by simp only[l,dd];omega
  have hend:=run_endLoop (P:=P) e3 (by rw[hrec];simp);have hpe:(rec .ready none).pending=none:=by rw[hrec]
  rw[hpe] at hend;obtain⟨ob,hob⟩:∃ob:Loop,(Instr.endLoop l).run P w3=.ok none (w3.putObj l (.loop ob)):=⟨_,hend⟩;obtain⟨w4,hw4⟩:∃w4,w3.putObj l (.loop ob)=w4:=⟨_,rfl⟩;rw[hw4] at hob;refine⟨none,w4,hob,?_⟩;have hl3lt:=(Array.getElem?_eq_some_iff.1 e3).1;have hk34:Keeps (λb _=>b=l) w3 w4:=by rw[<-hw4];exact aIx λ_=>rfl
  have hm34:∀X,Mono w3 X w4 X:=λX=>by rw[<-hw4];exact aLd e3 (by simp) (by simp)
  have hd4:w4.heap[dd]?=some (.deferred (some [])):=by rw[<-hw4];exact(World.putObj_heap_other (Ne.symm hld)).trans e4
  have hmX:Mono w3 (aT A [E s']) w4 (aT A (objs s')):=(hm34 _).trans (Mono.sub λb o h=>h.imp id λh=>⟨E s',by simp,.inl h⟩);have hs0:=hR.keeps.size;have hF0:∀b o,Fst (objs s0) l dd b o->M b o\/w0.w.heap.size<=b:=by
   rintro b o (⟨m,hm,hf⟩|rfl|rfl)
   ·exact hR.own m hm b o hf
   ·exact .inr (by simp only[l];omega)
   ·exact .inr hs0
  have hF1:∀b o,fJ (objs s') b o->Fst (objs s0) l dd b o\/W1.heap.size<=b:=λb o h=>by
   rcases hnew (E s') (by simp) b o (.inl h) with⟨m,hm,hf⟩|h
   ·simp at hm;subst hm;exact .inl hf
   ·exact .inr h
  refine⟨⟨env,objs s'⟩,hN s' hπ,hR.size,?_,λk=>(e1 k).mono hmX,⟨es,λm hm b o hf hA=>hinv.apart (E s') (by simp) b o (.inl ⟨m,hm,hf⟩) hA,λm hm=>bW (e2 m hm) hk34 (λb o hf e=>(ef b o ⟨m,hm,hf⟩).1 e) hmX,hinv.amb.on hmX⟩,?_,λm hm b o hf=>?_,hR.old⟩
  ·obtain⟨Ds,g1,g2,g3⟩:=hR.defers;refine⟨dd::Ds,by simp[g1],List.nodup_cons.2 ⟨λhm=>?_,g2⟩,λD hD=>?_⟩
   ·have:=(Array.getElem?_eq_some_iff.1 (g3 dd hm).1).1;simp only[dd] at this;omega
   ·rcases List.mem_cons.1 hD with rfl|hD
    ·refine⟨hd4,hs0,λo ho=>?_⟩
     rcases ho with ho|ho
     ·have:=hR.old dd o ho;simp only[dd] at this;omega
     ·exact(ef dd o ho).2 rfl
    ·obtain⟨q1,q2,q3⟩:=g3 D hD;have hlt:=(Array.getElem?_eq_some_iff.1 q1).1;have hDl:D≠l/\D≠dd:=by simp only[l,dd];omega
     have hk1w:W1.heap[D]?=some (.deferred (some [])):=(hk1.block D hlt λ_ h=>h).trans q1;have hk3w:w3.heap[D]?=some (.deferred (some [])):=(hk.block D (Array.getElem?_eq_some_iff.1 hk1w).1 λo ⟨m,hm,hf⟩=>by
      simp at hm;subst hm
      rcases hf with hf|hf|hf
      ·exact q3 o (.inr hf)
      ·exact hDl.1 hf
      ·exact hDl.2 hf).trans hk1w
     have hk4w:w4.heap[D]?=some (.deferred (some [])):=(hk34.block D (Array.getElem?_eq_some_iff.1 hk3w).1 λ_ h=>hDl.1 h).trans hk3w;refine⟨hk4w,q2,λo ho=>?_⟩
     rcases ho with ho|ho
     ·exact q3 o (.inl ho)
     ·rcases hF1 D o ho with(h|h|h)|h
      ·exact q3 o (.inr h)
      ·exact hDl.1 h
      ·exact hDl.2 h
      ·omega
  ·have k1:Keeps M w0.w W1:=hR.keeps.weaken hk1 λ_ _ h=>h.elim;have k3:Keeps M w0.w w3:=k1.weaken hk λb o ⟨m,hm,hf⟩=>by
    simp at hm;subst hm;exact hF0 b o hf
   exact k3.weaken hk34 λb o h=>by subst h;exact .inr (by simp only[l];omega)
  ·rcases hF1 b o ⟨m,hm,hf⟩ with h|h
   ·exact hF0 b o h
   ·exact .inr (by omega)
end
end Go.Am
namespace Go.Am
section
variable{P:Program}{n:Nat}{st:St}{Q:Exit->St->Prop}{N:St->Prop}
theorem bMx:∀e s,nO N (λ_ _=>False) e s->(e=.normal/\N s):=λe s h=>by
 cases e<;>first|exact⟨rfl,h⟩|exact h.elim
theorem bIk{id:Nat}:∀e s,nO N (λ_ _=>False) e s->aCs id N Q e s:=λe s h=>by
 cases e<;>first|exact h|exact h.elim
theorem aRw{e:Nat->AV}:Le e emp:=λ_=>.inl rfl
theorem aWy[Mode]{S S0:Type}{cl:Bool}{t:Nat}{f:FuncId}{bound:List AV}{ps:List Nat}{assign body:Code}{env:Nat->AV}(π:S->S0)(objs:S->List MO)(Y:S0->List AV->S0->Prop)(s0:S)(x0 x1:S0)
  (he:Ent st ⟨env,objs s0⟩)(hg:env t=rfv cl f bound)(hcf:∀args w,(callFunc f args).run P w=.ok (.enter f args) w)(h0:π s0=x0)
  (hps:(ps.all λp=>Nat.blt p n)=true)(hna:aEs assign=true)(hnb:aEs body=true)
  (hI:∀(l:Nat) (J:S0->MO->Prop),(∀x m args x',J x m->Y x args x'->aLn P l args m (J x'))->∀m0,J x0 m0->bC P f (rfa cl bound (.d (.lit (yv l)))) [m0] (λ_ o=>∃m',J x1 m'/\o=[m']))
  (hbody:∀s args x',Y (π s) args x'->args.length=ps.length/\Tr P n assign ⟨aTn env ps args,objs s⟩ (nO (λs1=>Tr P n body s1 (nO (λs2=>∃s',π s'=x'/\Ent s2 ⟨emp,objs s'⟩) (λ_ _=>False))) (λ_ _=>False)))
  (hN:∀s,π s=x1->N ⟨env,objs s⟩):Tr P n (.rangeFunc (.tmp t) ps.toArray assign body) st (nO N (λ_ _=>False)):=by
 refine bKd π objs Y s0 x0 x1 he hg hcf h0 (λp hp=>aC (List.all_eq_true.1 hps p hp)) hna hnb hI (λs args x' hy=>?_) hN;obtain⟨h1,h2⟩:=hbody s args x' hy;refine⟨h1,rL h2 λe s1 h=>?_⟩;obtain⟨he,h3⟩:=bMx e s1 h;refine⟨he,λA M w0 a w hR hn=>wpIn_mono (h3 A M w0 a w hR hn) ?_⟩;rintro e a' w' ⟨s2,hq,hR2⟩;obtain⟨he2,s',hs',hent⟩:=bMx e s2 hq;exact⟨⟨emp,objs s'⟩,⟨he2,s',hs',rfl⟩,hent A M w0 n a' w' hR2⟩
end
end Go.Am
namespace Go.Am
theorem xD[Mode]{P:Program}{f:FuncId}{fn:Func}{c:Code}{args:List AV}{objs:List MO}{Q:AV->List MO->Prop}(hf:P.funcs[f]?=some fn)(hb:fn.body=some c){rs:List ResultVar}(hr:fn.results=rs.toArray){n:Nat}(hn:fn.ntmps=n)(ha:args.length<=n)
  (h:Tr P n c ⟨entry args,objs⟩ (nO (λst=>∃r0 objs' gone r,ResW P st rs r0/\st.objs.Perm (objs'++gone)/\BV gone r0 r/\Q r objs') (λe st=>e=.ret/\∃r0 objs' gone r,ResW P st rs r0/\st.objs.Perm (objs'++gone)/\BV gone r0 r/\Q r objs'))):bC P f args objs Q:=by
 subst hn;have key:∀e st,nO (λst=>∃r0 objs' gone r,ResW P st rs r0/\st.objs.Perm (objs'++gone)/\BV gone r0 r/\Q r objs') (λe st=>e=.ret/\∃r0 objs' gone r,ResW P st rs r0/\st.objs.Perm (objs'++gone)/\BV gone r0 r/\Q r objs') e st->(e=.ret\/e=.normal)/\∃r0 objs' gone r,ResW P st rs r0/\st.objs.Perm (objs'++gone)/\BV gone r0 r/\Q r objs':=by
  intro e st h;cases e<;>first|exact⟨.inr rfl,h⟩|exact⟨.inl h.1,h.2⟩
 intro A w vs hinv hA hvs;refine aKy hf hb ha h hinv hA hvs (λe st hq=>(key e st hq).1) ?_;intro e st a' w' hq hR';obtain⟨_,r0,objs',gone,r,hres,hp,hbv,hq⟩:=key e st hq;obtain⟨v,hrun,hv⟩:=aQf hr hres hR';have hR1:R A (fJ objs) ⟨w,[],none⟩ 1 ⟨upd emp 0 r0,st.objs⟩ {tmps:= #[v],defers:=[]} w':=by
  refine⟨rfl,Marks.nil _ ⟨w,[],none⟩ _,λk=>?_,hR'.inv,hR'.keeps,hR'.own,hR'.old⟩;show VR _ _ (upd emp 0 r0 k) _
  by_cases hk:0=k
  ·subst hk;rw[fK];exact hv
  ·rw[lJ _ _ hk];exact .any _
 have hR2:=pC (env':=upd emp 0 r) hp (λk=>by
  by_cases hk:0=k
  ·subst hk;rw[fK,fK];exact hbv
  ·rw[lJ _ _ hk,lJ _ _ hk];exact .any _) A (fJ objs) ⟨w,[],none⟩ 1 _ w' hR1
 have hv2:VR w' (aT A objs') (upd emp 0 r 0) v:=hR2.env 0;rw[fK] at hv2;exact⟨v,hrun,v,r,objs',rfl,hR2.keeps,hR2.inv,hv2,hR2.own,hq⟩
end Go.Am
namespace Go.Am
abbrev bRh{S A B:Type}(e1:A->AV)(e2:B->AV)(f:S->A->B->Option S):S->List AV->S->Prop:=λx args x'=>∃a b,args=[e1 a,e2 b]/\f x a b=some x'
end Go.Am
end
section
section
section
namespace Go.Am
open Go.Sort
theorem bDo:∀zs:List Int,(zs.map aI).flatten=zs.map λx=>.lit (.int .i64 x)
 |[]=>rfl
 |z::zs=>by simp only[List.map_cons,List.flatten_cons,bDo zs];rfl
theorem bHb{w:World}{X:aS}:∀(zs:List Int),DRs w X ((zs.map aI).flatten) (zs.map (Value.int .i64))
 |[]=>trivial
 |z::zs=>⟨.lit _ rfl,bHb zs⟩
theorem bKz{w:World}{X:aS}{zs:List Int}{xs:List Value}(h:DRs w X ((zs.map aI).flatten) xs):xs=zs.map (Value.int .i64):=by
 have hl:∀zs:List Int,eG ((zs.map aI).flatten)=true:=by
  intro zs
  induction zs with
  |nil=>rfl
  |cons z zs ih=>rw[List.map_cons,List.flatten_cons];exact ih
 rw[aOa (hl zs) h,bDo,List.map_map]
 rfl
theorem bLd[Mode]{w w':World}{v:Value}(h:w.grownBy w' v.ownBlock)(hd:w.drawn<=w'.drawn):Keeps (λb _=>v.ownBlock=some b) w w':=by
 obtain⟨h1,h2,h3,h4,h5⟩:=h;have hb:∀b,b<w.heap.size->v.ownBlock≠some b->w'.heap[b]?=w.heap[b]?:=λb hb hn=>h5 b hb (Ne.symm hn);refine⟨h1,h2,h3,h4,λb hlt hz=>hb b hlt (hz 0),λb o hlt hz=>?_,λb o hlt hz=>?_,λ_=>hd⟩
 ·simp only[World.cell?,hb b hlt hz]
 ·simp only[World.frozen?,hb b hlt hz]
def aIe(zs:List Int):List Int:=zs.mergeSort λx y=>decide (x<=y)
theorem bQw[Mode]{P:Program}{N:FuncId}
  (h1:∀(blk off cap:Nat) (zs:List Int) (w:World),Holds (Value.int .i64) w blk off zs.toArray->blk<w.heap.size->zs.length<4611686018427387904->
   Calls P N #[.slice (some ⟨blk,off,none⟩) zs.length cap] w λe w'=>e=.returned (.tuple #[])/\∃n os,w'=grow (putRow (Value.int .i64) (Sort.ahead w n) blk off (zs.mergeSort λx y=>decide (x<=y)).toArray) os)
  (h0:∀(p:Option Addr) (cap:Nat) (w:World),Calls P N #[.slice p 0 cap] w λe w'=>e=.returned (.tuple #[])/\w'=w)
  {v:Value}{e:TypeId}{zs:List Int}(hl:zs.length<4611686018427387904):
  bC P N [.d (.lit v)] [.arr v e 1 (zs.map aI)] (λr o=>r=.tup []/\o=[.arr v e 1 ((aIe zs).map aI)]):=by
 intro A w vs hI hA hv;have hvs:vs=[v]:=by
  match vs,hv with
  | [u],hv=>
   cases hv.1 with
   |d h=>cases h;rfl
 subst hvs;obtain⟨xs,hd,hown,hr⟩:=hI.holds _ (List.mem_singleton.2 rfl);have hx:=bKz hd;subst hx;rw[List.length_map] at hown;have hvr:∀w' X,VR w' X (.tup []) (.tuple #[]):=λw' X=>.tup (us:=[]) rfl λi hi=>by simp at hi
 rcases hown.2 with⟨hn,hz⟩|⟨g,cap,cur,rfl,hb,hg,h2,h3,h4,h5⟩
 ·subst hn;have hz0:zs=[]:=List.length_eq_zero_iff.1 hz;subst hz0;refine(h0 none 0 w).mono ?_;rintro e' w' ⟨rfl,rfl⟩;exact⟨_,.tup [],_,rfl,Keeps.refl _ _,hI,hvr _ _,λm hm b o hf=>.inl ⟨m,hm,hf⟩,rfl,by simp[aIe]⟩
 ·rw [Nat.mul_one] at h5;have hsl:(aIe zs).length=zs.length:=by simp[aIe]
  refine(h1 g 0 cap zs w (holds_of_blockI hg (by simpa using h5)) (Array.getElem?_eq_some_iff.1 hg).1 hl).mono ?_;rintro e' w' ⟨rfl,n,os,rfl⟩;have hgb:=grownBy_sortedI (w:=w) (g:=g) (n:=n) (os:=os) (zs.mergeSort λx y=>decide (x<=y)).toArray;have hk:=bLd (v:=.slice (some ⟨g,0,none⟩) zs.length cap) hgb (Nat.le_add_right _ _);refine⟨_,.tup [],[.arr (.slice (some ⟨g,0,none⟩) zs.length cap) e 1 ((aIe zs).map aI)],rfl,hk.mono λb o h=>⟨_,List.mem_singleton.2 rfl,h⟩,⟨?_,λm hm b o hf=>?_,λm hm=>?_,hI.amb.on (lO hk (λb o h=>.inr ⟨_,List.mem_singleton.2 rfl,h⟩) λb o _ h=>h.imp id λ⟨m,hm,hf⟩=>by cases List.mem_singleton.1 hm;exact⟨_,List.mem_singleton.2 rfl,hf⟩)⟩,hvr _ _,λm hm b o hf=>?_,rfl,rfl⟩
  ·exact List.pairwise_singleton _ _
  ·cases List.mem_singleton.1 hm;exact hI.apart _ (List.mem_singleton.2 rfl) b o hf
  ·cases List.mem_singleton.1 hm;refine⟨_,bHb (aIe zs),?_,λr hr'=>?_⟩
   ·have:=ownsRow_sortedI (base:=0) (n:=n) (os:=os) (ss:=zs) (ts:=aIe zs) hsl hb hg h2 h3 h4;rw[List.length_map,hsl];exact this
   ·obtain⟨x,_,rfl⟩:=List.mem_map.1 hr'
    rfl
  ·cases List.mem_singleton.1 hm;exact .inl ⟨_,List.mem_singleton.2 rfl,hf⟩
end Go.Am
end
section
section
namespace Go.Am
def yB{α:Type}(enc:α->List D)(o:Option α)(v:Value):MO:=.ext (λ_ _=>False) (λw X=>VR w X (pZ enc o) v)
section
variable{P:Program}{n d:Nat}{st:St}{Q:Exit->St->Prop}
theorem bYi[Mode]{α:Type}{enc:α->List D}{o:Option α}{ops:Array Oper}{l:List Oper}{env:Nat->AV}{objs:List MO}(k:Nat)(hk:env k=pZ enc o)
  (h:∀v:Value,TrL P n ops l ⟨upd env k (.d (.lit v)),objs++[yB enc o v]⟩ Q):TrL P n ops l ⟨env,objs⟩ Q:=λA M w0 a w hR=>by
 have hv:=hR.env k;rw[show(⟨env,objs⟩:St).env k=pZ enc o from hk] at hv;have h1:=hR.add (m:=yB enc o (a.tmps.getD k undef)) (Keeps.refl _ _) (λb o hf=>hf.elim) (λhm=>⟨λ_ _ h=>h.elim,λw' X' hm' _=>(hv.mono hm).mono hm'⟩);refine h (a.tmps.getD k undef) A M w0 a w ⟨h1.size,h1.defers,λj=>?_,h1.inv,h1.keeps,h1.own,h1.old⟩
 by_cases hj:k=j
 ·subst hj;rw[show(⟨upd env k (.d (.lit (a.tmps.getD k undef))),objs++[yB enc o (a.tmps.getD k undef)]⟩:St).env k=.d (.lit (a.tmps.getD k undef)) from fK _ _ _];refine .d (.lit _ ?_)
  generalize a.tmps.getD k undef=v at hv
  cases o with
  |none=>cases hv with|d h=>exact h.oneCell
  |some x=>cases hv with|cp=>rfl
 ·rw[show(⟨upd env k (.d (.lit (a.tmps.getD k undef))),objs++[yB enc o (a.tmps.getD k undef)]⟩:St).env j=env j from lJ _ _ hj];exact h1.env j
theorem bEl[Mode]{α:Type}{enc:α->List D}{oo:Option α}{x:Operand}{t:TypeId}{b o j i i2:Nat}{ds:List D}{v:Value}{ty:TypeId}{pos:String}{af:Array Edge}{gd:Option (Nat×Bool)}(hd:d<n)
  (hx:st.eval x=.bp b o j)(ho:st.objs[i]?=some (.box b o ds))(hj:ds[j]?=some (.lit v))(h2:st.objs[i2]?=some (yB enc oo v))(ht:fZ P t):aM P n ⟨some d,.load t x,ty,pos,af,gd⟩ st (st.set d (pZ enc oo)):=
 bZ rfl hd λA M w0 a w hR=>by
  have hk:cD x=true:=by cases x with|const u=>cases hx|_=>rfl
  have h:=hR.eval' hk;rw[hx] at h
  generalize hu:a.eval x=u at h
  obtain⟨vs,hds,hc,_⟩:=hR.inv.holds _ (List.mem_of_getElem? ho);obtain⟨_,hf⟩:=hR.inv.holds _ (List.mem_of_getElem? h2);obtain⟨u',hv,hdv⟩:=hds.get hj;have hu':u'=v:=by cases hdv;rfl
  subst hu';cases h with
  |bp=>exact⟨u',by simp[execOp,hu,aDq ht (hc j u' hv)],hf _ _ (Mono.refl _ _) (Keeps.refl _ _)⟩
theorem bUo[Mode]{α:Type}{enc:α->List D}{y:α}{x:Operand}{t:TypeId}{b o j i i2:Nat}{ds:List D}{v:Value}{ty:TypeId}{pos:String}{af:Array Edge}{gd:Option (Nat×Bool)}(hd:d<n)
  (hx:st.eval x=.bp b o j)(ho:st.objs[i]?=some (.box b o ds))(hj:ds[j]?=some (.lit v))(h2:st.objs[i2]?=some (yB enc (some y) v))(ht:fZ P t):aM P n ⟨some d,.load t x,ty,pos,af,gd⟩ st (st.set d (.cp (enc y))):=
 bEl hd hx ho hj h2 ht
theorem bSj[Mode]{α:Type}{enc:α->List D}{o:Option α}{y:α}{v:Value}{env:Nat->AV}{objs:List MO}{i:Nat}(ho:objs[i]?=some (yB enc o v))(h:o=some y):Ent ⟨env,objs⟩ ⟨env,objs.set i (yB enc (some y) v)⟩:=by
 subst h;have hi:i<objs.length:=(List.getElem?_eq_some_iff.1 ho).1;have:objs.set i (yB enc (some y) v)=objs:=by
  rw[<-(List.getElem?_eq_some_iff.1 ho).2];exact List.set_getElem_self hi
 rw[this];exact Ent.refl _
theorem bVw[Mode]{α:Type}{enc:α->List D}{o:Option α}{y:α}{v:Value}{env:Nat->AV}{objs:List MO}{i:Nat}(ho:objs[i]?=some (yB enc (some y) v))(h:o=some y):Ent ⟨env,objs⟩ ⟨env,objs.set i (yB enc o v)⟩:=by
 subst h;exact bSj ho rfl
end
end Go.Am
end
section
namespace Go.Am
theorem bLf{a b:List D}(h1:eG a=true)(h2:eG b=true):eG (a++b)=true:=by
 induction a with
 |nil=>exact h2
 | cons x a ih=>
  cases x with
  |lit v=>exact ih h1
  |_=>simp[eG] at h1
theorem bDu{α:Type}{enc:α->List D}(h:∀x,eG (enc x)=true):∀xs:List α,eG (xs.map enc).flatten=true
 |[]=>rfl
 |x::xs=>by rw[List.map_cons,List.flatten_cons];exact bLf (h x) (bDu h xs)
theorem pmn[Mode]:∀m∈([]:List MO),aEv m:=λ_ h=>by cases h
theorem pmc[Mode]{a:MO}{l:List MO}(h:aEv a)(hl:∀m∈l,aEv m):∀m∈a::l,aEv m:=λm hm=>by
 rcases List.mem_cons.1 hm with rfl|hm
 ·exact h
 ·exact hl m hm
end Go.Am
end
section
namespace Go.Am
section
variable{P:Program}{n d:Nat}{st:St}{o:Oper}
end
end Go.Am
end
end
end
section
namespace Go.Am
def aFp{α β:Type}(kv:α->Value)(av:β->AV)(l:List (α×β))(r:Nat)(bs:List Nat)(ck:Nat):MO:=
 .ext (λ_ _=>False) λw X=>∃ms,w.heap[r]?=some (.map ms ck)/\(∀o,¬X r o)/\MRs w X (l.map λp=>(kv p.1,av p.2)) ms.toList/\ms.toList.map (·.born)=bs/\bs.Pairwise (·<·)/\∀b∈bs,b<ck
theorem bLi[Mode]{α β:Type}{kv:α->Value}{av:β->AV}{l:List (α×β)}{r:Nat}{bs:List Nat}{ck:Nat}{w:World}{X:aS}
  (h:∃ms,w.heap[r]?=some (.map ms ck)/\(∀o,¬X r o)/\MRs w X (l.map λp=>(kv p.1,av p.2)) ms.toList/\ms.toList.map (·.born)=bs/\bs.Pairwise (·<·)/\∀b∈bs,b<ck):(aFp kv av l r bs ck).holds w X:=by
 refine⟨λ_ _ h=>h.elim,λw' X' hm _=>?_⟩;obtain⟨ms,h1,h2,h3,h4⟩:=h;obtain⟨k1,k2⟩:=hm.map r ms ck h1 h2;exact⟨ms,k1,k2,h3.mono hm,h4⟩
theorem bIg[Mode]{α β:Type}{kv:α->Value}{av:β->AV}{l:List (α×β)}{r:Nat}{bs:List Nat}{ck:Nat}{w:World}{X:aS}(h:(aFp kv av l r bs ck).holds w X):
  ∃ms,w.heap[r]?=some (.map ms ck)/\MRs w X (l.map λp=>(kv p.1,av p.2)) ms.toList/\ms.toList.map (·.born)=bs/\bs.Pairwise (·<·)/\∀b∈bs,b<ck:=by
 obtain⟨ms,h1,_,h3⟩:=h.2 w X (Mono.refl _ _) (Keeps.refl _ _);exact⟨ms,h1,h3⟩
theorem MRs.of{w:World}{X:aS}:∀{es:List (Value×AV)} {ms:List MapEntry},ms.map (·.key)=es.map (·.1)->(∀(i:Nat) (m:MapEntry) (e:Value×AV),ms[i]?=some m->es[i]?=some e->VR w X e.2 m.val)->MRs w X es ms
 |[],[],_,_=>trivial
 | (k,x)::es,m::ms,hk,h=>by
  simp only[List.map_cons,List.cons.injEq] at hk;exact⟨hk.1,h 0 m (k,x) rfl rfl,MRs.of hk.2 λi m' e h1 h2=>h (i+1) m' e (by simpa using h1) (by simpa using h2)⟩
 |[],_::_,hk,_=>by simp at hk
 |_::_,[],hk,_=>by simp at hk
theorem cBf[Mode]{w:World}{X:aS}{α β:Type}{kv:α->Value}{enc:β->List D}{agg:Bool}{l:List (α×β)}{av:β->AV}(ha:∀v,av v=nC agg (enc v)){u:Value}(h:DR w X (.mp agg (l.map λp=>(kv p.1,enc p.2))) u):
  ∃r bs ck,u=.map (some r)/\bs.length=l.length/\(aFp kv av l r bs ck).holds w X/\∃ms,w.heap[r]?=some (.map ms ck):=by
 have hp:=bIh h;cases h with
 | mp _ _ r clock ms f hb hx hk hpw hc hv h1 hr=>
  obtain⟨r',c',ms',e,hb',hk',hval⟩:=hp;cases e;rw[hb] at hb';cases hb';refine⟨r,ms.toList.map (·.born),clock,rfl,?_,bLi ⟨ms,hb,hx,?_,rfl,hpw,hc⟩,ms,hb⟩
  ·have:=congrArg List.length hk
   simpa using this
  ·refine MRs.of (by rw[hk];simp) λi m e hi he=>?_;simp only[List.getElem?_map,Option.map_eq_some_iff] at he;obtain⟨p,hp,rfl⟩:=he;have:=hval i m (kv p.1,enc p.2) hi (by simp[hp]);simp only[ha];exact this
section
variable{P:Program}{n d:Nat}{st:St}
theorem bQr[Mode]{t kt et:TypeId}{α β:Type}{kv:α->Value}{enc:β->List D}{agg:Bool}{l:List (α×β)}{av:β->AV}(ha:∀v,av v=nC agg (enc v)){x:Operand}{ty:TypeId}{pos:String}{af:Array Edge}{gd:Option (Nat×Bool)}(hd:d<n)
  (ht:P.underlying t=some (.map kt et))(hx:st.eval x=.d (.mp agg (l.map λp=>(kv p.1,enc p.2))))(hxk:cD x=true):
  Step P n ⟨some d,.range t x,ty,pos,af,gd⟩ st (λs=>∃q r bs ck,cQ l bs []=l/\s=⟨upd st.env d (.d (.lit (.pointer (some ⟨q,0,none⟩)))),(st.objs++[aFp kv av l r bs ck])++[.iter q r ck [] ck]⟩):=by
 intro A M w0 ac w hR K Q hK;have h:=hR.eval' hxk;rw[hx] at h
 generalize hu:ac.eval x=u at h
 cases h with
 | d h=>
  obtain⟨r,bs,ck,rfl,hlen,hfact,ms,hh⟩:=cBf ha h;have hrun:(execOp ac.eval ⟨some d,.range t x,ty,pos,af,gd⟩).run P w=.ok (.value (.pointer (some ⟨w.heap.size,0,none⟩))) (w.alloc (.mapIter (some r) ck #[] ck)):=by
   simp[execOp,hu,Instr.range,run_underlying ht,eS hh]
  unfold Oper.wp;rw[hrun,Oper.upon_value];refine hK _ _ _ ⟨w.heap.size,r,bs,ck,bDt hlen,rfl⟩ ?_;have hR1:=hR.add (w':=w) (m:=aFp kv av l r bs ck) (Keeps.refl _ _) (λb o hf=>hf.elim) (λhm=>by
   obtain⟨h1,h2⟩:=hfact;exact⟨λ_ _ h=>h.elim,λw' X' hm' hk'=>h2 w' X' (hm.trans hm') hk'⟩)
  have hR':=hR1.add (w':=w.alloc (.mapIter (some r) ck #[] ck)) (m:=.iter w.heap.size r ck [] ck) (Keeps.alloc _ _ _) (λb o hf=>by simp[MO.foot] at hf;omega) (λhm=>by
   show(w.alloc (.mapIter (some r) ck #[] ck)).heap[w.heap.size]?=_;exact heap_alloc_new w _)
  exact hR'.put (o:=⟨some d,.range t x,ty,pos,af,gd⟩) rfl hd (.of_lit rfl)
theorem bUt[Mode]{α β:Type}{kv:α->Value}{av:β->AV}{l:List (α×β)}{x:Operand}{q r mi mm:Nat}{bs seen:List Nat}{ck:Nat}{ty:TypeId}{pos:String}{af:Array Edge}{gd:Option (Nat×Bool)}(hd:d<n)
  (hx:st.eval x=.d (.lit (.pointer (some ⟨q,0,none⟩))))(hi:st.objs[mi]?=some (.iter q r ck seen ck))(ho:st.objs[mm]?=some (aFp kv av l r bs ck)):
  Step P n ⟨some d,.next x false,ty,pos,af,gd⟩ st (λs=>(cQ l bs seen=[]/\s=st.set d (.tup [.d (.lit (.bool false))]))\/
   ∃(j b:Nat) (p:α×β),(bs.Pairwise (·<·)/\l[j]?=some p/\bs[j]?=some b/\b∉seen)/\s=⟨upd st.env d (.tup [.d (.lit (.bool true)),.any,.any]),st.objs.set mi (.iter q r ck (seen++[b]) ck)⟩):=by
 intro A M w0 ac w hR K Q hK;obtain⟨ms,hh,hms,hb1,hb2,hb3⟩:=bIg (hR.inv.holds _ (List.mem_of_getElem? ho));have hq:w.heap[q]?=some (.mapIter (some r) ck seen.toArray ck):=hR.inv.holds _ (List.mem_of_getElem? hi);have hlen:bs.length=l.length:=by rw[<-hb1,List.length_map,hms.len,List.length_map]
 have hbj:∀j (hj:j<ms.toList.length),bs[j]?=some ms.toList[j].born:=by intro j hj;rw[<-hb1,List.getElem?_map,List.getElem?_eq_getElem hj];rfl
 rcases run_next_at (P:=P) w ty q r ck ck seen.toArray ms ck hq hh (λe he=>hb3 _ (by rw[<-hb1];exact List.mem_map_of_mem he)) (Nat.le_refl _) with⟨h0,hrun⟩|⟨e,he,w1,hw1,hrun⟩
 ·unfold Oper.wp;have hrun':(execOp ac.eval ⟨some d,.next x false,ty,pos,af,gd⟩).run P w=.ok (.value (.tuple #[.bool false])) w:=by
   simp[execOp,hR.lit hx,hrun]
  rw[hrun',Oper.upon_value];refine hK _ _ _ (.inl ⟨?_,rfl⟩) (hR.put (o:=⟨some d,.next x false,ty,pos,af,gd⟩) rfl hd (.tup (us:=[_]) rfl λi hi=>by
   match i,hi with
   |0,_=>exact .d (.lit _ rfl)))
  unfold cQ;rw[List.map_eq_nil_iff,List.filter_eq_nil_iff];intro z hz;have hz2:=(List.of_mem_zip hz).2;rw[<-hb1] at hz2;obtain⟨e,he,hez⟩:=List.mem_map.1 hz2;have h1:leftOf ms seen.toArray= #[]:=Array.eq_empty_of_size_eq_zero h0;have h2:e∉(leftOf ms seen.toArray):=by rw[h1];simp
  simp only[leftOf,Array.mem_filter,not_and] at h2;have:=h2 (by simpa using he)
  simp at this
  simp[<-hez,this]
 ·unfold Oper.wp;have hrun':(execOp ac.eval ⟨some d,.next x false,ty,pos,af,gd⟩).run P w=.ok (.value (.tuple #[.bool true,e.key,e.val])) (ChangeMaps.setBlock w1 q (.mapIter (some r) ck (seen.toArray.push e.born) ck)):=by
   simp[execOp,hR.lit hx,hrun]
  rw[hrun',Oper.upon_value];obtain⟨hem,hes⟩:=mem_left he;obtain⟨j,hj,rfl⟩:=List.getElem_of_mem hem;have hjl:j<l.length:=by rw[<-hlen,<-hb1];simpa using hj
  refine hK _ _ _ (.inr ⟨j,ms.toList[j].born,l[j],⟨hb2,List.getElem?_eq_getElem hjl,hbj j hj,by simpa using hes⟩,rfl⟩) ?_;exact(bHu hR hi hw1).put (o:=⟨some d,.next x false,ty,pos,af,gd⟩) rfl hd (.tup (us:=[_,_,_]) rfl λi hi=>by
   match i,hi with
   |0,_=>exact .d (.lit _ rfl)
   |1,_=>exact .any _
   |2,_=>exact .any _)
theorem bQm[Mode]{α β:Type}{kv:α->Value}{av:β->AV}{l:List (α×β)}{x:Operand}{q r mi mm j b:Nat}{p:α×β}{bs seen:List Nat}{ck:Nat}{ka:AV}{ty:TypeId}{pos:String}{af:Array Edge}{gd:Option (Nat×Bool)}(hd:d<n)
  (hx:st.eval x=.d (.lit (.pointer (some ⟨q,0,none⟩))))(hi:st.objs[mi]?=some (.iter q r ck (seen++[b]) ck))(ho:st.objs[mm]?=some (aFp kv av l r bs ck))
  (hp:bs.Pairwise (·<·)/\l[j]?=some p/\bs[j]?=some b/\b∉seen)(hk:∀w X,VR w X ka (kv p.1)):
  aM P n ⟨some d,.entry x,ty,pos,af,gd⟩ st (st.set d (.tup [ka,av p.2])):=
 bZ rfl hd λA M w0 ac w hR=>by
  obtain⟨ms,hh,hms,hb1,hb2,hb3⟩:=bIg (hR.inv.holds _ (List.mem_of_getElem? ho));have hq:w.heap[q]?=some (.mapIter (some r) ck (seen++[b]).toArray ck):=hR.inv.holds _ (List.mem_of_getElem? hi);obtain⟨e,he,hv⟩:=hms.get (j:=j) (e:=(kv p.1,av p.2)) (by simp[hp.2.1]);have hborn:e.born=b:=by
   have:=hp.2.2.1;rw[<-hb1] at this;simp only[List.getElem?_map,he,Option.map_some,Option.some.injEq] at this;exact this
  have hkey:e.key=kv p.1:=by
   have:=congrArg (λz=>z[j]?) hms.keys;simp only[List.getElem?_map,he,hp.2.1,Option.map_some,Option.some.injEq] at this;exact this
  have hq2:w.heap[q]?=some (.mapIter (some r) ck (seen.toArray.push e.born) ck):=by rw[hq,hborn];simp
  have hrun:=run_entry_at (P:=P) w q r ck seen.toArray ms ck e hq2 hh (List.mem_of_getElem? he) (by rw[hb1];exact hb2.imp λh=>Nat.ne_of_lt h);refine⟨.tuple #[e.key,e.val],by simp[execOp,hR.lit hx,hrun],.tup (us:=[_,_]) rfl λi hi=>by
   match i,hi with
   |0,_=>exact hkey▸hk _ _
   |1,_=>exact hv⟩
end
section
variable{P:Program}{n d:Nat}{st:St}
def cDc(i j:Nat):Option Nat:=if j<i then some j else if j=i then none else some (j-1)
theorem er{α:Type}{l:List α}{i j:Nat}(j':Nat){x:α}(hj:cDc i j'=some j)(h:l[j']?=some x):(l.eraseIdx i)[j]?=some x:=by
 unfold cDc at hj;split at hj
 ·cases hj;rw[List.getElem?_eraseIdx,if_pos (by assumption)];exact h
 ·split at hj
  ·cases hj
  ·cases hj;rw[List.getElem?_eraseIdx,if_neg (by omega),show j'-1+1=j' by omega];exact h
theorem aNs[Mode]{env:Nat->AV}{objs objs':List MO}(h:objs.Perm objs'):Ent ⟨env,objs⟩ ⟨env,objs'⟩:=
 pC (gone:=[]) (by simpa using h) λ_=>.same _
theorem bLp[Mode]{c:Callee}{l:List Operand}{f:FuncId}{args args':List AV}{e k:Nat}{rows:List (List D)}{ts:Array TypeId}{ty:TypeId}{pos:String}{af:Array Edge}{gd:Option (Nat×Bool)}(hd:d<n)
  {a0:List AV}(hc:mD P st c l f a0)(ha:a0=args)(hok:iN l=true)(hb:BVs st.objs args args')(hf:bC P f args' [] (λr' o'=>∃w,r'=.d (.lit w)/\o'=[.arr w e k rows]))(hp:eG rows.flatten=true):
  Step P n ⟨some d,.call {callee:=c,args:=l.toArray,argTypes:=ts},ty,pos,af,gd⟩ st (λs=>∃w,s=(st.setadd d (.d (.lit w)) (.arr w e k rows))):=by
 intro A M w0 a w hR K Q hK;refine bXp (passed:=[]) hd rfl hc ha hok hb hf pmn (by rintro _ _ ⟨w,rfl,rfl⟩;exact⟨rfl,pmc (bUb hp) pmn⟩) A M w0 a w hR K Q ?_;rintro s a' w' ⟨_,_,⟨v,rfl,rfl⟩,rfl⟩ hR';refine hK _ a' w' ⟨v,rfl⟩ (aNs ?_ A M w0 n a' w' hR');exact List.perm_append_comm
end
end Go.Am
end
end
end
