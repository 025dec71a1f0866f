/- Several texts, one behind the other. -/
import Derived.Test.YtiohgpipanopaaaGreatAmX11
section
namespace Go.Am
section
variable{P:Program}(T:TT P)
def rdV(S:VS):ResultVar->(AV->Prop)->Prop
 | .tmp t,K=>frc (lk S.env t) K
 | .cell a t,K=>match lk S.env a,T.ty.get t with
  | .bp h _ j,some (i,td)=>match ob S.objs h with
   |some (.box ds)=>bif aGh td then tdK i.size j ds λes=>K (.agg es) else bif Nat.beq i.size 1 then tdK 1 j ds λes=>aJm es λx=>K (.d x) else False
   |_=>False
  |_,_=>False
def bSt(S:VS)(r:AV):List ResultVar->Prop
 |[x]=>rdV T S x λv=>vA S.objs v=r/\okA r=true
 |[x,y]=>rdV T S x λv=>rdV T S y λu=>∃a b,vA S.objs v=a/\vA S.objs u=b/\r=.tup [a,b]/\(okA a&&okA b)=true/\(aFi a&&aFi b)=true
 |[x,y,z]=>rdV T S x λv=>rdV T S y λu=>rdV T S z λt=>∃a b c,vA S.objs v=a/\vA S.objs u=b/\vA S.objs t=c/\r=.tup [a,b,c]/\(okA a&&(okA b&&okA c))=true/\(aFi a&&(aFi b&&aFi c))=true
 |[]=>r=.tup []
 |_=>False
variable{T}
theorem aQy{S:VS}{ρ:Rho}:∀{x:ResultVar} {K:AV->Prop},rdV T S x K->∃v,K v/\RVc P (S.at ρ) x (ρ.av v)
 | .tmp t,K,h=>⟨_,zR h,.tmp t rfl⟩
 | .cell a t,K,h=>by
  simp only[rdV] at h;split at h
  ·rename_i hh o j i td ha ht
   split at h
   ·rename_i ds hm
    obtain⟨p,hp,_⟩:=aQu (ρ:=ρ) hm;cases hag:aGh td with
    | true=>
     rw[hag] at h;obtain⟨hl,h⟩:=aCe (K:=λes=>K (.agg es)) h;exact⟨_,h,.cell a t (aBj ha) hp (aNd ht hag rfl) aTm (by simpa using hl)⟩
    | false=>
     rw[hag] at h;obtain⟨h1,h⟩:=jF h;obtain⟨hl,h⟩:=aCe (K:=λes=>aJm es λx=>K (.d x)) h;obtain⟨d0,he,h⟩:=aWd (K:=λx=>K (.d x)) h;exact⟨_,h,.cell1 a t (aBj ha) hp (aNe ht hag (Nat.eq_of_beq_eq_true h1)) (by rw[List.getElem?_map,bCf he];rfl)⟩
   ·exact h.elim
  ·exact h.elim
theorem bYx{S:VS}{r:AV}{rs:List ResultVar}{ρ:Rho}(hr:wX (S.at ρ).objs)(h:bSt T S r rs):∃r0,aCm P (S.at ρ) rs r0/\BV (S.at ρ).objs r0 r:=by
 unfold bSt at h;split at h
 ·obtain⟨v,⟨h1,h2⟩,hv⟩:=aQy (ρ:=ρ) h;exact⟨_,.one hv,aNg ρ hr h1 h2⟩
 ·obtain⟨v,h,hv⟩:=aQy (ρ:=ρ) h;obtain⟨u,⟨a,b,h1,h2,rfl,h3,h4⟩,hu⟩:=aQy (ρ:=ρ) h;simp only[Bool.and_eq_true] at h3;exact⟨_,.two hv hu,xE (.cons (aNg ρ hr h1 h3.1) (.cons (aNg ρ hr h2 h3.2) .nil))⟩
 ·obtain⟨v,h,hv⟩:=aQy (ρ:=ρ) h;obtain⟨u,h,hu⟩:=aQy (ρ:=ρ) h;obtain⟨t,⟨a,b,c,h1,h2,h5,rfl,h3,h4⟩,ht⟩:=aQy (ρ:=ρ) h;simp only[Bool.and_eq_true] at h3;exact⟨_,.three hv hu ht,xE (.cons (aNg ρ hr h1 h3.1) (.cons (aNg ρ hr h2 h3.2.1) (.cons (aNg ρ hr h5 h3.2.2) .nil)))⟩
 ·subst h;exact⟨_,.none,.same _⟩
 ·exact h.elim
end
theorem bXa{P:Program}{n:Nat}{c:Code}{st:St}{Q Q':Exit->St->Prop}(h:Tr P n c st Q)(hq:∀e s,Q e s->∃s1,Ent s s1/\(wX s1.objs->Q' e s1)):Tr P n c st Q':=
 λA M w0 a w hR hn=>wpIn_mono (h A M w0 a w hR hn) λe a' w' ⟨s,h1,hR'⟩=>by
  obtain⟨s1,he,h2⟩:=hq e s h1;have hR1:=he A M w0 n a' w' hR';exact⟨s1,h2 (aPy hR1.inv.holds),hR1⟩
def aLs:Nat->List AV->List (Nat×AV)
 |_,[]=>[]
 |k,v::l=>(k,v)::aLs (k+1) l
theorem bIl:∀{l:List AV} {k j:Nat},lk (aLs k l) (k+j)=l.getD j .any
 |[],k,j=>by simp[aLs,lk]
 |v::l,k,0=>by simp[aLs,lk]
 | v::l,k,j+1=>by
  have:Nat.beq k (k+(j+1))=false:=by
   cases hb:Nat.beq k (k+(j+1)) with
   |false=>rfl
   |true=>have:=Nat.eq_of_beq_eq_true hb;omega
  have h2:=bIl (l:=l) (k:=k+1) (j:=j);rw[show k+1+j=k+(j+1) by omega] at h2;simp only[aLs,lk,this,cond_false,h2]
  simp
def aJk:AV->Bool
 | .bp .. =>false
 | .ep .. =>false
 | .tup _=>false
 | .fn _ _=>false
 | .mf _ _=>false
 |_=>true
def okR:AV->Bool
 | .bp .. =>false
 | .ep .. =>false
 | .tup vs=>vs.all aJk
 | .fn _ vs=>vs.all aJk
 | .mf _ vs=>vs.all aJk
 |_=>true
theorem cAe{w:World}{X:bH}{x:AV}{v:Value}(h:VR w X x v)(ρ:Rho)(hx:aJk x=true):ρ.a1 x=x:=by
 cases h with
 |any=>rfl
 |d h=>show AV.d _=_;rw[h.nohv ρ]
 |agg h=>show AV.agg _=_;rw[h.nohv ρ]
 |cp=>rfl
 |fl=>rfl
 |bp=>simp[aJk] at hx
 |ep=>simp[aJk] at hx
 |tup=>simp[aJk] at hx
 |fn=>simp[aJk] at hx
 |mf=>simp[aJk] at hx
theorem bLq{w:World}{X:bH}{vs:List AV}{us:List Value}(h:∀i,i<vs.length->VR w X (vs.getD i .any) (us.getD i undef))(ρ:Rho)(hx:(vs.all aJk)=true):vs.map ρ.a1=vs:=by
 refine aYa λx hxm=>?_;obtain⟨i,hi,rfl⟩:=List.getElem_of_mem hxm;have h1:=h i hi;simp only[List.getD,List.getElem?_eq_getElem hi,Option.getD_some] at h1;exact cAe h1 ρ (List.all_eq_true.1 hx _ hxm)
theorem bYu{w:World}{X:bH}{x:AV}{v:Value}(h:VR w X x v)(ρ:Rho)(hx:okR x=true):ρ.av x=x:=by
 cases h with
 |any=>rfl
 |d h=>show AV.d _=_;rw[h.nohv ρ]
 |agg h=>show AV.agg _=_;rw[h.nohv ρ]
 |cp=>rfl
 |fl=>rfl
 |bp=>simp[okR] at hx
 |ep=>simp[okR] at hx
 |tup hl h=>show AV.tup _=_;rw[bLq h ρ hx]
 |fn hl h=>show AV.fn _ _=_;rw[bLq h ρ hx]
 |mf hl h=>show AV.mf _ _=_;rw[bLq h ρ hx]
theorem bRc{S:VS}{ρ:Rho}{d:Nat}{r:AV}(hr:okR r=true):Ent ((S.at ρ).set d r) ((VS.mk ((d,r)::S.env) S.objs).at ρ):=by
 intro A M w0 n a w hR;have h:=hR.env d;simp only[St.set,lK] at h;have e:=bYu h ρ hr;have:=at_set (ρ:=ρ) S d r;rw[e] at this;exact this▸hR
def bSu(β:yW):Rho:=⟨β,λ_=>0,λ_=>0,λ_=>undef,λ_=>[],λ_=>0⟩
theorem bNj{args:List AV}{ρ:Rho}(h:args.all okR=true):Ent ⟨entry args,[]⟩ ((VS.mk (aLs 0 args) []).at ρ):=by
 intro A M w0 n a w hR;have e:(λk=>ρ.av (lk (aLs 0 args) k))=entry args:=by
  funext k
  have h1:=hR.env k;have h2:=bIl (l:=args) (k:=0) (j:=k);rw[Nat.zero_add] at h2;rw[h2];show ρ.av (args.getD k .any)=args.getD k .any;refine bYu h1 ρ ?_;show okR (args.getD k .any)=true
  by_cases hk:k<args.length
  ·simp only[List.getD,List.getElem?_eq_getElem hk,Option.getD_some];exact List.all_eq_true.1 h _ (List.getElem_mem hk)
  ·simp[List.getD,List.getElem?_eq_none (show args.length<=k by omega),okR]
 show R A M w0 n ⟨λk=>ρ.av (lk (aLs 0 args) k),[]⟩ a w;rw[e];exact hR
theorem fnx{P:Program}(T:TT P)(X:XP){f:FuncId}{fn:Func}{c:Code}{args:List AV}{r:AV}{N:Nat}(rs:List ResultVar)(hf:P.funcs[f]?=some fn)(hr:fn.results=rs.toArray)(hn:fn.ntmps=N)
  (h:yI T N (λ_=>(0,0,undef)) X c ⟨aLs 0 args,[]⟩ λe S=>e=.ret/\bSt T S r rs)(hb:fn.body=some c:=by exact rfl)(ha:(Nat.ble args.length N&&args.all okR)=true:=by exact rfl):Fn P f args r:=by
 simp only[Bool.and_eq_true] at ha;refine vI hf hb hr hn (Nat.le_of_ble_eq_true ha.1) ?_;refine bXa (eW (bNj (ρ:=bSu λ_=>(0,0,undef)) ha.2) (zM h _ rfl)) ?_;rintro e s ⟨S',ρ',hβ,⟨he,hres⟩,hent⟩;refine⟨_,hent,λhro=>⟨he,?_⟩⟩;obtain⟨r0,h1,h2⟩:=bYx hro hres;exact⟨r0,_,h1,by simp,h2⟩
end Go.Am
end
section
namespace Go.Am
def bCb(env:List (Nat×AV)):List Nat->List (Nat×AV)->List (Nat×AV)
 |[],us=>us
 |k::ks,us=>(k,lk env k)::bCb env ks us
def aVs(objs:List (Nat×VO)):List Nat->List (Nat×VO)->List (Nat×VO)
 |[],os=>os
 | h::hs,os=>match ob objs h with
  |some m=>(h,m)::aVs objs hs os
  |none=>aVs objs hs os
def VS.pt(S:VS)(ks:List Nat)(us:List (Nat×AV))(hs:List Nat)(os:List (Nat×VO)):VS:=⟨bCb S.env ks us,aVs S.objs hs os⟩
def aVr(env:List (Nat×AV)):List Nat->List (Nat×AV)->(List (Nat×AV)->Prop)->Prop
 |[],us,K=>K us
 |k::ks,us,K=>frc (lk env k) λv=>aVr env ks us λr=>K ((k,v)::r)
def aKe(objs:List (Nat×VO)):List Nat->List (Nat×VO)->(List (Nat×VO)->Prop)->Prop
 |[],os,K=>K os
 | h::hs,os,K=>match ob objs h with
  |some m=>aKe objs hs os λr=>K ((h,m)::r)
  |none=>aKe objs hs os K
def VS.ptK(S:VS)(ks:List Nat)(us:List (Nat×AV))(hs:List Nat)(os:List (Nat×VO))(K:VS->Prop):Prop:=aVr S.env ks us λenv=>aKe S.objs hs os λobjs=>K ⟨env,objs⟩
theorem bEd{env:List (Nat×AV)}{us:List (Nat×AV)}:∀{ks:List Nat} {K:List (Nat×AV)->Prop},aVr env ks us K->K (bCb env ks us)
 |[],_,h=>h
 |k::ks,K,h=>bEd (K:=λr=>K ((k,lk env k)::r)) (zR (K:=λv=>aVr env ks us λr=>K ((k,v)::r)) h)
theorem aTj{objs:List (Nat×VO)}{os:List (Nat×VO)}:∀{hs:List Nat} {K:List (Nat×VO)->Prop},aKe objs hs os K->K (aVs objs hs os)
 |[],_,h=>h
 | k::hs,K,h=>by
  simp only[aKe] at h;simp only[aVs];split at h
  ·rename_i m hm;exact aTj (K:=λr=>K ((k,m)::r)) h
  ·exact aTj h
theorem cAd{S:VS}{ks:List Nat}{us:List (Nat×AV)}{hs:List Nat}{os:List (Nat×VO)}{K:VS->Prop}(h:S.ptK ks us hs os K):K (S.pt ks us hs os):=
 aTj (K:=λobjs=>K ⟨bCb S.env ks us,objs⟩) (bEd (K:=λenv=>aKe S.objs hs os λobjs=>K ⟨env,objs⟩) h)
def rl:List (Nat×Nat)->Nat->Nat
 |[],h=>h
 |(a,b)::l,h=>bif Nat.beq a h then b else rl l h
def rnD(rn:List (Nat×Nat)):D->D
 | .hv q h j=>.hv q (rl rn h) j
 |x=>x
def rn0(rn:List (Nat×Nat)):AV->AV
 | .d x=>.d (rnD rn x)
 | .agg xs=>.agg (xs.map (rnD rn))
 | .bp h o j=>.bp (rl rn h) o j
 | .ep v k i c=>match v with
  | .map (some h)=>.ep (.map (some (rl rn h))) k i c
  |v=>.ep v k i c
 |x=>x
def rn1(rn:List (Nat×Nat)):AV->AV
 | .tup vs=>.tup (vs.map (rn0 rn))
 | .fn f vs=>.fn f (vs.map (rn0 rn))
 | .mf f vs=>.mf f (vs.map (rn0 rn))
 |x=>rn0 rn x
def rnA(rn:List (Nat×Nat)):AV->AV
 | .tup vs=>.tup (vs.map (rn1 rn))
 | .fn f vs=>.fn f (vs.map (rn1 rn))
 | .mf f vs=>.mf f (vs.map (rn1 rn))
 |x=>rn0 rn x
def rnO(rn:List (Nat×Nat)):VO->VO
 | .box ds=>.box (ds.map (rnD rn))
 |x=>x
def Rho.ren(ρ:Rho)(rn:List (Nat×Nat)):Rho:=⟨ρ.β,λh=>ρ.bb (rl rn h),λh=>ρ.oo (rl rn h),λh=>ρ.ss (rl rn h),λh=>ρ.bs (rl rn h),λh=>ρ.ck (rl rn h)⟩
def aYt:List (Nat×Nat)->Bool
 |[]=>true
 |p::l=>!(Nat.ble 100000 p.1)&&aYt l
theorem bPc:∀{rn:List (Nat×Nat)} {h:Nat},aYt rn=true->Nat.ble 100000 h=true->rl rn h=h
 |[],_,_,_=>rfl
 | p::l,h,hr,hb=>by
  simp only[aYt,Bool.and_eq_true,Bool.not_eq_true'] at hr;simp only[rl];cases hp:Nat.beq p.1 h with
  |true=>have:=Nat.eq_of_beq_eq_true hp;rw[this] at hr;rw[hb] at hr;cases hr.1
  |false=>exact bPc hr.2 hb
section
variable{ρ:Rho}{rn:List (Nat×Nat)}(hr:aYt rn=true)
include hr
theorem aWq(h:Nat):(ρ.ren rn).bb h=ρ.bb (rl rn h)/\(ρ.ren rn).oo h=ρ.oo (rl rn h)/\(ρ.ren rn).ss h=ρ.ss (rl rn h):=by
 cases hb:Nat.ble 100000 h with
 |false=>simp[Rho.bb,Rho.oo,Rho.ss,hb,Rho.ren]
 |true=>simp[Rho.bb,Rho.oo,Rho.ss,hb,Rho.ren,bPc hr hb]
theorem bFn(x:D):(ρ.ren rn).dd x=ρ.dd (rnD rn x):=by
 cases x with
 | hv q h j=>
  obtain⟨h1,h2,h3⟩:=aWq (ρ:=ρ) hr h;simp only[Rho.dd,rnD,h1,h2,h3]
 |_=>rfl
omit hr in
theorem xZ{α β γ:Type}{f:α->β}{g:γ->β}{k:α->γ}(h:∀x,f x=g (k x))(l:List α):l.map f=(l.map k).map g:=by
 rw[List.map_map];exact List.map_congr_left λx _=>h x
theorem yH(x:AV):(ρ.ren rn).a0 x=ρ.a0 (rn0 rn x):=by
 cases x with
 |d x=>simp only[Rho.a0,rn0,bFn hr]
 |agg xs=>simp only[Rho.a0,rn0];rw[xZ (bFn hr) xs]
 |bp h o j=>obtain⟨h1,h2,_⟩:=aWq (ρ:=ρ) hr h;simp only[Rho.a0,rn0,h1,h2]
 | ep v k i c=>
  cases v with
  | map r=>cases r with
   |none=>rfl
   |some h=>obtain⟨_,_,h3⟩:=aWq (ρ:=ρ) hr h;simp only[Rho.a0,rn0,h3]
  |_=>rfl
 |_=>rfl
theorem bFm(x:AV):(ρ.ren rn).a1 x=ρ.a1 (rn1 rn x):=by
 cases x with
 |tup vs=>simp only[Rho.a1,rn1];rw[xZ (yH hr) vs]
 |fn f vs=>simp only[Rho.a1,rn1];rw[xZ (yH hr) vs]
 |mf f vs=>simp only[Rho.a1,rn1];rw[xZ (yH hr) vs]
 |any=>rfl
 |d x=>exact yH hr (.d x)
 |agg x=>exact yH hr (.agg x)
 |cp x=>rfl
 |bp b o j=>exact yH hr (.bp b o j)
 | ep v k i c=>
  have:=yH (ρ:=ρ) hr (.ep v k i c);cases v with
  |map r=>cases r<;>exact this
  |_=>exact this
 |fl=>rfl
theorem bYv(x:AV):(ρ.ren rn).av x=ρ.av (rnA rn x):=by
 cases x with
 |tup vs=>simp only[Rho.av,rnA];rw[xZ (bFm hr) vs]
 |fn f vs=>simp only[Rho.av,rnA];rw[xZ (bFm hr) vs]
 |mf f vs=>simp only[Rho.av,rnA];rw[xZ (bFm hr) vs]
 |any=>rfl
 |d x=>exact yH hr (.d x)
 |agg x=>exact yH hr (.agg x)
 |cp x=>rfl
 |bp b o j=>exact yH hr (.bp b o j)
 | ep v k i c=>
  have:=yH (ρ:=ρ) hr (.ep v k i c);cases v with
  |map r=>cases r<;>exact this
  |_=>exact this
 |fl=>rfl
theorem bYw(h:Nat)(m:VO):(ρ.ren rn).mo h m=ρ.mo (rl rn h) (rnO rn m):=by
 obtain⟨h1,h2,h3⟩:=aWq (ρ:=ρ) hr h;cases m with
 |box ds=>simp only[Rho.mo,rnO,h1,h2];rw[xZ (bFn hr) ds]
 |arr e k rows=>simp only[Rho.mo,rnO,h3]
 |map es=>simp only[Rho.mo,rnO,h1];rfl
 |raw m=>rfl
end
theorem bOd{env:List (Nat×AV)}{f:AV->AV}:∀{l:List (Nat×AV)},l.map (λp=>lk env p.1)=l.map (λp=>f p.2)->∀k,lk l k=.any\/f (lk l k)=lk env k
 |[],_,k=>.inl rfl
 | p::l,h,k=>by
  simp only[List.map_cons,List.cons.injEq] at h;simp only[lk];cases hb:Nat.beq p.1 k with
  |true=>have:=Nat.eq_of_beq_eq_true hb;subst this;exact .inr h.1.symm
  |false=>exact bOd h.2 k
def aJo:List (Nat×VO)->Nat->Nat
 |[],_=>0
 |(k,_)::l,h=>bif Nat.beq k h then 0 else aJo l h+1
theorem aWn{ρ:Rho}:∀{objs:List (Nat×VO)} {h:Nat} {m:VO},ob objs h=some m->(objs.map λp=>ρ.mo p.1 p.2)[aJo objs h]?=some (ρ.mo h m)/\(objs.map (·.1))[aJo objs h]?=some h
 |[],_,_,h=>by cases h
 | (k,x)::l,h,m,hm=>by
  simp only[ob] at hm;simp only[aJo];cases hb:Nat.beq k h with
  | true=>
   rw[hb] at hm;have:=Nat.eq_of_beq_eq_true hb;subst this
   simp at hm;subst hm
   simp
  | false=>
   rw[hb] at hm;have:=aWn (ρ:=ρ) (by simpa using hm)
   simpa using this
theorem aZk{objs:List (Nat×VO)}:∀{l:List Nat},(∀h∈l,∃m,ob objs h=some m)->apart l=true->apart (l.map (aJo objs))=true
 |[],_,_=>rfl
 | h ::l,hl,ha=>by
  simp only[apart] at ha;cases hm:bG h l with
  |true=>rw[hm] at ha;simp at ha
  | false=>
   rw [hm] at ha;simp only[List.map_cons,apart];have:bG (aJo objs h) (l.map (aJo objs))=false:=by
    cases hq:bG (aJo objs h) (l.map (aJo objs)) with
    |false=>rfl
    | true=>
     obtain⟨g,hg,he⟩:=List.mem_map.1 (jK.1 hq);obtain⟨m1,h1⟩:=hl h (by simp);obtain⟨m2,h2⟩:=hl g (by simp[hg]);have e1:=(aWn (ρ:=bSu λ_=>(0,0,undef)) h1).2;have e2:=(aWn (ρ:=bSu λ_=>(0,0,undef)) h2).2;rw[he] at e2;rw[e1] at e2;cases e2;rw[jK.2 hg] at hm;cases hm
   rw[this];simp only[cond_false];exact aZk (λg hg=>hl g (by simp[hg])) (by simpa using ha)
theorem bFc{ρ:Rho}{rn:List (Nat×Nat)}(hr:aYt rn=true){objs:List (Nat×VO)}:∀{l:List (Nat×VO)},l.map (λp=>ob objs (rl rn p.1))=l.map (λp=>some (rnO rn p.2))->pick (objs.map λp=>ρ.mo p.1 p.2) ((l.map λp=>rl rn p.1).map (aJo objs))=some (l.map λp=>(ρ.ren rn).mo p.1 p.2)
 |[],_=>rfl
 | p::l,h=>by
  simp only[List.map_cons,List.cons.injEq] at h;have h1:=(aWn (ρ:=ρ) h.1).1;have h2:=bFc (ρ:=ρ) hr (l:=l) h.2;simp only[List.map_cons,pick,h1];simp only[List.map_map] at h2|-;rw[h2];simp only[bYw hr]
theorem lev(rn:List (Nat×Nat)){β:yW}{S S':VS}(h1:S'.env.map (λp=>lk S.env p.1)=S'.env.map (λp=>rnA rn p.2):=by exact rfl)(h2:S'.objs.map (λp=>ob S.objs (rl rn p.1))=S'.objs.map (λp=>some (rnO rn p.2)):=by exact rfl)
  (h3:(aYt rn&&apart (S'.objs.map λp=>rl rn p.1))=true:=by exact rfl):LeV β S S':=by
 simp only[Bool.and_eq_true] at h3;intro ρ hρ;refine⟨ρ.ren rn,hρ,?_⟩;unfold VS.at;refine aO _ (aZk (objs:=S.objs) (λh hh=>?_) h3.2) (bFc h3.1 h2) λk=>?_
 ·obtain⟨p,hp,rfl⟩:=List.mem_map.1 hh;have:(λp:Nat×VO=>ob S.objs (rl rn p.1)) p=(λp:Nat×VO=>some (rnO rn p.2)) p:=List.map_inj_left.1 h2 p hp;exact⟨_,this⟩
 ·rcases bOd h1 k with h|h
  ·left;rw[h];rfl
  ·right;rw[bYv h3.1,h]
section
variable{α γ:Type}{r:γ}{x y:Option γ}{g:α->Option γ}
theorem br{c:Bool}{K:Bool->Prop}(h:(bif c then x else y)=some r)(ht:x=some r->K true)(hf:y=some r->K false):OB c K:=by
 cases c with
 |true=>exact⟨ht h⟩
 |false=>exact⟨hf h⟩
theorem oi{f:α->List D}{xs:List α}{p:Int}{K:List D->Prop}(h:(idx xs p).bind g=some r)(k:∀x,g x=some r->K (f x)):bJv (xs.map f) p K:=by
 obtain⟨x,hx,h⟩:=bind_some h;exact⟨⟨_,cF f hx,k x h⟩⟩
theorem ol{f:α->List D}{xs:List α}{K:Int->Prop}(k:K xs.length):bCq (xs.map f) K:=⟨⟨xs.length,by simp,k⟩⟩
theorem oap{f:α->List D}{k0 bytes:Nat}{xs ys:List α}{g:List α->Option γ}{K:List (List D)->Prop}(h:(app bytes xs ys).bind g=some r)(k:∀zs,g zs=some r->K (zs.map f))(hk:∀x,(f x).length=k0:=by exactλ_=>rfl):bJu k0 bytes (xs.map f) (ys.map f) K:=by
 obtain⟨zs,hz,h⟩:=bind_some h;obtain⟨h1,rfl⟩:=aGi hz;refine⟨⟨_,?_,dT hk,k _ h⟩⟩;simp only[app,List.length_map,h1,if_true,List.map_append]
theorem bYn(f:α->List D){k0 bytes:Nat}{xs ys:List α}{rows:List (List D)}{g:List α->Option γ}{K:List (List D)->Prop}(h:(app bytes xs ys).bind g=some r)(k:∀zs,g zs=some r->K (zs.map f))(hk:∀x,(f x).length=k0:=by exactλ_=>rfl)(hr:rows=xs.map f:=by exact rfl):bJu k0 bytes rows (ys.map f) K:=by
 subst hr;exact oap h k hk
theorem osb{f:α->List D}{xs:List α}{lo hi:Int}{g:List α->Option γ}{K:List (List D)->Prop}(h:(sub xs lo hi).bind g=some r)(k:∀zs,g zs=some r->K (zs.map f)):bCr (xs.map f) lo hi K:=by
 obtain⟨zs,hz,h⟩:=bind_some h;exact⟨⟨_,bWw f hz,k _ h⟩⟩
theorem jg{S:VS}{m t:Nat}{ds:List Nat}{A:(VS->Prop)->Prop}{B:VS->Prop}{X:Option Bool}{g:Bool->Option γ}(h:X.bind g=some r)(ha:∀x,X=some x->A (GN S m t ds x))(hb:∀x,g x=some r->B ⟨(t,.b x)::sU ds S.env,S.objs⟩):JG S m t ds A B:=by
 obtain⟨x,hx,h⟩:=bind_some h;exact⟨⟨x,ha x hx,hb x h⟩⟩
theorem jt{S S':VS}{m t:Nat}{ds:List Nat}{v x:Bool}(h:some v=some x)(h1:aLr m S'.env=S.env:=by exact rfl)(h2:aXi (t::ds) m S'.env=true:=by exact rfl)(h3:lk S'.env t=.b v:=by exact rfl)(h4:S'.objs=S.objs:=by exact rfl):GN S m t ds x S':=by
 cases h;exact⟨h1,h2,h3,h4⟩
theorem jo{S:VS}{m t:Nat}{ds:List Nat}{A:(VS->Prop)->Prop}{B:VS->Prop}{X:Option Bool}{c:Bool}{g:Bool->Option γ}(h:X.bind g=some r)(ha:∀x,X=some x->A (GN S m t ds x))(hb:∀x,g x=some r->B ⟨(t,.b x)::sU ds S.env,S.objs⟩)(hc:c=true:=by kernel_rfl):JO c S m t ds A B:=by
 obtain⟨x,hx,h⟩:=bind_some h;exact⟨⟨hc,x,ha x hx,hb x h⟩⟩
end
theorem xlp{P:Program}{T:TT P}{n:Nat}{β:yW}{X:XP}{c:Code}{S:VS}{Q:Exit->VS->Prop}{A R:Type}{r:R}{k0:Nat}(ks hs:List Nat)(σ:A->List (Nat×AV)×List (Nat×VO))(F:Nat->A->Option R)(a0:A)(h0:F k0 a0=some r)(he:LeV β S (S.pt ks (σ a0).1 hs (σ a0).2))
  (body:∀k a,F (k+1) a=some r->S.ptK ks (σ a).1 hs (σ a).2 λS1=>yI T n β X c S1 λe S'=>match e with| .normal=>∃a',F k a'=some r/\LeV β S' (S.pt ks (σ a').1 hs (σ a').2)|e=>Q e S')(hz:∀a,F 0 a=none:=by exactλ_=>rfl):OLp T n β X c S Q:=by
 refine⟨aZd he λρ hρ=>?_⟩;refine bJn (λs:A×{ρ:Rho // ρ.β=β}=>(S.pt ks (σ s.1).1 hs (σ s.1).2).at s.2.1) (λk s=>F k s.1) r (λs=>hz s.1) ?_ k0 (a0,⟨ρ,hρ⟩) h0;rintro k ⟨a,ρ1,h1⟩ hk;refine pY (zM (cAd (body k a hk)) ρ1 h1) ?_;rintro e st ⟨S',ρ',hβ,hq,hent⟩;cases e with
 | normal=>
  obtain⟨a',ha,hl⟩:=hq;obtain⟨ρ2,h2,he2⟩:=hl ρ' hβ;exact⟨(a',⟨ρ2,h2⟩),ha,hent.trans he2⟩
 |_=>exact⟨S',ρ',hβ,hq,hent⟩
end Go.Am
end
