/- Walks by reckoning: what is read as data. -/
import Derived.Test.YtiohgpipanopaaaGreatAmX4
namespace Go.Am
def okD:D->Bool
 | .hv .. =>false
 |_=>true
def vD1(objs:List (Nat×VO)):D->D
 | .hv q h j=>match q,ob objs h with
  |0,some (.arr _ k rows)=>.sl k rows
  |_,_=>.hv q h j
 |x=>x
def vA0(objs:List (Nat×VO)):AV->AV
 | .d x=>.d (vD1 objs x)
 | .agg xs=>.agg (xs.map (vD1 objs))
 | .bp h o j=>match ob objs h with
  |some (.box ds)=>bif Nat.ble j ds.length&&((ds.drop j).map (vD1 objs)).all okD then .cp ((ds.drop j).map (vD1 objs)) else .bp h o j
  |_=>.bp h o j
 |x=>x
def vA1(objs:List (Nat×VO)):AV->AV
 | .tup vs=>.tup (vs.map (vA0 objs))
 | .fn f vs=>.fn f (vs.map (vA0 objs))
 |x=>vA0 objs x
def vA(objs:List (Nat×VO)):AV->AV
 | .tup vs=>.tup (vs.map (vA1 objs))
 | .fn f vs=>.fn f (vs.map (vA1 objs))
 |x=>vA0 objs x
def ok0:AV->Bool
 | .d x=>okD x
 | .agg xs=>xs.all okD
 | .bp .. =>false
 | .ep .. =>false
 |_=>true
def ok1:AV->Bool
 | .tup vs=>vs.all ok0
 | .fn _ vs=>vs.all ok0
 | .mf _ vs=>vs.all ok0
 |x=>ok0 x
def okA:AV->Bool
 | .tup vs=>vs.all ok1
 | .fn _ vs=>vs.all ok1
 | .mf _ vs=>vs.all ok1
 |x=>ok0 x
def wX(objs:List MO):Prop:=∀v e k rows,MO.arr v e k rows∈objs->∀r∈rows,r.length=k
theorem aPy{w:World}{X:bH}{objs:List MO}(h:∀m∈objs,m.holds w X):wX objs:=λv e k rows hm=>by
 obtain⟨_,_,_,hr⟩:=h _ hm;exact hr
theorem uA{α:Type}{f:α->α}{p:α->Bool}(hp:∀x,p x=true->f x=x):∀{l:List α},l.all p=true->l.map f=l
 |[],_=>rfl
 | x::l,h=>by
  simp only[List.all_cons,Bool.and_eq_true] at h;rw[List.map_cons,hp x h.1,uA hp h.2]
section
variable(ρ:Rho)
theorem bEx{x:D}(h:okD x=true):ρ.dd x=x:=by cases x<;>first|rfl|simp[okD] at h
theorem yC{x:AV}(h:ok0 x=true):ρ.a0 x=x:=by
 cases x with
 |d x=>simp only[Rho.a0,bEx ρ (show okD x=true from h)]
 |agg xs=>simp only[Rho.a0,uA (λx=>bEx ρ (x:=x)) h]
 |bp=>simp[ok0] at h
 |ep=>simp[ok0] at h
 |_=>rfl
theorem bEw{x:AV}(h:ok1 x=true):ρ.a1 x=x:=by
 cases x with
 |tup vs=>simp only[Rho.a1,uA (λx=>yC ρ (x:=x)) h]
 |fn f vs=>simp only[Rho.a1,uA (λx=>yC ρ (x:=x)) h]
 |mf f vs=>simp only[Rho.a1,uA (λx=>yC ρ (x:=x)) h]
 |any=>rfl
 |d x=>exact yC ρ (x:=.d x) h
 |agg x=>exact yC ρ (x:=.agg x) h
 |cp x=>rfl
 |bp b o j=>exact yC ρ (x:=.bp b o j) h
 |ep v k i c=>exact yC ρ (x:=.ep v k i c) h
 |fl=>rfl
theorem bOo{x:AV}(h:okA x=true):ρ.av x=x:=by
 cases x with
 |tup vs=>simp only[Rho.av,uA (λx=>bEw ρ (x:=x)) h]
 |fn f vs=>simp only[Rho.av,uA (λx=>bEw ρ (x:=x)) h]
 |mf f vs=>simp only[Rho.av,uA (λx=>bEw ρ (x:=x)) h]
 |any=>rfl
 |d x=>exact yC ρ (x:=.d x) h
 |agg x=>exact yC ρ (x:=.agg x) h
 |cp x=>rfl
 |bp b o j=>exact yC ρ (x:=.bp b o j) h
 |ep v k i c=>exact yC ρ (x:=.ep v k i c) h
 |fl=>rfl
variable{objs:List (Nat×VO)}
theorem bOm{h:Nat}{m:VO}(hm:ob objs h=some m):ρ.mo h m∈objs.map λp=>ρ.mo p.1 p.2:=by
 obtain⟨i,hi,_⟩:=aQu (ρ:=ρ) hm;exact List.mem_of_getElem? hi
theorem bGm(hr:wX (objs.map λp=>ρ.mo p.1 p.2))(x:D):DV (objs.map λp=>ρ.mo p.1 p.2) (ρ.dd x) (ρ.dd (vD1 objs x)):=by
 cases x with
 | hv q h j=>
  simp only[vD1]
  split
  ·rename_i hm
   have hmem:=bOm ρ hm;exact .arr _ _ _ _ _ hmem rfl (hr _ _ _ _ hmem) λ_ _ _ _=>.same _
  ·exact .same _
 |_=>exact .same _
theorem aXy{fs:List MO}{f g:D->D}(h:∀x,DV fs (f x) (g x)):∀l:List D,DVs fs (l.map f) (l.map g)
 |[]=>trivial
 |x::l=>⟨h x,aXy h l⟩
theorem aEq(hr:wX (objs.map λp=>ρ.mo p.1 p.2))(x:AV):BV (objs.map λp=>ρ.mo p.1 p.2) (ρ.a0 x) (ρ.a0 (vA0 objs x)):=by
 cases x with
 |d x=>exact .d (bGm ρ hr x)
 | agg xs=>
  have:=aXy (bGm ρ hr) xs;simp only[Rho.a0,vA0,List.map_map];exact .agg this
 | bp h o j=>
  simp only[vA0]
  split
  ·rename_i ds hm
   have hmem:=bOm ρ hm;cases hj:(Nat.ble j ds.length&&((ds.drop j).map (vD1 objs)).all okD) with
   |false=>exact .same _
   | true=>
    simp only[Bool.and_eq_true] at hj;refine .bp _ _ j (ds.map ρ.dd) _ hmem (by simpa using Nat.le_of_ble_eq_true hj.1) ?_;have h1:=aXy (bGm ρ hr) (ds.drop j);have h2:((ds.drop j).map (vD1 objs)).map ρ.dd=(ds.drop j).map (vD1 objs):=uA (λx=>bEx ρ (x:=x)) hj.2;rw[<-List.map_drop,<-h2,List.map_map];exact h1
  ·exact .same _
 |_=>exact .same _
theorem aJw{fs:List MO}{f g:AV->AV}(h:∀x,BV fs (f x) (g x)):∀l:List AV,BVs fs (l.map f) (l.map g)
 |[]=>.nil
 |x::l=>.cons (h x) (aJw h l)
theorem bPw(b o j:Nat):ρ.a1 (vA0 objs (.bp b o j))=ρ.a0 (vA0 objs (.bp b o j))/\ρ.av (vA0 objs (.bp b o j))=ρ.a0 (vA0 objs (.bp b o j)):=by
 simp only[vA0]
 split
 ·cases(Nat.ble j _&&_)<;>exact⟨rfl,rfl⟩
 ·exact⟨rfl,rfl⟩
theorem bPx(hr:wX (objs.map λp=>ρ.mo p.1 p.2))(x:AV):BV (objs.map λp=>ρ.mo p.1 p.2) (ρ.a1 x) (ρ.a1 (vA1 objs x)):=by
 cases x with
 | tup vs=>
  simp only[Rho.a1,vA1,List.map_map];exact xE (aJw (aEq ρ hr) vs)
 | fn f vs=>
  simp only[Rho.a1,vA1,List.map_map];exact aQm (aJw (aEq ρ hr) vs)
 |mf f vs=>exact .same _
 |any=>exact .same _
 |d x=>exact aEq ρ hr (.d x)
 |agg x=>exact aEq ρ hr (.agg x)
 |cp x=>exact .same _
 |bp b o j=>exact(bPw ρ b o j).1▸aEq ρ hr (.bp b o j)
 |ep v k i c=>exact .same _
 |fl=>exact .same _
theorem bUt(hr:wX (objs.map λp=>ρ.mo p.1 p.2))(x:AV):BV (objs.map λp=>ρ.mo p.1 p.2) (ρ.av x) (ρ.av (vA objs x)):=by
 cases x with
 | tup vs=>
  simp only[Rho.av,vA,List.map_map];exact xE (aJw (bPx ρ hr) vs)
 | fn f vs=>
  simp only[Rho.av,vA,List.map_map];exact aQm (aJw (bPx ρ hr) vs)
 |mf f vs=>exact .same _
 |any=>exact .same _
 |d x=>exact aEq ρ hr (.d x)
 |agg x=>exact aEq ρ hr (.agg x)
 |cp x=>exact .same _
 |bp b o j=>exact(bPw ρ b o j).2▸aEq ρ hr (.bp b o j)
 |ep v k i c=>exact .same _
 |fl=>exact .same _
theorem aNg(hr:wX (objs.map λp=>ρ.mo p.1 p.2)){x y:AV}(h:vA objs x=y)(hy:okA y=true):BV (objs.map λp=>ρ.mo p.1 p.2) (ρ.av x) y:=by
 have:=bUt ρ hr x;rw[h,bOo ρ hy] at this;exact this
end
def goO(hs:List Nat):List (Nat×VO)->List (Nat×VO)
 |[]=>[]
 |p::l=>bif bG p.1 hs then p::goO hs l else goO hs l
def stO(hs:List Nat):List (Nat×VO)->List (Nat×VO)
 |[]=>[]
 |p::l=>bif bG p.1 hs then stO hs l else p::stO hs l
def goK(hs:List Nat):List (Nat×VO)->(List (Nat×VO)->List (Nat×VO)->Prop)->Prop
 |[],K=>K [] []
 |p::l,K=>goK hs l λa b=>bif bG p.1 hs then K (p::a) b else K a (p::b)
theorem bUg{hs:List Nat}:∀{l:List (Nat×VO)} {K:List (Nat×VO)->List (Nat×VO)->Prop},goK hs l K->K (goO hs l) (stO hs l)
 |[],_,h=>h
 | p::l,K,h=>by
  have:=bUg (K:=λa b=>bif bG p.1 hs then K (p::a) b else K a (p::b)) h;simp only[goO,stO];cases hb:bG p.1 hs with
  |true=>rw[hb] at this;exact this
  |false=>rw[hb] at this;exact this
theorem aYb{hs:List Nat}{f:Nat×VO->MO}:∀{l:List (Nat×VO)},(l.map f).Perm ((stO hs l).map f++(goO hs l).map f)
 |[]=>.refl _
 | p::l=>by
  simp only[goO,stO];cases bG p.1 hs with
  | true=>
   simp only[cond_true,List.map_cons];exact(List.Perm.cons _ aYb).trans List.perm_middle.symm
  | false=>
   simp only[cond_false,List.map_cons,List.cons_append];exact .cons _ aYb
def bEh(go:List (Nat×VO)):List (Nat×AV)->(List (Nat×AV)->Prop)->Prop
 |[],K=>K []
 |p::l,K=>frc (vA go p.2) λv=>bEh go l λr=>K ((p.1,v)::r)
theorem bNy{go:List (Nat×VO)}:∀{l:List (Nat×AV)} {K:List (Nat×AV)->Prop},bEh go l K->K (l.map λp=>(p.1,vA go p.2))
 |[],_,h=>h
 |p::l,K,h=>bNy (K:=λr=>K ((p.1,vA go p.2)::r)) (zR (K:=λv=>bEh go l λr=>K ((p.1,v)::r)) h)
def bSc(hs:List Nat)(S:VS)(K:VS->Prop):Prop:=goK hs S.objs λgo st=>bEh go S.env λenv=>K ⟨env,st⟩
def bSd(hs:List Nat)(S:VS):VS:=⟨S.env.map λp=>(p.1,vA (goO hs S.objs) p.2),stO hs S.objs⟩
theorem bNz{hs:List Nat}{S:VS}{K:VS->Prop}(h:bSc hs S K):K (bSd hs S):=
 bNy (K:=λenv=>K ⟨env,stO hs S.objs⟩) (bUg (K:=λgo st=>bEh go S.env λenv=>K ⟨env,st⟩) h)
theorem bOa{f:AV->AV}(hf:f .any=.any){k:Nat}:∀{l:List (Nat×AV)},lk (l.map λp=>(p.1,f p.2)) k=f (lk l k)
 |[]=>hf.symm
 | p::l=>by
  simp only[List.map_cons,lk];cases Nat.beq p.1 k with
  |true=>rfl
  |false=>exact bOa hf
theorem bEi{hs:List Nat}{S:VS}(ρ:Rho):Ent (S.at ρ) ((bSd hs S).at ρ):=λA M w0 n a w hR=>by
 have hp:=aYb (hs:=hs) (f:=λp=>ρ.mo p.1 p.2) (l:=S.objs);have hr:wX ((goO hs S.objs).map λp=>ρ.mo p.1 p.2):=λv e k rows hm=>aPy hR.inv.holds v e k rows (hp.mem_iff.2 (List.mem_append.2 (.inr hm)));refine oS (env:=(S.at ρ).env) (env':=((bSd hs S).at ρ).env) hp (λk=>?_) A M w0 n a w hR;show BV _ (ρ.av (lk S.env k)) (ρ.av (lk (S.env.map λp=>(p.1,vA (goO hs S.objs) p.2)) k));rw[bOa rfl];exact bUt ρ hr _
def lkL:List (Nat×List Nat)->Nat->List Nat
 |[],_=>[]
 |p::l,k=>bif Nat.beq p.1 k then p.2 else lkL l k
end Go.Am
