/- Walks by reckoning: calls. -/
import Derived.Test.YtiohgpipanopaaaGreatAmX7
namespace Go.Am
def hsD:D->List Nat
 | .hv _ h _=>[h]
 |_=>[]
def hs0:AV->List Nat
 | .d x=>hsD x
 | .agg xs=>xs.flatMap hsD
 | .bp h _ _=>[h]
 |_=>[]
def hs1:AV->List Nat
 | .tup vs=>vs.flatMap hs0
 | .fn _ vs=>vs.flatMap hs0
 |x=>hs0 x
def hsA:AV->List Nat
 | .tup vs=>vs.flatMap hs1
 | .fn _ vs=>vs.flatMap hs1
 |x=>hs0 x
def inX(objs:List (Nat×VO))(h:Nat):List Nat:=match ob objs h with
 |some (.box ds)=>ds.flatMap hsD
 |_=>[]
def aXj(objs:List (Nat×VO))(v:AV):List Nat:=hsA v++(hsA v).flatMap (inX objs)
section
variable{objs objs':List (Nat×VO)}
theorem bBj{x:D}(h:∀k∈hsD x,ob objs' k=ob objs k):vD1 objs' x=vD1 objs x:=by
 cases x with
 |hv q k j=>simp only[vD1,h k (by simp[hsD])]
 |_=>rfl
theorem aNo{xs:List D}(h:∀k∈xs.flatMap hsD,ob objs' k=ob objs k):xs.map (vD1 objs')=xs.map (vD1 objs):=
 List.map_congr_left λx hx=>bBj λk hk=>h k (List.mem_flatMap.2 ⟨x,hx,hk⟩)
theorem yL{x:AV}(h:∀k∈hs0 x,ob objs' k=ob objs k)(h2:∀k∈hs0 x,∀q∈inX objs k,ob objs' q=ob objs q):vA0 objs' x=vA0 objs x:=by
 cases x with
 |d x=>simp only[vA0];rw[bBj h]
 |agg xs=>simp only[vA0];rw[aNo h]
 | bp k o j=>
  have e:=h k (by simp[hs0]);simp only[vA0,e]
  split
  ·rename_i ds hm
   have:(ds.drop j).map (vD1 objs')=(ds.drop j).map (vD1 objs):=aNo λq hq=>h2 k (by simp[hs0]) q (by
    simp only[inX,hm];obtain⟨x,hx,hq⟩:=List.mem_flatMap.1 hq;exact List.mem_flatMap.2 ⟨x,List.mem_of_mem_drop hx,hq⟩)
   rw[this]
  ·rfl
 |_=>rfl
theorem bPy{x:AV}(h:∀k∈hs1 x,ob objs' k=ob objs k)(h2:∀k∈hs1 x,∀q∈inX objs k,ob objs' q=ob objs q):vA1 objs' x=vA1 objs x:=by
 have key:∀vs:List AV,(∀k∈vs.flatMap hs0,ob objs' k=ob objs k)->(∀k∈vs.flatMap hs0,∀q∈inX objs k,ob objs' q=ob objs q)->vs.map (vA0 objs')=vs.map (vA0 objs):=λvs h h2=>
  List.map_congr_left λx hx=>yL (λk hk=>h k (List.mem_flatMap.2 ⟨x,hx,hk⟩)) λk hk=>h2 k (List.mem_flatMap.2 ⟨x,hx,hk⟩)
 cases x with
 |tup vs=>simp only[vA1];rw[key vs h h2]
 |fn f vs=>simp only[vA1];rw[key vs h h2]
 |any=>rfl
 |d x=>exact yL (x:=.d x) h h2
 |agg x=>exact yL (x:=.agg x) h h2
 |cp x=>rfl
 |bp b o j=>exact yL (x:=.bp b o j) h h2
 |ep=>rfl
 |fl=>rfl
 |mf=>rfl
theorem bTo{x:AV}(h:∀k∈aXj objs x,ob objs' k=ob objs k):vA objs' x=vA objs x:=by
 have h1:∀k∈hsA x,ob objs' k=ob objs k:=λk hk=>h k (List.mem_append.2 (.inl hk));have h2:∀k∈hsA x,∀q∈inX objs k,ob objs' q=ob objs q:=λk hk q hq=>h q (List.mem_append.2 (.inr (List.mem_flatMap.2 ⟨k,hk,hq⟩)));have key:∀vs:List AV,(∀k∈vs.flatMap hs1,ob objs' k=ob objs k)->(∀k∈vs.flatMap hs1,∀q∈inX objs k,ob objs' q=ob objs q)->vs.map (vA1 objs')=vs.map (vA1 objs):=λvs h h2=>
  List.map_congr_left λx hx=>bPy (λk hk=>h k (List.mem_flatMap.2 ⟨x,hx,hk⟩)) λk hk=>h2 k (List.mem_flatMap.2 ⟨x,hx,hk⟩)
 cases x with
 |tup vs=>simp only[vA];rw[key vs h1 h2]
 |fn f vs=>simp only[vA];rw[key vs h1 h2]
 |any=>rfl
 |d x=>exact yL (x:=.d x) h1 h2
 |agg x=>exact yL (x:=.agg x) h1 h2
 |cp x=>rfl
 |bp b o j=>exact yL (x:=.bp b o j) h1 h2
 |ep=>rfl
 |fl=>rfl
 |mf=>rfl
end
theorem bWs{P:Program}{n:Nat}{o:Oper}{st:St}{Q:St->Prop}(h:wX st.objs->Step P n o st Q):Step P n o st Q:=
 λA M w0 a w hR=>h (aPy hR.inv.holds) A M w0 a w hR
def nlA:AV->AV->AV
 | .d (.lit (.slice none 0 0)),.d (.sl k _)=>.d (.sl k [])
 |a,_=>a
def nlL:List AV->List AV->List AV
 |a::l,b::m=>nlA a b::nlL l m
 |l,_=>l
theorem bUk(a b:AV):nlA a b=a\/(a=.d (.lit (.slice none 0 0))/\∃k,nlA a b=.d (.sl k [])):=by
 unfold nlA
 split
 ·exact .inr ⟨rfl,_,rfl⟩
 ·exact .inl rfl
theorem aYh{objs:List (Nat×VO)}{ρ:Rho}{fs:List MO}:∀{ars bs:List AV},(∀x∈ars,okA (vA objs x)=true->BV fs (ρ.av x) (vA objs x))->(nlL (ars.map (vA objs)) bs).all okA=true->BVs fs (ars.map ρ.av) (nlL (ars.map (vA objs)) bs)
 | [],_,_,_=>by
  rename_i bs
  cases bs<;>exact .nil
 | a::l,[],h,ho=>by
  simp only[List.map_cons,nlL,List.all_cons,Bool.and_eq_true] at ho|-;refine .cons (h a (by simp) ho.1) ?_;have:nlL (l.map (vA objs)) []=l.map (vA objs):=by cases l<;>rfl
  have:=aYh (ars:=l) (bs:=[]) (λx hx=>h x (by simp[hx])) (by rw[this];exact ho.2)
  rwa[show nlL (l.map (vA objs)) []=l.map (vA objs) by cases l<;>rfl] at this
 | a ::l,b::m,h,ho=>by
  simp only[List.map_cons,nlL,List.all_cons,Bool.and_eq_true] at ho|-;refine .cons ?_ (aYh (λx hx=>h x (by simp[hx])) ho.2)
  rcases bUk (vA objs a) b with he|⟨he,k,hk⟩
  ·rw[he] at ho|-;exact h a (by simp) ho.1
  ·rw [hk];have:=h a (by simp) (by rw[he];rfl);have e:a=.d (.lit (.slice none 0 0)):=by
    cases a with
    | d x=>
     cases x with
     | hv q g j=>
      simp only[vA,vA0,vD1] at he;split at he<;>cases he
     |lit v=>exact he
     |_=>cases he
    | bp b o j=>
     simp only[vA,vA0] at he;split at he
     ·cases hx:(Nat.ble j _&&_)<;>rw[hx] at he<;>cases he
     ·cases he
    |_=>cases he
   rw[e];exact .d (.nil k)
def bSe:List Nat->(List Nat->Prop)->Prop
 |[],K=>K []
 |x::l,K=>bSe l λr=>K (x::r)
theorem bOb:∀{l:List Nat} {K:List Nat->Prop},bSe l K->K l
 |[],_,h=>h
 |x::l,K,h=>bOb (K:=λr=>K (x::r)) h
def aCp(S:VS)(l:List Operand):Callee->Option (FuncId×List AV)
 | .value (.func f)=>some (f,l.map S.ev)
 | .value (.tmp t)=>match lk S.env t with
  | .fn f caps=>bif aOf caps then some (f,l.map S.ev++caps) else none
  |_=>none
 |_=>none
section
variable{P:Program}{n d:Nat}{S:VS}{ty:TypeId}{pos:String}{af:Array Edge}{gd:Option (Nat×Bool)}{K:Eff->Prop}{c:Callee}{l:List Operand}{ts:Array TypeId}{f:FuncId}{ars:List AV}
theorem aZo{S':VS}{us:List Nat}(hA:Agr (.call ⟨c,l.toArray,ts⟩) S S' us)(hc:aCp S l c=some (f,ars))(he:∀args w,(callFunc f args).run P w=.ok (.enter f args) w)(ρ:Rho):∃a0,rY P (S'.at ρ) c l f a0/\a0=ars.map ρ.av:=by
 unfold aCp at hc;have hl:∀x∈l,S'.ev x=S.ev x:=λx hx=>hA.ev x (by cases c<;>simp[Op.operands,Call.operands,hx]);split at hc
 ·cases hc;exact⟨_,.func _ _ he,aLu ρ hl⟩
 ·rename_i t
  split at hc
  ·rename_i caps ht
   cases hf:aOf caps with
   |false=>rw[hf] at hc;cases hc
   | true=>
    rw[hf] at hc;cases hc;have ht':lk S'.env t=.fn f caps:=by
     have:=hA.ev (.tmp t) (by simp[Op.operands,Call.operands]);exact this.trans ht
    refine⟨_,.clo t f (caps.map ρ.a1) l he (aBj ht'),?_⟩;rw[aLu ρ hl,List.map_append,bCu ρ hf]
  ·cases hc
 ·cases hc
theorem bRr{r:AV}(h:r.isLit=true)(ρ:Rho):ρ.av r=r:=by
 cases r with
 | d x=>cases x with
  |lit v=>rfl
  |_=>simp[AV.isLit] at h
 | tup vs=>
  simp only[AV.isLit] at h;show AV.tup _=_;rw[uA (p:=AV.one) (λx hx=>by obtain⟨v,rfl⟩:=AV.one_spec hx;rfl) h]
 |_=>simp[AV.isLit] at h
theorem bPv{ars:List AV}{objs:List (Nat×VO)}{x:AV}(hx:x∈ars){k:Nat}(hk:k∈aXj objs x):k∈ars.flatMap (aXj objs):=List.mem_flatMap.2 ⟨x,hx,hk⟩
theorem ocl{args':List AV}{r:AV}(he:∀args w,(callFunc f args).run P w=.ok (.enter f args) w)(hf:Fn P f args' r)(hd:d<n)(hc:aCp S l c=some (f,ars))(hv:nlL (ars.map (vA S.objs)) args'=args')(hok:(mW l&&args'.all okA)=true)(hl:r.isLit=true)(k:K (.r r (ars.flatMap (aXj S.objs)))):
  dH P n ⟨some d,.call ⟨c,l.toArray,ts⟩,ty,pos,af,gd⟩ S K:=by
 simp only[Bool.and_eq_true] at hok;refine fI k λS' hA ρ=>bWs λhro=>?_;obtain⟨a0,h1,h2⟩:=aZo hA hc he ρ;have e:ρ.av r=r:=bRr hl ρ;rw[e];refine fZ hd h1 h2 hok.1 ?_ hf hl;have hro':wX (S'.objs.map λp=>ρ.mo p.1 p.2):=hro;have hok2:=hok.2;rw[<-hv] at hok2|-;exact aYh (λx hx ha=>aNg ρ hro' (bTo λk hk=>hA.ob k (bPv hx hk)) ha) hok2
theorem ocd{args':List AV}{r:AV}(he:∀args w,(callFunc f args).run P w=.ok (.enter f args) w)(hf:Fn P f args' r)(hd:d<n)(hc:aCp S l c=some (f,ars))(hv:nlL ars args'=args')(hok:(mW l&&ars.all okA)=true)(hl:okR r=true)(k:K (.p r)):
  dH P n ⟨some d,.call ⟨c,l.toArray,ts⟩,ty,pos,af,gd⟩ S K:=by
 simp only[Bool.and_eq_true] at hok;refine⟨⟨_,k,λS' hA _ ρ=>?_⟩⟩;obtain⟨a0,h1,h2⟩:=aZo hA hc he ρ;rw[uA (λx=>bOo ρ (x:=x)) hok.2] at h2;have hb:BVs [] ars args':=by
  rw [<-hv];have key:∀{ars bs:List AV},BVs [] ars (nlL ars bs):=by
   intro ars
   induction ars with
   |nil=>intro bs;cases bs<;>exact .nil
   | cons a l ih=>
    intro bs;cases bs with
    |nil=>exact BVs.refl _ _
    | cons b m=>
     refine .cons ?_ ih
     rcases bUk a b with he|⟨he,k,hk⟩
     ·rw[he];exact .same _
     ·rw[hk,he];exact .d (.nil k)
  exact key
 exact kV (bSw hd h1 h2 hok.1 hb hf) λs hs=>⟨ρ,rfl,hs▸bRc (S:=S') hl⟩
section
variable{α γ:Type}{sh:Option α}{r:γ}{g:α->Option γ}{enc:α->AV}{args':List AV}
theorem cl(he:∀args w,(callFunc f args).run P w=.ok (.enter f args) w)(hf:∀x,sh=some x->Fn P f args' (enc x))(h:sh.bind g=some r)(k:∀x,g x=some r->bSe (ars.flatMap (aXj S.objs)) λus=>K (.r (enc x) us))
  (hc:aCp S l c=some (f,ars):=by exact rfl)(hv:nlL (ars.map (vA S.objs)) args'=args':=by exact rfl)(hok:(Nat.ble (d+1) n&&(mW l&&args'.all okA))=true:=by exact rfl)(hl:∀x,(enc x).isLit=true:=by exactλ_=>rfl):
  dH P n ⟨some d,.call ⟨c,l.toArray,ts⟩,ty,pos,af,gd⟩ S K:=by
 obtain⟨x,hx,h⟩:=bind_some h;simp only[Bool.and_eq_true] at hok;exact ocl he (hf x hx) (Nat.le_of_ble_eq_true hok.1) hc hv (by simp only[Bool.and_eq_true];exact hok.2) (hl x) (bOb (K:=λus=>K (.r (enc x) us)) (k x h))
theorem cd(he:∀args w,(callFunc f args).run P w=.ok (.enter f args) w)(hf:∀x,sh=some x->Fn P f args' (enc x))(h:sh.bind g=some r)(k:∀x,g x=some r->K (.p (enc x)))
  (hc:aCp S l c=some (f,ars):=by exact rfl)(hv:nlL ars args'=args':=by exact rfl)(hok:(Nat.ble (d+1) n&&(mW l&&ars.all okA))=true:=by exact rfl)(hl:∀x,okR (enc x)=true:=by exactλ_=>rfl):
  dH P n ⟨some d,.call ⟨c,l.toArray,ts⟩,ty,pos,af,gd⟩ S K:=by
 obtain⟨x,hx,h⟩:=bind_some h;simp only[Bool.and_eq_true] at hok;exact ocd he (hf x hx) (Nat.le_of_ble_eq_true hok.1) hc hv (by simp only[Bool.and_eq_true];exact hok.2) (hl x) (k x h)
end
end
section
variable{α γ:Type}{r:γ}
theorem onz{q:Int}{p:Prop}{g:Unit->Option γ}(h:(chk (!decide (q=0))).bind g=some r)(k:g ()=some r->p):q≠0/\p:=by
 obtain⟨u,hu,h⟩:=bind_some h;exact⟨bZy hu,k h⟩
theorem oge{q:Int}{p:Prop}{g:Unit->Option γ}(h:(chk (decide (0<=q))).bind g=some r)(k:g ()=some r->p):0<=q/\p:=by
 obtain⟨u,hu,h⟩:=bind_some h;exact⟨aIm hu,k h⟩
theorem omk(f:α->List D){bytes:Nat}{z:α}{zs:List D}{m m':Int}{g:List α->Option γ}{K:List (List D)->Prop}(h:(mk bytes m z).bind g=some r)(k:∀x,g x=some r->K (x.map f))(hz:f z=zs:=by exact rfl)(hm:m=m':=by exact rfl):OMk bytes zs m m' K:=by
 obtain⟨x,hx,h⟩:=bind_some h;subst hz;exact⟨⟨hm,_,bEp f hx,k x h⟩⟩
theorem oiy{f:α->List D}{g:α->Option γ}{xs:List α}{p:Int}{K:List D->Prop}(h:(idx xs p).bind g=some r)(k:∀x,idx xs p=some x->g x=some r->K (f x)):bJv (xs.map f) p K:=by
 obtain⟨x,hx,h⟩:=bind_some h;exact⟨⟨_,cF f hx,k x hx h⟩⟩
end
section
variable{P:Program}{n d:Nat}{S:VS}{ty:TypeId}{pos:String}{af:Array Edge}{gd:Option (Nat×Bool)}{K:Eff->Prop}{x y:Operand}{t u:TypeId}
theorem bYo{α:Type}[DecidableEq α]{enc:α->List D}{a b:α}(hg:P.eqGuardType P.depth t=false)(he:aOc P t enc)(k:K (.p (.b (decide (a=b)))))(hx:S.ev x=.agg (enc a):=by exact rfl)(hy:S.ev y=.agg (enc b):=by exact rfl)
  (hl:(Nat.ble (d+1) n&&(eZ (enc a)&&eZ (enc b)))=true:=by exact rfl)(hv:(enc a++enc b).any hvD=false:=by exact rfl):dH P n ⟨some d,.binOp .eql t x y u,ty,pos,af,gd⟩ S K:=by
 simp only[Bool.and_eq_true] at hl;rw[List.any_append,Bool.or_eq_false_iff] at hv;refine fI (us:=[]) k λS' hA ρ=>?_;have h1:=evS (ρ:=ρ) hA (by simp[Op.operands]) hx;have h2:=evS (ρ:=ρ) hA (by simp[Op.operands]) hy;have e1:ρ.av (.agg (enc a))=.agg (enc a):=by show AV.agg _=_;rw[aHb ρ hv.1]
 have e2:ρ.av (.agg (enc b))=.agg (enc b):=by show AV.agg _=_;rw[aHb ρ hv.2]
 exact bUn (Nat.le_of_ble_eq_true hl.1) (h1.trans e1) (h2.trans e2) hl.2.1 hl.2.2 hg he
theorem cAq{a b:Bool}(ht:P.underlying t=some .bool)(k:K (.p (.b (decide (a=b)))))(hx:S.ev x=.b a:=by exact rfl)(hy:S.ev y=.b b:=by exact rfl)(hl:Nat.ble (d+1) n=true:=by exact rfl):dH P n ⟨some d,.binOp .eql t x y u,ty,pos,af,gd⟩ S K:=
 fI (us:=[]) k λ_ hA _=>cAf (Nat.le_of_ble_eq_true hl) (evS hA (by simp[Op.operands]) hx) (evS hA (by simp[Op.operands]) hy) ht
theorem bSm{a b:Bool}(ht:P.underlying t=some .bool)(k:K (.p (.b (!decide (a=b)))))(hx:S.ev x=.b a:=by exact rfl)(hy:S.ev y=.b b:=by exact rfl)(hl:Nat.ble (d+1) n=true:=by exact rfl):dH P n ⟨some d,.binOp .neq t x y u,ty,pos,af,gd⟩ S K:=
 fI (us:=[]) k λ_ hA _=>cAg (Nat.le_of_ble_eq_true hl) (evS hA (by simp[Op.operands]) hx) (evS hA (by simp[Op.operands]) hy) ht
theorem bZz{p q:Int}(k:K (.p (.i (bQm p q))))(hx:S.ev x=.i p:=by exact rfl)(hy:S.ev y=.i q:=by exact rfl)(hl:Nat.ble (d+1) n=true:=by exact rfl):dH P n ⟨some d,.binOp .and t x y u,ty,pos,af,gd⟩ S K:=
 fI (us:=[]) k λ_ hA _=>aKq (Nat.le_of_ble_eq_true hl) (evS hA (by simp[Op.operands]) hx) (evS hA (by simp[Op.operands]) hy) (.inl ⟨rfl,rfl⟩)
theorem cAa{p q:Int}(k:K (.p (.i (aSn p q))))(hx:S.ev x=.i p:=by exact rfl)(hy:S.ev y=.i q:=by exact rfl)(hl:Nat.ble (d+1) n=true:=by exact rfl):dH P n ⟨some d,.binOp .xor t x y u,ty,pos,af,gd⟩ S K:=
 fI (us:=[]) k λ_ hA _=>aKq (Nat.le_of_ble_eq_true hl) (evS hA (by simp[Op.operands]) hx) (evS hA (by simp[Op.operands]) hy) (.inr (.inr ⟨rfl,rfl⟩))
theorem bLf{k0:IntKind}{p q:Int}{ts:Array TypeId}(k:K (.p (.d (.lit (.int k0 (min p q))))))(hx:S.ev x=.d (.lit (.int k0 p)):=by exact rfl)(hy:S.ev y=.d (.lit (.int k0 q)):=by exact rfl)(hl:Nat.ble (d+1) n=true:=by exact rfl):
  dH P n ⟨some d,.call {callee:=.builtin .min,args:= #[x,y],argTypes:=ts},ty,pos,af,gd⟩ S K:=
 fI (us:=[]) k λ_ hA _=>bUp (Nat.le_of_ble_eq_true hl) (evS hA (by simp[Op.operands,Call.operands]) hx) (evS hA (by simp[Op.operands,Call.operands]) hy)
end
end Go.Am
