/- Walks by reckoning: what an operation does to a state with handles. -/
import Derived.Test.YtiohgpipanopaaaGreatAmX1
import Derived.KernelRfl
namespace Go.Am
inductive Tr'(α:Type)(R:Nat->α->Prop) where
 |l
 |n (a:Tr' α R) (k:Nat) (d:α) (h:R k d) (b:Tr' α R)
def Tr'.get{α:Type}{R:Nat->α->Prop}:Tr' α R->Nat->Option α
 | .l,_=>none
 | .n a k d _ b,t=>bif Nat.beq k t then some d else bif Nat.ble t k then a.get t else b.get t
theorem Tr'.ok{α:Type}{R:Nat->α->Prop}:∀{T:Tr' α R} {t:Nat} {d:α},T.get t=some d->R t d
 | .l,_,_,h=>by cases h
 | .n a k d h0 b,t,d',h=>by
  simp only[Tr'.get] at h;cases hb:Nat.beq k t with
  |true=>rw[hb] at h;simp at h;subst h;exact Nat.eq_of_beq_eq_true hb▸h0
  | false=>
   rw[hb] at h;cases hc:Nat.ble t k with
   |true=>rw[hc] at h;exact Tr'.ok (by simpa using h)
   |false=>rw[hc] at h;exact Tr'.ok (by simpa using h)
structure TE where
 size:Nat
 bytes:Nat
def TyR(P:Program)(t:Nat)(p:TE×TypeDesc):Prop:=(∃i,P.info? t=some i/\i.size=p.1.size/\i.bytes=p.1.bytes/\∃z,i.zero=some z/\z.cells.size=p.1.size)/\P.underlying t=some p.2
theorem ti{P:Program}{t:Nat}(i:TypeInfo){e:TE}{td:TypeDesc}{z:Value}(h2:P.underlying t=some td)(h:P.info? t=some i:=by kernel_rfl)(hz:i.zero=some z:=by exact rfl)(h3:z.cells.size=e.size:=by exact rfl)(hs:i.size=e.size:=by exact rfl)(hb:i.bytes=e.bytes:=by exact rfl):TyR P t (e,td):=
 ⟨⟨i,h,hs,hb,z,hz,h3⟩,h2⟩
structure TT(P:Program) where
 ty:Tr' (TE×TypeDesc) (TyR P)
 zr:Tr' (List D) λt zs=>∃z,(∀w,(zeroValue t).run P w=.ok z w)/\z.cells=(zs.map bA).toArray/\zOK zs=true
 mix:P.follows .mixedOrders=true
section facts
variable{P:Program}{T:TT P}{t e:Nat}{i j:TE}{td:TypeDesc}
theorem aDh(h:T.ty.get t=some (i,td))(w:World):(sizeOf t).run P w=.ok i.size w:=by
 obtain⟨ii,h1,h2,_⟩:=(Tr'.ok h).1;simp only at h2
 simp[sizeOf,typeInfo,h1,h2]
def aGh:TypeDesc->Bool
 | .struct _=>true
 | .array _ _=>true
 |_=>false
theorem bPu(h:T.ty.get t=some (i,td))(w:World):(isAgg t).run P w=.ok (aGh td) w:=by
 have h2:=run_underlying (Tr'.ok h).2 w;simp only at h2;unfold isAgg;simp only[Sem.run_bind,h2,Result.andThen_ok];cases td<;>rfl
theorem aNd{m:Nat}(h:T.ty.get t=some (i,td))(ha:aGh td=true)(hs:i.size=m):kL P t m:=⟨λw=>ha▸bPu h w,λw=>hs▸aDh h w⟩
theorem aNe(h:T.ty.get t=some (i,td))(ha:aGh td=false)(hs:i.size=1):iF P t:=⟨λw=>ha▸bPu h w,λw=>hs▸aDh h w⟩
theorem bTn{fs:Array Field}{f:Nat}{fd:Field}(h:T.ty.get t=some (i,.struct fs))(hf:fs.toList[f]?=some fd)(h2:T.ty.get fd.type=some (j,td))(hp:Nat.ble 1 j.size=true):cK P t f fd.offset:=by
 obtain⟨m,hm⟩:∃m,j.size=m+1:=⟨j.size-1,by have:=Nat.le_of_ble_eq_true hp;omega⟩;exact cE (λw=>run_underlying (Tr'.ok h).2 w) (by simpa using hf) rfl (λw=>hm▸aDh h2 w)
theorem aNf{k:Nat}(h:T.ty.get t=some (i,.slice e))(h2:T.ty.get e=some (j,td))(hk:j.size=k)(hp:Nat.ble 1 k=true):∃z,SliceTy P t e k j.bytes z:=by
 obtain⟨ii,h3,h4,h5,z,h6,h7⟩:=(Tr'.ok h2).1;simp only at h4 h5 h7;exact⟨z,(Tr'.ok h).2,⟨ii,h3,h6,h4.trans hk,h5⟩,h7.trans hk,Nat.le_of_ble_eq_true hp⟩
end facts
structure Agr(o:Op)(S S':VS)(us:List Nat):Prop where
 ev:∀x∈o.operands.toList,S'.ev x=S.ev x
 ob:∀h∈us,ob S'.objs h=ob S.objs h
def pO(P:Program)(n:Nat)(o:Oper)(S:VS)(e:Eff):Prop:=
 ∀S',Agr o.op S S' e.us->(∀h∈e.nw,pI h S'=false/\Nat.ble 100000 h=false)->∀ρ,Step P n o (S'.at ρ) (λst=>∃ρ':Rho,ρ'.β=ρ.β/\Ent st ((S'.app o.dst e).at ρ'))
structure dH(P:Program)(n:Nat)(o:Oper)(S:VS)(K:Eff->Prop):Prop where
 h:∃e,K e/\pO P n o S e
theorem kV{P:Program}{n:Nat}{o:Oper}{st:St}{Q Q':St->Prop}(h:Step P n o st Q)(hq:∀s,Q s->Q' s):Step P n o st Q':=
 λA M w0 a w hR K R hK=>h A M w0 a w hR K R λs a' w' hs hR'=>hK s a' w' (hq s hs) hR'
theorem aIk{a b:St}(h:a=b):Ent a b:=h▸Ent.refl a
section lift
variable{P:Program}{n d:Nat}{S:VS}{us:List Nat}{op:Op}{ty:TypeId}{pos:String}{af:Array Edge}{gd:Option (Nat×Bool)}
theorem bUq{v:AV}(h:∀S',Agr op S S' us->∀ρ,bB P n ⟨some d,op,ty,pos,af,gd⟩ (S'.at ρ) ((S'.at ρ).set d (ρ.av v))):pO P n ⟨some d,op,ty,pos,af,gd⟩ S (.r v us):=
 λS' hA _ ρ=>kV (h S' hA ρ) λs hs=>⟨ρ,rfl,aIk (hs.trans (at_set S' d v))⟩
theorem aLt{env:Nat->AV}{objs objs':List MO}(h:objs.Perm objs'):Ent ⟨env,objs⟩ ⟨env,objs'⟩:=oS (gone:=[]) (by simpa using h) λ_=>.same _
theorem aYy{ds:List D}(ho:ds.any (aHe d)=false)(h:∀S',Agr op S S' us->∀ρ,Step P n ⟨some d,op,ty,pos,af,gd⟩ (S'.at ρ) (λs=>∃b,s=(S'.at ρ).setadd d (.bp b 0 0) (.box b 0 (ds.map ρ.dd)))):
  pO P n ⟨some d,op,ty,pos,af,gd⟩ S ⟨.bp d 0 0,[(d,some (.box ds))],us,[d]⟩:=by
 intro S' hA hn ρ;obtain⟨hf,hl⟩:=hn d (by simp);refine kV (h S' hA ρ) ?_;rintro s ⟨b,rfl⟩;have H:=bSl (ρ:=ρ) (h:=d) b 0;refine⟨ρ.setB d b 0,rfl,aIk ?_⟩;obtain⟨e1,e2⟩:=bWo (ρ:=ρ) hl b 0;have h1:=H.at hf;have h2:=at_set (ρ:=ρ.setB d b 0) S' d (.bp d 0 0);simp only[VS.app,chg,aHn _ (aIp hf)];have hh:(ρ.setB d b 0).av (.bp d 0 0)=.bp b 0 0:=by simp only[Rho.av,Rho.a0,e1,e2]
 rw[h1,hh] at h2;have h3:(VS.mk ((d,AV.bp d 0 0)::S'.env) (S'.objs++[(d,VO.box ds)])).at (ρ.setB d b 0)=(St.mk ((VS.mk ((d,AV.bp d 0 0)::S'.env) S'.objs).at (ρ.setB d b 0)).env (((VS.mk ((d,AV.bp d 0 0)::S'.env) S'.objs).at (ρ.setB d b 0)).objs++[(ρ.setB d b 0).mo d (.box ds)])):=by
  simp[VS.at]
 rw[h3,<-h2];simp only[St.setadd,St.set,Rho.mo,e1,e2,sC (λx=>H.dd (x:=x)) ho]
theorem aYx{e k:Nat}{rows:List (List D)}(h:∀S',Agr op S S' us->∀ρ,Step P n ⟨some d,op,ty,pos,af,gd⟩ (S'.at ρ) (λs=>∃v,s=(S'.at ρ).setadd d (.d (.lit v)) (.arr v e k rows))):
  pO P n ⟨some d,op,ty,pos,af,gd⟩ S ⟨.d (.hv 0 d 0),[(d,some (.arr e k rows))],us,[d]⟩:=by
 intro S' hA hn ρ;obtain⟨hf,hl⟩:=hn d (by simp);refine kV (h S' hA ρ) ?_;rintro s ⟨v,rfl⟩;have H:=aMp (ρ:=ρ) (h:=d) v;refine⟨ρ.setS d v,rfl,aIk ?_⟩;have e1:=aQz (ρ:=ρ) hl v;have h1:=H.at hf;have h2:=at_set (ρ:=ρ.setS d v) S' d (.d (.hv 0 d 0));simp only[VS.app,chg,aHn _ (aIp hf)];have hh:(ρ.setS d v).av (.d (.hv 0 d 0))=.d (.lit v):=by simp only[Rho.av,Rho.a0,Rho.dd,e1]
 rw[h1,hh] at h2;have h3:(VS.mk ((d,AV.d (.hv 0 d 0))::S'.env) (S'.objs++[(d,VO.arr e k rows)])).at (ρ.setS d v)=(St.mk ((VS.mk ((d,AV.d (.hv 0 d 0))::S'.env) S'.objs).at (ρ.setS d v)).env (((VS.mk ((d,AV.d (.hv 0 d 0))::S'.env) S'.objs).at (ρ.setS d v)).objs++[(ρ.setS d v).mo d (.arr e k rows)])):=by
  simp[VS.at]
 rw[h3,<-h2];simp only[St.setadd,St.set,Rho.mo,e1]
theorem bJd{h:Nat}{m m':VO}(hm:ob S.objs h=some m)(hu:h∈us)(hs:∀S',Agr op S S' us->∀(ρ:Rho) i,(S'.at ρ).objs[i]?=some (ρ.mo h m)->bB P n ⟨none,op,ty,pos,af,gd⟩ (S'.at ρ) ((S'.at ρ).put1 i (ρ.mo h m'))):
  pO P n ⟨none,op,ty,pos,af,gd⟩ S ⟨.any,[(h,some m')],us,[]⟩:=by
 intro S' hA _ ρ;obtain⟨i,h1,h2,_⟩:=aQu (ρ:=ρ) ((hA.ob h hu).trans hm);refine kV (hs S' hA ρ i h1) ?_;rintro s rfl;refine⟨ρ,rfl,aIk ?_⟩;simp only[VS.app,chg,VS.at,St.put1,h2]
theorem aLj{h k:Nat}:∀{objs:List (Nat×VO)},objs.any (λp=>Nat.beq p.1 h||aCx h p.2)=false->(sW k objs).any (λp=>Nat.beq p.1 h||aCx h p.2)=false
 |[],_=>rfl
 | p::l,hn=>by
  simp only[List.any_cons,Bool.or_eq_false_iff] at hn;simp only[sW];cases Nat.beq p.1 k with
  |true=>exact hn.2
  | false=>
   simp only[cond_false,List.any_cons,Bool.or_eq_false_iff];exact⟨hn.1,aLj hn.2⟩
theorem bTe{h e k:Nat}{rows rows':List (List D)}(hm:ob S.objs h=some (.arr e k rows))(hu:h∈us)
  (hs:∀S',Agr op S S' us->∀(ρ:Rho) i,(S'.at ρ).objs[i]?=some (.arr (ρ.ss h) e k rows)->Step P n ⟨some d,op,ty,pos,af,gd⟩ (S'.at ρ) (λs=>∃v,s=(S'.at ρ).setput d (.d (.lit v)) i (.arr v e k rows'))):
  pO P n ⟨some d,op,ty,pos,af,gd⟩ S ⟨.d (.hv 0 d 0),[(h,none),(d,some (.arr e k rows'))],us,[d]⟩:=by
 intro S' hA hn ρ;obtain⟨hf,hl⟩:=hn d (by simp);have hm':=(hA.ob h hu).trans hm;obtain⟨i,h1,_,h4⟩:=aQu (ρ:=ρ) hm';refine kV (hs S' hA ρ i h1) ?_;rintro s ⟨v,rfl⟩;have H:=aMp (ρ:=ρ) (h:=d) v;refine⟨ρ.setS d v,rfl,?_⟩;have e1:=aQz (ρ:=ρ) hl v;have h1':=H.at hf;have h2:=at_set (ρ:=ρ.setS d v) S' d (.d (.hv 0 d 0));have hh:(ρ.setS d v).av (.d (.hv 0 d 0))=.d (.lit v):=by simp only[Rho.av,Rho.a0,Rho.dd,e1]
 rw [h1',hh] at h2;have h5:(St.set (S'.at ρ) d (.d (.lit v))).env=λj=>(ρ.setS d v).av (lk ((d,AV.d (.hv 0 d 0))::S'.env) j):=congrArg St.env h2;have h6:(S'.objs.map λp=>ρ.mo p.1 p.2)=S'.objs.map λp=>(ρ.setS d v).mo p.1 p.2:=(congrArg St.objs h1').symm;simp only[VS.app,chg,aHn _ (aLj (k:=h) (aIp hf))];have h7:Ent (St.mk (St.set (S'.at ρ) d (.d (.lit v))).env ((S'.at ρ).objs.set i (.arr v e k rows'))) ((VS.mk ((d,AV.d (.hv 0 d 0))::S'.env) (sW h S'.objs++[(d,VO.arr e k rows')])).at (ρ.setS d v)):=by
  rw [h5];refine aLt ?_;have hset:∀x:MO,((S'.objs.map λp=>ρ.mo p.1 p.2).set i x).Perm (x::(sW h S'.objs).map λp=>ρ.mo p.1 p.2):=by
   intro x;have hi:i<(S'.objs.map λp=>ρ.mo p.1 p.2).length:=(List.getElem?_eq_some_iff.1 h1).1;have hx:(S'.objs.map λp=>ρ.mo p.1 p.2)[i]=ρ.mo h (.arr e k rows):=(List.getElem?_eq_some_iff.1 h1).2;have a1:((S'.objs.map λp=>ρ.mo p.1 p.2).set i x).Perm (x::(S'.objs.map λp=>ρ.mo p.1 p.2).eraseIdx i):=by
    rw[List.set_eq_take_append_cons_drop,if_pos hi,List.eraseIdx_eq_take_drop_succ];exact List.perm_middle
   have a2:(S'.objs.map λp=>ρ.mo p.1 p.2).Perm (ρ.mo h (.arr e k rows)::(S'.objs.map λp=>ρ.mo p.1 p.2).eraseIdx i):=by
    conv=>lhs;rw[<-List.set_getElem_self hi,hx]
    rw[List.set_eq_take_append_cons_drop,if_pos hi,List.eraseIdx_eq_take_drop_succ];exact List.perm_middle
   exact a1.trans (.cons _ (List.Perm.cons_inv (a2.symm.trans h4)))
  have h8:((sW h S'.objs).map λp=>ρ.mo p.1 p.2)=(sW h S'.objs).map λp=>(ρ.setS d v).mo p.1 p.2:=
   (sC (λp hp=>by
    simp only[Bool.or_eq_false_iff] at hp;exact H.mo hp.1 hp.2) (aLj (k:=h) (aIp hf))).symm
  refine(hset _).trans ?_;rw[h8,List.map_append];refine List.Perm.trans ?_ List.perm_append_comm;simp only[List.map_cons,List.map_nil,List.singleton_append,Rho.mo,e1];exact .refl _
 exact h7
theorem bPk{h e k:Nat}{rows rows':List (List D)}(hm:ob S.objs h=some (.arr e k rows))(hu:h∈us)
  (hs:∀S',Agr op S S' us->∀(ρ:Rho) i,(S'.at ρ).objs[i]?=some (.arr (ρ.ss h) e k rows)->Step P n ⟨some d,op,ty,pos,af,gd⟩ (S'.at ρ) (λs=>∃v,s=(S'.at ρ).setput d (.d (.lit v)) i (.arr v e k rows'))):
  pO P n ⟨some d,op,ty,pos,af,gd⟩ S ⟨.d (.sl k rows'),[(h,none)],us,[]⟩:=by
 intro S' hA hn ρ;have hm':=(hA.ob h hu).trans hm;obtain⟨i,h1,_,h4⟩:=aQu (ρ:=ρ) hm';refine kV (hs S' hA ρ i h1) ?_;rintro s ⟨v,rfl⟩;refine⟨ρ,rfl,λA M w0 n a w hR=>?_⟩;have hset:∀x:MO,((S'.objs.map λp=>ρ.mo p.1 p.2).set i x).Perm (x::(sW h S'.objs).map λp=>ρ.mo p.1 p.2):=by
  intro x;have hi:i<(S'.objs.map λp=>ρ.mo p.1 p.2).length:=(List.getElem?_eq_some_iff.1 h1).1;have hx:(S'.objs.map λp=>ρ.mo p.1 p.2)[i]=ρ.mo h (.arr e k rows):=(List.getElem?_eq_some_iff.1 h1).2;have a1:((S'.objs.map λp=>ρ.mo p.1 p.2).set i x).Perm (x::(S'.objs.map λp=>ρ.mo p.1 p.2).eraseIdx i):=by
   rw[List.set_eq_take_append_cons_drop,if_pos hi,List.eraseIdx_eq_take_drop_succ];exact List.perm_middle
  have a2:(S'.objs.map λp=>ρ.mo p.1 p.2).Perm (ρ.mo h (.arr e k rows)::(S'.objs.map λp=>ρ.mo p.1 p.2).eraseIdx i):=by
   conv=>lhs;rw[<-List.set_getElem_self hi,hx]
   rw[List.set_eq_take_append_cons_drop,if_pos hi,List.eraseIdx_eq_take_drop_succ];exact List.perm_middle
  exact a1.trans (.cons _ (List.Perm.cons_inv (a2.symm.trans h4)))
 have hp:=(hset (.arr v e k rows')).trans (List.perm_append_comm (l₁:=[MO.arr v e k rows']));have hk:∀r∈rows',r.length=k:=by
  have hmem:MO.arr v e k rows'∈(S'.objs.map λp=>ρ.mo p.1 p.2).set i (.arr v e k rows'):=hp.mem_iff.2 (by simp);obtain⟨_,_,_,hr⟩:=hR.inv.holds _ hmem;exact hr
 have h2:=at_set (ρ:=ρ) S' d (.d (.sl k rows'));have h5:upd (S'.at ρ).env d (.d (.sl k rows'))=λj=>ρ.av (lk ((d,AV.d (.sl k rows'))::S'.env) j):=congrArg St.env h2;have hE:Ent (St.mk (upd (S'.at ρ).env d (.d (.lit v))) ((S'.at ρ).objs.set i (.arr v e k rows'))) ⟨upd (S'.at ρ).env d (.d (.sl k rows')),(sW h S'.objs).map λp=>ρ.mo p.1 p.2⟩:=
  oS hp λj=>by
   unfold upd;cases Nat.beq d j with
   |true=>exact .d (bVi hk)
   |false=>exact .same _
 have:=hE A M w0 n a w hR;rw[h5] at this;exact this
theorem bHy{a b:List (Nat×Option VO)}:∀{l:List (Nat×VO)},chg (a++b) l=chg b (chg a l):=by
 induction a with
 |nil=>intro l;rfl
 | cons p a ih=>
  intro l;obtain⟨h,m⟩:=p;cases m with
  |some m=>simp only[List.cons_append,chg,ih]
  |none=>simp only[List.cons_append,chg,ih]
theorem bAx{d:Nat}{m:VO}{x:Nat×VO}(hx:Nat.beq x.1 d=false):∀{l:List (Nat×VO)},(nB d m (l++[x])).Perm (nB d m l++[x])
 |[]=>by simp only[List.nil_append,nB,hx,cond_false];exact List.Perm.swap _ _ _
 | p::l=>by
  simp only[List.cons_append,nB];cases Nat.beq p.1 d with
  |true=>exact .refl _
  |false=>exact .cons _ (bAx hx)
theorem bEk{f g:Nat×VO->MO}{d:Nat}{m m':VO}(hm:f (d,m)=g (d,m')):∀{l:List (Nat×VO)},(∀p∈l,f p=g p)->(nB d m l).map f=(nB d m' l).map g
 |[],_=>by simp[nB,hm]
 | p::l,h=>by
  simp only[nB];cases hb:Nat.beq p.1 d with
  | true=>
   have:=Nat.eq_of_beq_eq_true hb;simp only[cond_true,List.map_cons];rw[this,hm,List.map_congr_left λq hq=>h q (List.mem_cons_of_mem _ hq)]
  | false=>
   simp only[cond_false,List.map_cons];rw[h p (by simp),bEk hm λq hq=>h q (List.mem_cons_of_mem _ hq)]
def aBl(h:Nat)(e:Eff):Bool:=qL h e.v||e.ch.any λp=>Nat.beq p.1 h||(match p.2 with|some m=>aCx h m|none=>false)
theorem bFj{h k:Nat}{m:VO}:∀{l:List (Nat×VO)},(l.any λp=>Nat.beq p.1 h||aCx h p.2)=false->Nat.beq k h=false->aCx h m=false->((nB k m l).any λp=>Nat.beq p.1 h||aCx h p.2)=false
 |[],_,h1,h2=>by simp[nB,h1,h2]
 | p::l,hl,h1,h2=>by
  simp only[List.any_cons,Bool.or_eq_false_iff] at hl;simp only[nB];cases hb:Nat.beq p.1 k with
  |true=>simp only[cond_true,List.any_cons,Bool.or_eq_false_iff];exact⟨⟨hl.1.1,h2⟩,hl.2⟩
  |false=>simp only[cond_false,List.any_cons,Bool.or_eq_false_iff];exact⟨hl.1,bFj hl.2 h1 h2⟩
theorem aJx{h:Nat}:∀{c:List (Nat×Option VO)} {l:List (Nat×VO)},(l.any λp=>Nat.beq p.1 h||aCx h p.2)=false->(c.any λp=>Nat.beq p.1 h||(match p.2 with|some m=>aCx h m|none=>false))=false->((chg c l).any λp=>Nat.beq p.1 h||aCx h p.2)=false
 |[],_,h1,_=>h1
 | (k,some m)::c,l,h1,h2=>by
  simp only[List.any_cons,Bool.or_eq_false_iff] at h2;have:=aJx (c:=c) (bFj h1 h2.1.1 h2.1.2) h2.2;exact this
 | (k,none)::c,l,h1,h2=>by
  simp only[List.any_cons,Bool.or_eq_false_iff] at h2;have:=aJx (c:=c) (aLj (k:=k) h1) h2.2;exact this
theorem aXm{h:Nat}{S:VS}{dst:Option Nat}{e:Eff}(hS:pI h S=false)(he:aBl h e=false):pI h (S.app dst e)=false:=by
 simp only[pI,Bool.or_eq_false_iff] at hS|-;simp only[aBl,Bool.or_eq_false_iff] at he;refine⟨?_,aJx hS.2 he.2⟩;cases dst with
 |none=>exact hS.1
 |some d=>simp only[VS.app,List.any_cons,Bool.or_eq_false_iff];exact⟨he.1,hS.1⟩
theorem bTf{q e k j:Nat}{zs:List D}{ch:List (Nat×Option VO)}{v:AV}{nw:List Nat}(hz:zs[j]?=some (.lit (.slice none 0 0)))(hq:aBl q ⟨v,ch++[(d,some (.box zs))],us,nw⟩=false)
  (h:pO P n ⟨some d,op,ty,pos,af,gd⟩ S ⟨v,ch++[(d,some (.box zs))],us,nw⟩):pO P n ⟨some d,op,ty,pos,af,gd⟩ S ⟨v,ch++[(q,some (.arr e k [])),(d,some (.box (zs.set j (.hv 0 q 0))))],us,q::nw⟩:=by
 intro S' hA hn ρ;obtain⟨gf,gl⟩:=hn q (by simp);refine kV (h S' hA (λx hx=>hn x (List.mem_cons_of_mem _ hx)) ρ) ?_;rintro s ⟨ρ1,hβ,hE⟩;have G:=aMp (ρ:=ρ1) (h:=q) (.slice none 0 0);refine⟨ρ1.setS q (.slice none 0 0),hβ,hE.trans ?_⟩;have hW:=aXm (dst:=some d) gf hq;rw[<-G.at hW];have hs:=aQz (ρ:=ρ1) gl (.slice none 0 0)
 generalize ρ1.setS q (.slice none 0 0)=ρ2 at hs|-
 simp only[aBl,List.any_append,List.any_cons,Bool.or_eq_false_iff] at hq;have hqd:Nat.beq q d=false:=by
  cases hb:Nat.beq q d with
  |false=>rfl
  |true=>have:=Nat.eq_of_beq_eq_true hb;subst this;simp at hq
 simp only[pI,Bool.or_eq_false_iff] at gf;have hL:=aJx (c:=ch) gf.2 hq.2.1;have hbox:ρ2.mo d (.box zs)=ρ2.mo d (.box (zs.set j (.hv 0 q 0))):=by
  simp only[Rho.mo,List.map_set];have:ρ2.dd (.hv 0 q 0)=.lit (.slice none 0 0):=by simp only[Rho.dd,hs]
  rw[this];have h0:(zs.map ρ2.dd)[j]?=some (.lit (.slice none 0 0)):=by rw[List.getElem?_map,hz];rfl
  obtain⟨hj,h1⟩:=List.getElem?_eq_some_iff.1 h0;rw[<-h1,List.set_getElem_self]
 simp only[VS.app,bHy,chg,aHn _ hL];unfold VS.at;refine(aBf e k).trans (aLt ?_);refine List.Perm.trans ?_ ((bAx hqd).map _).symm;rw[List.map_append,bEk (f:=λp=>ρ2.mo p.1 p.2) (g:=λp=>ρ2.mo p.1 p.2) hbox λ_ _=>rfl];simp only[List.map_cons,List.map_nil,Rho.mo,hs];exact .refl _
theorem bPl{q e k j:Nat}{xs:List D}{ch:List (Nat×Option VO)}{nw:List Nat}(hz:xs[j]?=some (.lit (.slice none 0 0)))(hq:aBl q ⟨.agg xs,ch,us,nw⟩=false)
  (h:pO P n ⟨some d,op,ty,pos,af,gd⟩ S ⟨.agg xs,ch,us,nw⟩):pO P n ⟨some d,op,ty,pos,af,gd⟩ S ⟨.agg (xs.set j (.hv 0 q 0)),ch++[(q,some (.arr e k []))],us,q::nw⟩:=by
 intro S' hA hn ρ;obtain⟨gf,gl⟩:=hn q (by simp);refine kV (h S' hA (λx hx=>hn x (List.mem_cons_of_mem _ hx)) ρ) ?_;rintro s ⟨ρ1,hβ,hE⟩;have G:=aMp (ρ:=ρ1) (h:=q) (.slice none 0 0);refine⟨ρ1.setS q (.slice none 0 0),hβ,hE.trans ?_⟩;have hW:=aXm (dst:=some d) gf hq;rw[<-G.at hW];have hs:=aQz (ρ:=ρ1) gl (.slice none 0 0)
 generalize ρ1.setS q (.slice none 0 0)=ρ2 at hs|-
 simp only[aBl,Bool.or_eq_false_iff] at hq;simp only[pI,Bool.or_eq_false_iff] at gf;have hL:=aJx (c:=ch) gf.2 hq.2;have hval:ρ2.av (.agg xs)=ρ2.av (.agg (xs.set j (.hv 0 q 0))):=by
  simp only[Rho.av,Rho.a0,List.map_set];have:ρ2.dd (.hv 0 q 0)=.lit (.slice none 0 0):=by simp only[Rho.dd,hs]
  rw[this];have h0:(xs.map ρ2.dd)[j]?=some (.lit (.slice none 0 0)):=by rw[List.getElem?_map,hz];rfl
  obtain⟨hj,h1⟩:=List.getElem?_eq_some_iff.1 h0;rw[<-h1,List.set_getElem_self]
 have henv:(λk=>ρ2.av (lk ((d,AV.agg xs)::S'.env) k))=λk=>ρ2.av (lk ((d,AV.agg (xs.set j (.hv 0 q 0)))::S'.env) k):=by
  funext k
  simp only[lk];cases Nat.beq d k with
  |true=>exact hval
  |false=>rfl
 simp only[VS.app,bHy,chg,aHn _ hL];unfold VS.at;rw[henv];refine(aBf e k).trans (aLt ?_);simp only[List.map_append,List.map_cons,List.map_nil,Rho.mo,hs];exact .refl _
end lift
end Go.Am
