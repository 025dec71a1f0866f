/- Several texts, one behind the other. -/
import Derived.Test.YtejdennodgdfhaaGreatDoorAmX3
section
namespace Go.Am
section
variable{P:Program}{T:TT P}{n:Nat}{ow:List Nat}{S:VS}{d:Nat}{ty:TypeId}{pos:String}{af:Array Edge}{gd:Option (Nat×Bool)}{K:Eff->Prop}
theorem evS{S':VS}{op:Op}{us:List Nat}{x:Operand}{v:AV}{ρ:Rho}(hA:Agr op S S' us)(hx:x∈op.operands.toList)(h:S.ev x=v):(S'.at ρ).eval x=ρ.av v:=by rw[aWj,hA.ev x hx,h]
theorem dV[Mode]{op:Op}{v:AV}{us:List Nat}(hK:K (.r v us))(h:∀S',Agr op S S' us->∀ρ,aY P n ⟨some d,op,ty,pos,af,gd⟩ (S'.at ρ) ((S'.at ρ).set d (ρ.av v))):cS P n ⟨some d,op,ty,pos,af,gd⟩ S K:=⟨⟨_,hK,bOn h⟩⟩
theorem bTf[Mode]{op:Op}{x:Operand}(hm:x∈op.operands.toList)(hop:∀(st:St) (v:AV),cJ x=true->st.eval x=v->aY P n ⟨some d,op,ty,pos,af,gd⟩ st (st.set d v))(h:uP S x K):cS P n ⟨some d,op,ty,pos,af,gd⟩ S K:=by
 unfold uP at h;cases hk:cJ x with
 |false=>rw[hk] at h;exact h.elim
 | true=>
  rw[hk] at h;exact dV (us:=[]) (vC (K:=λv=>K (.p v)) h) λS' hA ρ=>hop _ _ hk (evS hA hm rfl)
theorem bKj{t:Nat}{Q:Nat->Nat->Nat->Prop}(h:aXz T t Q):∃i e j td,T.ty.get t=some (i,.slice e)/\T.ty.get e=some (j,td)/\Q e j.size j.bytes:=by
 unfold aXz at h;split at h
 ·rename_i i e h1
  split at h
  ·rename_i j td h2
   exact⟨i,e,j,td,h1,h2,h⟩
  ·exact h.elim
 ·exact h.elim
theorem bDn[Mode]{op:Op}{x:Operand}(hd:d<n)(hop:op=.move x\/op=.assign x)(h:aWp T ow S ⟨some d,op,ty,pos,af,gd⟩ d x K):cS P n ⟨some d,op,ty,pos,af,gd⟩ S K:=by
 have gen:uP S x K->cS P n ⟨some d,op,ty,pos,af,gd⟩ S K:=λh=>bTf (by rcases hop with rfl|rfl<;>simp[Op.operands]) (λst v hk hx=>by
  rcases hop with rfl|rfl
  ·exact bK hd hx hk
  ·exact bL hd hx hk) h
 unfold aWp at h;split at h
 ·obtain⟨i,e,j,td,h1,h2,h⟩:=bKj h;cases hm:bF d ow&&!(kZ d S) with
  | true=>
   rw[hm] at h;exact⟨⟨_,h,aMu (us:=[]) λS' hA ρ=>gR (eZ e j.size (op:=op) (by rcases hop with rfl|rfl;exact .inr rfl;exact .inl rfl) hd) λs hs=>⟨_,hs⟩⟩⟩
  | false=>
   rw[hm] at h;refine dV (us:=[]) h λS' hA ρ=>?_
   rcases hop with rfl|rfl
   ·exact bSm j.size hd
   ·exact aEu j.size hd
 ·exact gen h
theorem aGx[Mode]{c x y:Operand}(hd:d<n)(h:aJa S c x y K):cS P n ⟨some d,.pick c x y,ty,pos,af,gd⟩ S K:=by
 unfold aJa at h;split at h
 ·rename_i b hc
  have h:=aTe h;have hcm:c∈(Op.pick c x y).operands.toList:=by simp[Op.operands]
  cases b with
  | true=>
   unfold uP at h;cases hk:cJ x with
   |false=>rw[hk] at h;exact h.elim
   | true=>
    rw[hk] at h;exact dV (us:=[]) (vC (K:=λv=>K (.p v)) h) λS' hA ρ=>vN hd (evS hA hcm hc) rfl (evS hA (by simp[Op.operands]) rfl) hk
  | false=>
   unfold uP at h;cases hk:cJ y with
   |false=>simp only[hk] at h;exact h.elim
   | true=>
    simp only[hk] at h;exact dV (us:=[]) (vC (K:=λv=>K (.p v)) h) λS' hA ρ=>rM hd (evS hA hcm hc) rfl (evS hA (by simp[Op.operands]) rfl) hk
 ·exact h.elim
theorem gD{b:Bool}{p:Prop}(h:bif b then p else False):b=true/\p:=by cases b with
 |true=>exact⟨rfl,h⟩
 |false=>exact h.elim
theorem bSz[Mode]{op:BinOp}{x y:Operand}{t u:TypeId}{k k':IntKind}{p q:Int}(hd:d<n)(hx:S.ev x=.d (.lit (.int k p)))(hy:S.ev y=.d (.lit (.int k' q)))(h:bNq (P:=P) n S ⟨some d,.binOp op t x y u,ty,pos,af,gd⟩ op k k' p q K):
  cS P n ⟨some d,.binOp op t x y u,ty,pos,af,gd⟩ S K:=by
 have mx:∀op,x∈(Op.binOp op t x y u).operands.toList:=λ_=>by simp[Op.operands]
 have my:∀op,y∈(Op.binOp op t x y u).operands.toList:=λ_=>by simp[Op.operands]
 cases op<;>simp only[bNq] at h
 case add=>obtain⟨h1,g⟩:=gD h;have:=qF h1;subst this;exact dV (us:=[]) g λS' hA ρ=>uC hd (evS hA (mx _) hx) (evS hA (my _) hy) rfl
 case sub=>obtain⟨h1,g⟩:=gD h;have:=qF h1;subst this;exact dV (us:=[]) g λS' hA ρ=>uC hd (evS hA (mx _) hx) (evS hA (my _) hy) rfl
 case mul=>obtain⟨h1,g⟩:=gD h;have:=qF h1;subst this;exact dV (us:=[]) g λS' hA ρ=>uC hd (evS hA (mx _) hx) (evS hA (my _) hy) rfl
 case lss=>obtain⟨h1,g⟩:=gD h;have:=qF h1;subst this;exact dV (us:=[]) g λS' hA ρ=>nF hd (evS hA (mx _) hx) (evS hA (my _) hy) rfl
 case leq=>obtain⟨h1,g⟩:=gD h;have:=qF h1;subst this;exact dV (us:=[]) g λS' hA ρ=>nF hd (evS hA (mx _) hx) (evS hA (my _) hy) rfl
 case gtr=>obtain⟨h1,g⟩:=gD h;have:=qF h1;subst this;exact dV (us:=[]) g λS' hA ρ=>nF hd (evS hA (mx _) hx) (evS hA (my _) hy) rfl
 case geq=>obtain⟨h1,g⟩:=gD h;have:=qF h1;subst this;exact dV (us:=[]) g λS' hA ρ=>nF hd (evS hA (mx _) hx) (evS hA (my _) hy) rfl
 case eql=>obtain⟨h1,g⟩:=gD h;have:=qF h1;subst this;exact dV (us:=[]) g λS' hA ρ=>nF hd (evS hA (mx _) hx) (evS hA (my _) hy) rfl
 case neq=>obtain⟨h1,g⟩:=gD h;have:=qF h1;subst this;exact dV (us:=[]) g λS' hA ρ=>nF hd (evS hA (mx _) hx) (evS hA (my _) hy) rfl
 case quo=>obtain⟨h1,h0,g⟩:=gD h;have:=qF h1;subst this;exact dV (us:=[]) g λS' hA ρ=>bOi hd (evS hA (mx _) hx) (evS hA (my _) hy) h0
 case rem=>obtain⟨h1,h0,g⟩:=gD h;have:=qF h1;subst this;exact dV (us:=[]) g λS' hA ρ=>aEv hd (evS hA (mx _) hx) (evS hA (my _) hy) h0
 case shl=>obtain⟨h0,h⟩:=h;exact dV (us:=[]) h λS' hA ρ=>bOk hd (evS hA (mx _) hx) (evS hA (my _) hy) h0
 case shr=>obtain⟨h0,h⟩:=h;exact dV (us:=[]) h λS' hA ρ=>bOl hd (evS hA (mx _) hx) (evS hA (my _) hy) h0
 all_goals exact h
theorem bSv[Mode]{op:BinOp}{x y:Operand}{t u:TypeId}(hd:d<n)(h:bNl (P:=P) n S ⟨some d,.binOp op t x y u,ty,pos,af,gd⟩ op t x y K):cS P n ⟨some d,.binOp op t x y u,ty,pos,af,gd⟩ S K:=by
 unfold bNl at h;split at h
 ·rename_i h1 h2;exact bSz hd h1 h2 h
 ·exact h
theorem bUf[Mode]{op:UnOp}{x:Operand}{t:TypeId}(hd:d<n)(h:xun (P:=P) n S ⟨some d,.unOp op t x,ty,pos,af,gd⟩ op x K):cS P n ⟨some d,.unOp op t x,ty,pos,af,gd⟩ S K:=by
 have mx:∀op,x∈(Op.unOp op t x).operands.toList:=λ_=>by simp[Op.operands]
 unfold xun at h;split at h
 ·rename_i h1;exact dV (us:=[]) h λS' hA ρ=>xN hd (evS hA (mx _) h1)
 ·rename_i h1;exact dV (us:=[]) h λS' hA ρ=>bTy hd (evS hA (mx _) h1)
 ·exact h
theorem DR.nohv{w:World}{X:bE}{x:D}{v:Value}(h:DR w X x v)(ρ:Rho):ρ.dd x=x:=by cases h<;>rfl
theorem DRs.nohv{w:World}{X:bE}(ρ:Rho):∀{ds:List D} {vs:List Value},DRs w X ds vs->ds.map ρ.dd=ds
 |[],[],_=>rfl
 |_::_,_::_,h=>by simp only[List.map_cons,h.1.nohv ρ,DRs.nohv ρ h.2]
theorem bDh[Mode]{o:Oper}{st:St}{x:Operand}{ds:List D}{ρ:Rho}{Q:St->Prop}(hx:st.eval x=.cp ds)(h:ds.map ρ.dd=ds->Step P n o st Q):Step P n o st Q:=by
 intro A M w0 a w hR K R hK;have hk:cJ x=true:=by cases x with|const u=>cases hx|_=>rfl
 have hv:=hR.eval' hk;rw[hx] at hv;have:ds.map ρ.dd=ds:=by
  generalize a.eval x=u at hv
  cases hv with|cp _ _ hds _ _=>exact hds.nohv ρ
 exact h this A M w0 a w hR K R hK
theorem bSx[Mode]{t f:Nat}{x:Operand}(hd:d<n)(h:bNo T S t x f K):cS P n ⟨some d,.fieldAddr t x f,ty,pos,af,gd⟩ S K:=by
 have mx:x∈(Op.fieldAddr t x f).operands.toList:=by simp[Op.operands]
 unfold bNo at h;split at h
 ·rename_i i fs h1
  split at h
  ·rename_i fd h2
   rw[bCl] at h2;split at h
   ·rename_i j td h3
    obtain⟨h4,h⟩:=gD h;have hf:=bNh h1 h2 h3 h4;split at h
    ·rename_i hx;exact dV (us:=[]) h λS' hA ρ=>gI hd (evS hA mx hx) hf
    ·rename_i ds hx
     obtain⟨hl,h⟩:=xS (K:=λes=>K (.p (.cp es))) h;exact dV (us:=[]) h λS' hA ρ=>aCd hd (evS hA mx hx) hf (by rw[hl])
    ·rename_i hx;exact dV (us:=[]) h λS' hA ρ=>bFm hd (evS hA mx hx) hf
    ·exact h.elim
   ·exact h.elim
  ·exact h.elim
 ·exact h.elim
theorem bTc[Mode]{x:Operand}(hd:d<n)(h:bNt (P:=P) n S ⟨some d,.nilCheck x,ty,pos,af,gd⟩ x K):cS P n ⟨some d,.nilCheck x,ty,pos,af,gd⟩ S K:=by
 have mx:x∈(Op.nilCheck x).operands.toList:=by simp[Op.operands]
 unfold bNt at h;split at h
 ·rename_i hx;exact dV (us:=[]) h λS' hA ρ=>eB hd (evS hA mx hx)
 ·rename_i hx;exact dV (us:=[]) h λS' hA ρ=>bJ hd (evS hA mx hx)
 ·exact h
theorem aRe{es:List D}{K:D->Prop}(h:one1 es K):∃x,es=[x]/\K x:=by
 unfold one1 at h;split at h
 ·exact⟨_,rfl,h⟩
 ·exact h.elim
theorem aGk{S':VS}{op:Op}{us:List Nat}{h:Nat}{m:VO}(ρ:Rho)(hA:Agr op S S' us)(hu:h∈us)(hm:ob S.objs h=some m):∃i:Nat,(S'.at ρ).objs[i]?=some (ρ.mo h m):=by
 obtain⟨i,h1,_⟩:=zK (ρ:=ρ) ((hA.ob h hu).trans hm);exact⟨i,h1⟩
theorem aWo{ds:List D}{j:Nat}{x:D}(h:(ds.drop j).take 1=[x]):ds[j]?=some x:=by
 have:=congrArg (·[0]?) h
 simpa using this
theorem aSz{α:Type}{f:α->α}:∀{l:List α},l.map f=l->∀x∈l,f x=x
 |[],_,_,h=>by cases h
 | y::l,h,x,hx=>by
  simp only[List.map_cons,List.cons.injEq] at h
  rcases List.mem_cons.1 hx with rfl|hx
  ·exact h.1
  ·exact aSz h.2 x hx
theorem aSw{α:Type}{f:α->α}:∀{l:List α},(∀x∈l,f x=x)->l.map f=l
 |[],_=>rfl
 |y::l,h=>by rw[List.map_cons,h y (by simp),aSw λx hx=>h x (List.mem_cons_of_mem _ hx)]
theorem aQn[Mode]{w:World}{X:bE}{e k:Nat}{v:Value}{rows:List (List D)}(h:(MO.arr v e k rows).holds w X)(ρ:Rho){i:Nat}{ds:List D}(hi:rows[i]?=some ds):ds.map ρ.dd=ds:=by
 obtain⟨xs,hxs,_,hr⟩:=h;exact aSw λx hx=>aSz (hxs.nohv ρ) x (List.mem_flatten.2 ⟨ds,List.mem_of_getElem? hi,hx⟩)
theorem bAf[Mode]{o:Oper}{st:St}{i:Nat}{m:MO}{Q:St->Prop}(hm:st.objs[i]?=some m)(h:(∃w X,m.holds w X)->Step P n o st Q):Step P n o st Q:=
 λA M w0 a w hR=>h ⟨w,_,hR.inv.holds m (List.mem_of_getElem? hm)⟩ A M w0 a w hR
theorem aOq{f:D->D}{ds:List D}{j m:Nat}:((ds.map f).drop j).take m=((ds.drop j).take m).map f:=by simp[List.map_drop,List.map_take]
theorem bQw[Mode]{t:TypeId}{x:Operand}(hd:d<n)(h:bFx T n S ⟨some d,.load t x,ty,pos,af,gd⟩ t x K):cS P n ⟨some d,.load t x,ty,pos,af,gd⟩ S K:=by
 have mx:x∈(Op.load t x).operands.toList:=by simp[Op.operands]
 unfold bFx at h;split at h
 ·rename_i i td ht
  split at h
  ·rename_i ds hx
   cases ha:aCo td with
   | true=>
    rw[ha] at h;obtain⟨hl,h⟩:=xS (K:=λes=>K (.p (.agg es))) h;refine dV (us:=[]) h λS' hA ρ=>bDh (ρ:=ρ) (evS hA mx hx) λhn=>?_;have he:ρ.av (.agg ((ds.drop 0).take i.size))=.agg (ds.take i.size):=by
     show AV.agg _=_;rw[List.drop_zero,List.map_take,hn]
    rw[he];exact aIq hd (evS hA mx hx) (aIw ht ha rfl) rfl (by simpa using hl)
   | false=>
    rw[ha] at h;obtain⟨h1,h⟩:=gD h;obtain⟨hl,h⟩:=xS (K:=λes=>one1 es λx=>K (.p (.d x))) h;obtain⟨d0,he,h⟩:=aRe (K:=λx=>K (.p (.d x))) h;have h0:=aWo he;refine dV (us:=[]) h λS' hA ρ=>bDh (ρ:=ρ) (evS hA mx hx) λhn=>?_;cases ds with
    |nil=>simp at h0
    | cons y ds=>
     simp at h0;subst h0
     have:ρ.dd y=y:=by have:=congrArg (·[0]?) hn;simpa using this
     have he:ρ.av (.d y)=.d y:=by show AV.d _=_;rw[this]
     rw[he];exact cG hd (evS hA mx hx) (aIx ht ha (Nat.eq_of_beq_eq_true h1))
  ·rename_i hh o j hx
   split at h
   ·rename_i ds hm
    cases ha:aCo td with
    | true=>
     rw[ha] at h;obtain⟨hl,h⟩:=xS (K:=λes=>K (.r (.agg es) [hh])) h;refine dV h λS' hA ρ=>?_;obtain⟨p,hp⟩:=aGk ρ hA (by simp) hm;exact pF hd (evS hA mx hx) hp (aIw ht ha rfl) aOq (by simpa using hl)
    | false=>
     rw[ha] at h;obtain⟨h1,h⟩:=gD h;obtain⟨hl,h⟩:=xS (K:=λes=>one1 es λx=>K (.r (.d x) [hh])) h;obtain⟨d0,he,h⟩:=aRe (K:=λx=>K (.r (.d x) [hh])) h;refine dV h λS' hA ρ=>?_;obtain⟨p,hp⟩:=aGk ρ hA (by simp) hm;exact kV hd (evS hA mx hx) hp (by rw[List.getElem?_map,aWo he];rfl) (aIx ht ha (Nat.eq_of_beq_eq_true h1))
   ·exact h
  ·rename_i hh kk r c hx
   split at h
   ·rename_i e k rows hm
    obtain⟨hk,ds,hr,h⟩:=h;have hk:=Nat.eq_of_beq_eq_true hk;subst hk;cases ha:aCo td with
    | true=>
     rw[ha] at h;obtain⟨hl,h⟩:=xS (K:=λes=>K (.r (.agg es) [hh])) h;refine dV h λS' hA ρ=>?_;obtain⟨p,hp⟩:=aGk ρ hA (by simp) hm;refine bAf hp λ⟨w,X,hh⟩=>?_;have hn:=aQn hh ρ hr;have he:ρ.av (.agg ((ds.drop c).take i.size))=.agg ((ds.drop c).take i.size):=by
      show AV.agg _=_;rw[<-aOq,hn]
     rw[he];exact aRv hd (evS hA mx hx) hp hr (aIw ht ha rfl) rfl (by simpa using hl)
    | false=>
     rw[ha] at h;obtain⟨h1,h⟩:=gD h;obtain⟨hl,h⟩:=xS (K:=λes=>one1 es λx=>K (.r (.d x) [hh])) h;obtain⟨d0,he,h⟩:=aRe (K:=λx=>K (.r (.d x) [hh])) h;have h0:=aWo he;refine dV h λS' hA ρ=>?_;obtain⟨p,hp⟩:=aGk ρ hA (by simp) hm;refine bAf hp λ⟨w,X,hh⟩=>?_;have hn:=aQn hh ρ hr;have he:ρ.av (.d d0)=.d d0:=by
      show AV.d _=_;rw[aSz hn d0 (List.mem_of_getElem? h0)]
     rw[he];exact wF hd (evS hA mx hx) hp hr h0 (aIx ht ha (Nat.eq_of_beq_eq_true h1))
   ·exact h
  ·exact h
 ·exact h.elim
theorem yJ{v:AV}{es:List D}(ρ:Rho)(h:v.cells=some es):(ρ.av v).cells=some (es.map ρ.dd):=by
 cases v with
 |d x=>simp[AV.cells] at h;subst h;rfl
 |agg xs=>simp[AV.cells] at h;subst h;rfl
 |_=>simp[AV.cells] at h
theorem aKy{f:D->D}{ds es:List D}{j:Nat}:(fD ds j es).map f=fD (ds.map f) j (es.map f):=by simp[fD,List.map_take,List.map_drop]
theorem lt1{m:Nat}(h:Nat.ble 1 m=true):0<m:=Nat.le_of_ble_eq_true h
theorem aOv(ρ:Rho):∀{es:List D},es.any hvD=false->es.map ρ.dd=es
 |[],_=>rfl
 | x::l,h=>by
  simp only[List.any_cons,Bool.or_eq_false_iff] at h;rw[List.map_cons,aOv ρ h.2];cases x with
  |hv=>simp[hvD] at h
  |_=>rfl
theorem bCb{w:World}{X:bE}{k:Nat}{c:List D}:∀{a:List D} {vs:List Value},DRs w X (a++(.lit (.slice none 0 0)::c)) vs->DRs w X (a++(.sl k []::c)) vs
 |[],v::vs,h=>⟨by obtain⟨h,_⟩:=h;cases h;exact .nil k,h.2⟩
 |_::_,v::vs,h=>⟨h.1,bCb h.2⟩
 |[],[],h=>h.elim
 |_::_,[],h=>h.elim
theorem bGs[Mode]{env:Nat->AV}{objs:List MO}{i b o:Nat}{ds ds':List D}(ho:objs[i]?=some (.box b o ds))(hl:ds'.length=ds.length)(hd:∀w X vs,DRs w X ds vs->DRs w X ds' vs):Ent ⟨env,objs⟩ ⟨env,objs.set i (.box b o ds')⟩:=by
 intro A M w0 n a w hR;refine hR.replace (m':=.box b o ds') ho (Keeps.refl _ _) (λ_ _ h=>h) (λb' o' hf=>.inl (by simpa[MO.foot,hl] using hf)) λhm=>?_;obtain⟨vs,h1,h2,h3⟩:=(hR.inv.holds _ (List.mem_of_getElem? ho));exact⟨vs,(hd _ _ _ h1).mono hm,h2,by rwa[hl]⟩
theorem bRv{y:Operand}{S:VS}{l es:List D}(h:(S.ev y).cells=some es):bEt y l es=es\/∃k,es=[.lit (.slice none 0 0)]/\bEt y l es=[.sl k []]:=by
 unfold bEt
 split
 ·have he:es=[.lit (.slice none 0 0)]:=(Option.some.inj h).symm
  split
  ·exact .inr ⟨_,he,rfl⟩
  ·exact .inl rfl
 ·exact .inl rfl
theorem bQd[Mode]{op:Op}{h k j:Nat}{ds:List D}(hm:ob S.objs h=some (.box ds))(hs:∀S',Agr op S S' [h]->∀(ρ:Rho) i,(S'.at ρ).objs[i]?=some (ρ.mo h (.box ds))->aY P n ⟨none,op,ty,pos,af,gd⟩ (S'.at ρ) ((S'.at ρ).put1 i (ρ.mo h (.box (fD ds j [.lit (.slice none 0 0)]))))):
  lT P n ⟨none,op,ty,pos,af,gd⟩ S ⟨.any,[(h,some (.box (fD ds j [.sl k []])))],[h],[]⟩:=by
 intro S' hA _ ρ;obtain⟨i,h1,h2,_⟩:=zK (ρ:=ρ) ((hA.ob h (by simp)).trans hm);refine gR (hs S' hA ρ i h1) ?_;rintro s rfl;refine⟨ρ,rfl,?_⟩;have hil:i<(S'.objs.map λp=>ρ.mo p.1 p.2).length:=(List.getElem?_eq_some_iff.1 h1).1;have e1:(S'.app none ⟨.any,[(h,some (.box (fD ds j [.sl k []])))],[h],[]⟩).at ρ=⟨(S'.at ρ).env,((S'.at ρ).objs.set i (ρ.mo h (.box (fD ds j [.lit (.slice none 0 0)])))).set i (ρ.mo h (.box (fD ds j [.sl k []])))⟩:=by
  simp only[VS.app,chg,VS.at];rw[List.set_set,h2]
 show Ent ⟨(S'.at ρ).env,(S'.at ρ).objs.set i (ρ.mo h (.box (fD ds j [.lit (.slice none 0 0)])))⟩ _;rw[e1];refine bGs (b:=ρ.bb h) (o:=ρ.oo h) (ds:=(fD ds j [.lit (.slice none 0 0)]).map ρ.dd) (List.getElem?_set_self hil) (by simp[fD]) λw X vs hd=>?_;have e2:∀x:D,(fD ds j [x]).map ρ.dd=(ds.take j).map ρ.dd++(ρ.dd x::(ds.drop (j+1)).map ρ.dd):=λx=>by simp[fD]
 rw[e2] at hd|-;exact bCb hd
theorem bNv[Mode]{t:TypeId}{x y:Operand}(h:bAs T n S ⟨none,.store t x y,ty,pos,af,gd⟩ t x y K):cS P n ⟨none,.store t x y,ty,pos,af,gd⟩ S K:=by
 have mx:x∈(Op.store t x y).operands.toList:=by simp[Op.operands]
 have my:y∈(Op.store t x y).operands.toList:=by simp[Op.operands]
 unfold bAs at h;split at h
 ·rename_i i td ht
  obtain⟨hk,h⟩:=gD h;split at h
  ·rename_i es hes
   obtain⟨hb,h⟩:=gD h;simp only[Bool.and_eq_true] at hb;split at h
   ·rename_i hh o j hx
    split at h
    ·rename_i ds hm
     obtain⟨hj,h⟩:=gD h;obtain⟨hle,h9⟩:=bFd (K:=λds'=>K ⟨.any,[(hh,some (.box ds'))],[hh],[]⟩) (Nat.le_of_ble_eq_true hj) h
     rcases bRv (l:=ds.drop j) hes with e0|⟨kk,e0,e1⟩
     ·rw[e0] at hle h9;refine⟨⟨_,h9,bCy hm (by simp) λS' hA ρ p hp=>?_⟩⟩;exact cV (evS hA mx hx) hp (evS hA my rfl) hk (yJ ρ hes) (λw=>wH ht w) (by simpa using Nat.eq_of_beq_eq_true hb.1) (lt1 hb.2) (by simpa using hle) aKy.symm
     ·rw[e1] at hle h9;subst e0;refine⟨⟨_,h9,bQd hm λS' hA ρ p hp=>?_⟩⟩;exact cV (evS hA mx hx) hp (evS hA my rfl) hk (yJ ρ hes) (λw=>wH ht w) (by simpa using Nat.eq_of_beq_eq_true hb.1) (lt1 hb.2) (by simpa using hle) aKy.symm
    ·exact h
   ·rename_i hh kk r c hx
    split at h
    ·rename_i e k rows hm
     cases hv:es.any hvD with
     |true=>rw[hv] at h;exact h.elim
     | false=>
      rw[hv] at h;obtain⟨hkk,ds,rows',hr,hle,hrows,h⟩:=h;have hkk:=Nat.eq_of_beq_eq_true hkk;subst hkk;refine⟨⟨_,h,bCy hm (by simp) λS' hA ρ p hp=>?_⟩⟩;have hc:=yJ ρ hes;rw[aOv ρ hv] at hc;exact aRx (evS hA mx hx) hp hr (evS hA my rfl) hk hc (λw=>wH ht w) (Nat.eq_of_beq_eq_true hb.1) (lt1 hb.2) hle hrows
    ·exact h
   ·exact h
  ·exact h.elim
 ·exact h.elim
theorem cnf{b:Bool}{p:Prop}(h:bif b then False else p):b=false/\p:=by cases b with
 |true=>exact h.elim
 |false=>exact⟨rfl,h⟩
theorem zE{ρ:Rho}:∀{zs:List D},zOK zs=true->zs.map ρ.dd=zs
 |[],_=>rfl
 | .lit v::l,h=>by simp only[zOK,Bool.and_eq_true] at h;rw[List.map_cons,zE h.2];rfl
 | .sl _ []::l,h=>by simp only[zOK] at h;rw[List.map_cons,zE h];rfl
 | .sl _ (_::_)::l,h=>by simp[zOK] at h
 | .sn _ _::l,h=>by simp[zOK] at h
 | .mp _ _::l,h=>by simp[zOK] at h
 | .pt _::l,h=>by simp[zOK] at h
 | .fc .. ::l,h=>by simp[zOK] at h
 | .hv .. ::l,h=>by simp[zOK] at h
theorem bHu{x:Option D}(h:bEm x=true):x=some (.lit (.slice none 0 0)):=by
 unfold bEm at h;split at h
 ·rfl
 ·cases h
theorem aZj:∀{zs:List D} {j:Nat},(aLi ow d j zs).map bD=zs.map bD
 |[],_=>rfl
 | x::l,j=>by
  simp only[aLi,List.map_cons,aZj (zs:=l)]
  congr 1
  cases bF (100000*(j+1)+d) ow with
  |true=>simp only[cond_true];split<;>rfl
  |false=>rfl
theorem wD:∀{zs:List D} {j:Nat},zOK zs=true->zOK (aLi ow d j zs)=true
 |[],_,h=>h
 | x ::l,j,h=>by
  simp only[aLi];cases bF (100000*(j+1)+d) ow with
  | false=>
   simp only[cond_false];cases x with
   |lit v=>simp only[zOK,Bool.and_eq_true] at h|-;exact⟨h.1,wD h.2⟩
   | sl k r=>cases r with
    |nil=>exact wD (zs:=l) h
    |cons=>simp[zOK] at h
   |_=>simp[zOK] at h
  | true=>
   simp only[cond_true];cases x with
   |lit v=>simp only[zOK,Bool.and_eq_true] at h|-;exact⟨h.1,wD h.2⟩
   | sl k r=>cases r with
    |nil=>simp only[zOK,Bool.and_eq_true];exact⟨rfl,wD (zs:=l) h⟩
    |cons=>simp[zOK] at h
   |_=>simp[zOK] at h
theorem bIo[Mode]{op:Op}:∀{c:List (Nat×Nat×Nat)} {zs:List D} {ch:List (Nat×Option VO)} {nw:List Nat},lT P n ⟨some d,op,ty,pos,af,gd⟩ S ⟨.bp d 0 0,ch++[(d,some (.box zs))],[],nw⟩->bEx d c zs ch nw K->cS P n ⟨some d,op,ty,pos,af,gd⟩ S K
 |[],zs,ch,nw,hs,h=>⟨⟨_,h,hs⟩⟩
 | (j,k,e)::c,zs,ch,nw,hs,h=>by
  simp only[bEx] at h;obtain⟨hb,h⟩:=gD h;simp only[Bool.and_eq_true,Bool.not_eq_true'] at hb;refine bIo (c:=c) ?_ h;have:=bMu (e:=e) (k:=k) (bHu hb.1) hb.2 hs;rw[List.append_assoc];exact this
theorem bNk[Mode]{t:TypeId}(hd:d<n)(h:bAp T ow d t K):cS P n ⟨some d,.alloc t,ty,pos,af,gd⟩ S K:=by
 unfold bAp at h;split at h
 ·rename_i zs hz
  cases how:bF (d+30000) ow with
  | true=>
   rw[how] at h;simp only[cond_true] at h;obtain⟨hf,h⟩:=cnf h;obtain⟨z,h1,h2,h3⟩:=Tr'.ok hz;refine bIo (ch:=[]) ?_ h;refine aTp (us:=[]) hf λS' hA ρ=>?_;rw[zE (wD h3)];exact cF hd h1 (by rw[aZj];exact h2) (wD h3)
  |false=>
  rw[how] at h;simp only[cond_false] at h;obtain⟨hf,h⟩:=cnf h;obtain⟨z,h1,h2,h3⟩:=Tr'.ok hz;refine⟨⟨_,h,aTp (us:=[]) hf λS' hA ρ=>?_⟩⟩;rw[zE h3];exact cF hd h1 h2 h3
 ·exact h.elim
theorem bQx[Mode]{t:TypeId}{x y:Operand}(hd:d<n)(h:bFy T S d t x y K):cS P n ⟨some d,.makeSlice t x y,ty,pos,af,gd⟩ S K:=by
 have mx:x∈(Op.makeSlice t x y).operands.toList:=by simp[Op.operands]
 have my:y∈(Op.makeSlice t x y).operands.toList:=by simp[Op.operands]
 unfold bFy at h;split at h
 ·rename_i i e h1
  split at h
  ·rename_i j td zs h2 h3
   obtain⟨hb,h⟩:=gD h;simp only[Bool.and_eq_true] at hb;split at h
   ·rename_i k1 m k2 m' hx hy
    obtain⟨he,rows,hm,hK⟩:=h.h;subst he;obtain⟨z,hz⟩:=aIy h1 h2 rfl hb.1;obtain⟨z',g1,g2,g3⟩:=Tr'.ok h3;refine⟨⟨_,hK,aMu (us:=[]) λS' hA ρ A M w0 a w hR=>?_⟩⟩;have ez:z=z':=by
     have a1:=hz.zero w;rw[g1 w] at a1;injection a1 with a1 _
     exact a1.symm
    subst ez;exact bSl hd hz (evS hA mx hx) (evS hA my hy) g2 g3 hm (Nat.le_of_ble_eq_true hb.2) A M w0 a w hR
   ·exact h.elim
  ·exact h.elim
 ·exact h.elim
theorem bSw[Mode]{t:TypeId}{x:Operand}(hd:d<n)(h:bNm S d x K):cS P n ⟨some d,.box t x,ty,pos,af,gd⟩ S K:=by
 have mx:x∈(Op.box t x).operands.toList:=by simp[Op.operands]
 unfold bNm at h;obtain⟨hk,h⟩:=gD h;split at h
 ·rename_i ds hc
  have h:=aYl (K:=λds=>bif ds.any (aDd d) then False else K ⟨.bp d 0 0,[(d,some (.box ds))],[],[d]⟩) h;obtain⟨hf,h⟩:=cnf h;exact⟨⟨_,h,aTp (us:=[]) hf λS' hA ρ=>eP hd (evS hA mx rfl) hk (yJ ρ hc)⟩⟩
 ·exact h.elim
theorem aYg(ρ:Rho){v:AV}(h:aBy v=true):ρ.a1 v=ρ.av v:=by
 cases v<;>first|rfl|simp[aBy] at h
theorem bQv[Mode]{x:Operand}{i:Nat}(hd:d<n)(h:bFw (P:=P) n S ⟨some d,.extract x i,ty,pos,af,gd⟩ x i K):cS P n ⟨some d,.extract x i,ty,pos,af,gd⟩ S K:=by
 have mx:x∈(Op.extract x i).operands.toList:=by simp[Op.operands]
 unfold bFw at h;split at h
 ·rename_i vs hx
  split at h
  ·rename_i v hv
   obtain⟨hf,h⟩:=gD h;refine dV (us:=[]) (vC (K:=λv=>K (.p v)) h) λS' hA ρ=>?_;refine dD (vs:=vs.map ρ.a1) hd (evS hA mx hx) ?_;rw[bCk] at hv;rw[List.getElem?_map,hv,<-aYg ρ hf]
   rfl
  ·exact h.elim
 ·exact h
theorem aOx{S S':VS}(ρ:Rho):∀{l:List (Nat×Operand)},(∀p∈l,S'.ev p.2=S.ev p.2)->(S'.at ρ).parts l=(St.parts ⟨λk=>lk S.env k,[]⟩ l).map λp=>(p.1,ρ.av p.2)
 |[],_=>rfl
 | (i,x)::l,h=>by
  have h1:(S'.at ρ).eval x=ρ.av (St.eval ⟨λk=>lk S.env k,[]⟩ x):=by
   rw[aWj,h (i,x) (by simp)];cases x<;>rfl
  simp only[St.parts,List.map_cons,h1,aOx ρ λp hp=>h p (List.mem_cons_of_mem _ hp)]
theorem aYe{place:Nat->Option (Nat×Nat)}(ρ:Rho):∀{ps:List (Nat×AV)} {ds es:List D},xA place ds ps=some es->xA place (ds.map ρ.dd) (ps.map λp=>(p.1,ρ.av p.2))=some (es.map ρ.dd)
 |[],ds,es,h=>by simp only[xA,Option.some.injEq] at h;subst h;rfl
 | (i,x)::ps,ds,es,h=>by
  simp only[xA] at h;split at h
  ·rename_i off size es' h1 h2
   split at h
   ·rename_i hc
    simp only[List.map_cons,xA,h1,yJ ρ h2];rw[if_pos (by simpa using hc),<-aKy];exact aYe ρ h
   ·cases h
  ·cases h
theorem bIr:∀{l:List Field} {pl:List (Nat×Nat)},aZm T l=some pl->∀w,(l.mapM λf=>Prod.mk f.offset <$> sizeOf f.type).run P w=.ok pl w
 |[],pl,h,w=>by simp only[aZm,Option.some.injEq] at h;subst h;rfl
 | f::l,pl,h,w=>by
  simp only[aZm] at h;split at h
  ·rename_i j td r h1 h2
   cases h;have:=bIr h2 w
   simp[List.mapM_cons,wH h1,this]
  ·cases h
theorem bIp[Mode]{op:Op}:∀{c:List (Nat×Nat×Nat)} {xs:List D} {ch:List (Nat×Option VO)} {nw:List Nat},lT P n ⟨some d,op,ty,pos,af,gd⟩ S ⟨.agg xs,ch,[],nw⟩->aZi d c xs ch nw K->cS P n ⟨some d,op,ty,pos,af,gd⟩ S K
 |[],xs,ch,nw,hs,h=>⟨⟨_,h,hs⟩⟩
 | (j,k,e)::c,xs,ch,nw,hs,h=>by
  simp only[aZi] at h;obtain⟨hb,h⟩:=gD h;simp only[Bool.and_eq_true,Bool.not_eq_true'] at hb;exact bIp (c:=c) (bJk (e:=e) (k:=k) (bHu hb.1) hb.2 hs) h
theorem bNn[Mode]{t:TypeId}{l:List (Nat×Operand)}(hd:d<n)(h:bAq T n ow S ⟨some d,.build t l.toArray,ty,pos,af,gd⟩ d t l K):cS P n ⟨some d,.build t l.toArray,ty,pos,af,gd⟩ S K:=by
 unfold bAq at h;split at h
 ·rename_i i fs zs ht hz
  split at h
  ·rename_i pl hpl
   obtain⟨hok,h⟩:=gD h;split at h
   ·rename_i es he
    have h:=aYl (K:=λes=>bif bF (d+30000) ow then aZi d (aTh ow d (aXy T t) 0 zs) es [] [] K else K (.p (.agg es))) h;obtain⟨z,h1,h2,h3⟩:=Tr'.ok hz;have key:lT P n ⟨some d,.build t l.toArray,ty,pos,af,gd⟩ S ⟨.agg es,[],[],[]⟩:=by
     refine bOn (us:=[]) λS' hA ρ=>?_;have hst:jJ P t z pl:=⟨h1,fs,λw=>run_underlying (Tr'.ok ht).2 w,λw=>by
      have:=bIr hpl w;rw[Array.mapM_eq_mapM_toList]
      simp[this]⟩
     have hps:=aOx (S:=S) (S':=S') ρ (l:=l) λp hp=>hA.ev _ (by simp[Op.operands];exact⟨_,hp⟩);have hf:=aYe ρ he;cases how:bF (d+30000) ow with
     | true=>
      rw[how] at hf;simp only[cond_true] at hf;rw[zE (wD h3)] at hf;exact eS hd hst (by rw[aZj];exact h2) (wD h3) hok hps hf
     | false=>
      rw[how] at hf;simp only[cond_false] at hf;rw[zE h3] at hf;exact eS hd hst h2 h3 hok hps hf
    cases how:bF (d+30000) ow with
    |true=>rw[how] at h;exact bIp key h
    |false=>rw[how] at h;exact⟨⟨_,h,key⟩⟩
   ·exact h.elim
  ·exact h.elim
 ·exact h
theorem aVk(ρ:Rho):∀{ps:List (Nat×AV)} {k:Nat} {rows:List (List D)},oD k ps=some rows->oD k (ps.map λp=>(p.1,ρ.av p.2))=some (rows.map (·.map ρ.dd))
 |[],k,rows,h=>by simp only[oD,Option.some.injEq] at h;subst h;rfl
 | (i,x)::ps,k,rows,h=>by
  simp only[oD] at h;split at h
  ·rename_i ds rows' h1 h2
   split at h
   ·rename_i hik
    cases h;simp only[List.map_cons,oD,yJ ρ h1,aVk ρ h2,if_pos hik]
   ·cases h
  ·cases h
theorem aHa{k:Nat}(ρ:Rho):∀{rows:List (List D)},aJy k rows=true->(∀r∈rows,r.length=k)/\rows.map (·.map ρ.dd)=rows
 |[],_=>⟨by simp,rfl⟩
 | r::l,h=>by
  simp only[aJy,Bool.and_eq_true,Bool.not_eq_true'] at h;obtain⟨h1,h2⟩:=aHa ρ h.2.2;refine⟨λx hx=>?_,?_⟩
  ·rcases List.mem_cons.1 hx with rfl|hx
   ·exact Nat.eq_of_beq_eq_true h.1
   ·exact h1 x hx
  ·rw[List.map_cons,h2,aOv ρ h.2.1]
theorem bTb[Mode]{t len:Nat}{l:List (Nat×Operand)}(hd:d<n)(h:bNs T ow S d t len l K):cS P n ⟨some d,.buildSlice t len l.toArray,ty,pos,af,gd⟩ S K:=by
 unfold bNs at h;split at h
 ·rename_i i e ht
  split at h
  ·rename_i j td he
   obtain⟨hb,h⟩:=gD h;simp only[Bool.and_eq_true] at hb;obtain⟨z,hty⟩:=aIy ht he rfl hb.1;split at h
   ·rename_i rows hr
    obtain⟨hc,h⟩:=gD h;simp only[Bool.and_eq_true] at hc;have hr':∀S',Agr (.buildSlice t len l.toArray) S S' []->∀ρ,oD 0 ((S'.at ρ).parts l)=some rows:=λS' hA ρ=>by
     rw[aOx (S:=S) (S':=S') ρ (l:=l) λp hp=>hA.ev _ (by simp[Op.operands];exact⟨_,hp⟩),aVk ρ hr,(aHa ρ hc.1).2]
    have hlen:=λρ=>(aHa ρ hc.1).1;cases hm:bF d ow with
    | true=>
     rw[hm] at h;exact⟨⟨_,h,aMu (us:=[]) λS' hA ρ=>aAo hd hty hb.2.1 rfl (hr' S' hA ρ) (hlen ρ) (Nat.eq_of_beq_eq_true hc.2) (Nat.le_of_ble_eq_true hb.2.2)⟩⟩
    | false=>
     rw[hm] at h;simp only[cond_false] at h;cases hfl:bF (d+10000) ow with
     | true=>
      rw[hfl] at h;exact dV (us:=[]) h λS' hA ρ=>bMp hd hty hb.2.1 rfl (hr' S' hA ρ) (hlen ρ) (Nat.eq_of_beq_eq_true hc.2) (Nat.le_of_ble_eq_true hb.2.2)
     |false=>
     rw[hfl] at h;exact dV (us:=[]) h λS' hA ρ=>lL hd hty hb.2.1 rfl (hr' S' hA ρ) (hlen ρ) (Nat.eq_of_beq_eq_true hc.2) (Nat.le_of_ble_eq_true hb.2.2)
   ·exact h.elim
  ·exact h.elim
 ·exact h.elim
theorem aAr{t:Nat}{Q:Nat->Nat->Prop}(h:zA T t Q):∃e k,iL P t e k/\Q e k:=by
 unfold zA at h;split at h
 ·rename_i i e h1
  split at h
  ·rename_i j td h2
   exact⟨e,j.size,⟨λw=>run_underlying (Tr'.ok h1).2 w,λw=>wH h2 w⟩,h⟩
  ·exact h.elim
 ·exact h.elim
theorem bSy[Mode]{t:Nat}{x y:Operand}(hd:d<n)(h:bNp T n S ⟨some d,.indexAddr t x y,ty,pos,af,gd⟩ t x y K):cS P n ⟨some d,.indexAddr t x y,ty,pos,af,gd⟩ S K:=by
 have mx:x∈(Op.indexAddr t x y).operands.toList:=by simp[Op.operands]
 have my:y∈(Op.indexAddr t x y).operands.toList:=by simp[Op.operands]
 unfold bNp at h;split at h
 ·rename_i hx hy
  obtain⟨e,k',hs,h⟩:=aAr h;obtain⟨hk,⟨ds,hp,g⟩⟩:=gD h;have hk:=Nat.eq_of_beq_eq_true hk;subst hk;exact dV (us:=[]) g λS' hA ρ=>lX hd (evS hA mx hx) (evS hA my hy) hs hp
 ·rename_i hx hy
  split at h
  ·rename_i hm
   obtain⟨e,k',hs,h⟩:=aAr h;obtain⟨hk,⟨ds,hp,g⟩⟩:=gD h;have hk:=Nat.eq_of_beq_eq_true hk;subst hk;refine dV g λS' hA ρ=>?_;obtain⟨i,hi⟩:=aGk ρ hA (by simp) hm;exact pM hd (evS hA mx hx) hi (evS hA my hy) hs hp
  ·exact h
 ·exact h
theorem bTa[Mode]{t:Nat}{x:Operand}(hd:d<n)(h:bNr T n S ⟨some d,.call {callee:=.builtin .len,args:= #[x],argTypes:= #[t]},ty,pos,af,gd⟩ x t K):cS P n ⟨some d,.call {callee:=.builtin .len,args:= #[x],argTypes:= #[t]},ty,pos,af,gd⟩ S K:=by
 have mx:x∈(Op.call {callee:=.builtin .len,args:= #[x],argTypes:= #[t]}).operands.toList:=by simp[Op.operands,Call.operands]
 unfold bNr at h;split at h
 ·rename_i hx
  obtain⟨e,k',hs,⟨m,rfl,h⟩⟩:=aAr h;exact dV (us:=[]) h λS' hA ρ=>aZy hd (evS hA mx hx) hs
 ·rename_i hx
  split at h
  ·rename_i hm
   obtain⟨e,k',hs,⟨m,rfl,h⟩⟩:=aAr h;refine dV h λS' hA ρ=>?_;obtain⟨i,hi⟩:=aGk ρ hA (by simp) hm;exact aVl hd (evS hA mx hx) hi hs
  ·exact h
 ·exact h
theorem bJy[Mode]{t:Nat}{x y:Operand}(hd:d<n)(h:aTw T n ow S ⟨some d,.call {callee:=.builtin .append,args:= #[x,y],argTypes:= #[t,t]},ty,pos,af,gd⟩ d x y t K):cS P n ⟨some d,.call {callee:=.builtin .append,args:= #[x,y],argTypes:= #[t,t]},ty,pos,af,gd⟩ S K:=by
 have mx:x∈(Op.call {callee:=.builtin .append,args:= #[x,y],argTypes:= #[t,t]}).operands.toList:=by simp[Op.operands,Call.operands]
 have my:y∈(Op.call {callee:=.builtin .append,args:= #[x,y],argTypes:= #[t,t]}).operands.toList:=by simp[Op.operands,Call.operands]
 unfold aTw at h;split at h
 ·rename_i hx hy
  split at h
  ·rename_i hm
   split at h
   ·rename_i ht
    split at h
    ·rename_i he
     obtain⟨hb,⟨zs,hz1,hl,g⟩⟩:=gD h
     clear h
     simp only[Bool.and_eq_true] at hb;have hk1:=Nat.eq_of_beq_eq_true hb.2.2.1;have hk2:=Nat.eq_of_beq_eq_true hb.2.2.2.1;have hk3:=Nat.eq_of_beq_eq_true hb.2.2.2.2;subst hk1;subst hk2;subst hk3;obtain⟨hle,rfl⟩:=aHc hz1;obtain⟨z,hty⟩:=aIy ht he rfl hb.1;cases hlt:bF (d+20000) ow with
     | true=>
      rw[hlt] at g;refine⟨⟨_,g,bJj hm (by simp) λS' hA ρ i hi=>?_⟩⟩;exact aPc hd hty (evS hA mx hx) hi (evS hA my hy) hl hle (Nat.le_of_ble_eq_true hb.2.1)
     |false=>
     rw[hlt] at g;refine⟨⟨_,g,bMt hm (by simp) λS' hA ρ i hi=>?_⟩⟩;exact aPc hd hty (evS hA mx hx) hi (evS hA my hy) hl hle (Nat.le_of_ble_eq_true hb.2.1)
    ·exact h.elim
   ·exact h.elim
  ·exact h
 ·rename_i nn k' rows k rows2 hx hy
  split at h
  ·rename_i ht
   split at h
   ·rename_i he
    obtain⟨hb,⟨zs,hz1,hl,g⟩⟩:=gD h
    clear h
    simp only[Bool.and_eq_true] at hb;have hk1:=Nat.eq_of_beq_eq_true hb.2.2.1;have hk2:=Nat.eq_of_beq_eq_true hb.2.2.2.1;subst hk2;subst hk1;obtain⟨hle,rfl⟩:=aHc hz1;obtain⟨z,hty⟩:=aIy ht he rfl hb.1;refine dV (us:=[]) g λS' hA ρ=>?_;have h1:=bBk (st:=S'.at ρ) hd hty (evS hA mx hx) (evS hA my hy) (aHa ρ hb.2.2.2.2).1 hl hle (Nat.le_of_ble_eq_true hb.2.1) (ty:=ty) (pos:=pos) (af:=af) (gd:=gd);cases nn with
    |true=>exact aLq (.d (.weak _ _)) h1
    |false=>exact h1
   ·exact h.elim
  ·exact h.elim
 ·exact h
theorem bNu[Mode]{t:Nat}{x:Operand}{lo hi:Option Operand}(hd:d<n)(h:bAr T n S ⟨some d,.slice t x lo hi none,ty,pos,af,gd⟩ t x lo hi K):cS P n ⟨some d,.slice t x lo hi none,ty,pos,af,gd⟩ S K:=by
 have mx:x∈(Op.slice t x lo hi none).operands.toList:=by simp[Op.operands]
 unfold bAr at h;split at h
 ·rename_i hx
  obtain⟨e,k',hs,h⟩:=aAr h;obtain⟨hk,g⟩:=gD h
  clear h
  have hk:=Nat.eq_of_beq_eq_true hk;subst hk;split at g
  ·obtain⟨m,rfl,⟨es,hsub,g⟩⟩:=g;exact dV (us:=[]) g λS' hA ρ=>aCf hd hs (evS hA mx hx) rfl rfl hsub
  ·rename_i a
   split at g
   ·rename_i ha
    obtain⟨m,rfl,⟨es,hsub,g⟩⟩:=g;exact dV (us:=[]) g λS' hA ρ=>aCf hd hs (evS hA mx hx) (bo (evS hA (by simp[Op.operands]) ha)) rfl hsub
   ·exact g.elim
  ·rename_i b
   split at g
   ·rename_i hb
    obtain⟨es,hsub,g⟩:=g;exact dV (us:=[]) g λS' hA ρ=>aCf hd hs (evS hA mx hx) rfl (bo (evS hA (by simp[Op.operands]) hb)) hsub
   ·exact g.elim
  ·rename_i a b
   split at g
   ·rename_i ha hb
    obtain⟨es,hsub,g⟩:=g;exact dV (us:=[]) g λS' hA ρ=>aCf hd hs (evS hA mx hx) (bo (evS hA (by simp[Op.operands]) ha)) (bo (evS hA (by simp[Op.operands]) hb)) hsub
   ·exact g.elim
 ·exact h
theorem bNx:∀{l:List Operand} {Q:List AV->Prop},evL S l Q->Q (l.map S.ev)
 |[],_,h=>h
 |x::l,Q,h=>bNx (Q:=λvs=>Q (S.ev x::vs)) (vC (K:=λv=>evL S l λvs=>Q (v::vs)) h)
theorem aHp{S S':VS}(ρ:Rho):∀{l:List Operand},(∀x∈l,S'.ev x=S.ev x)->(S'.at ρ).evals l=(l.map S.ev).map ρ.av
 |[],_=>rfl
 |x::l,h=>by simp only[St.evals,List.map_cons,aWj,h x (by simp),aHp ρ λy hy=>h y (List.mem_cons_of_mem _ hy)]
theorem aXe(ρ:Rho):∀{l:List AV},aJw l=true->l.map ρ.av=l.map ρ.a1
 |[],_=>rfl
 |v::l,h=>by simp only[aJw,Bool.and_eq_true] at h;rw[List.map_cons,List.map_cons,aYg ρ h.1,aXe ρ h.2]
theorem bUe[Mode]{f:Go.Fn}{first caps:List Operand}(hd:d<n)(h:xfn (P:=P) n S ⟨some d,.makeFunc f first.toArray caps.toArray,ty,pos,af,gd⟩ f first caps K):cS P n ⟨some d,.makeFunc f first.toArray caps.toArray,ty,pos,af,gd⟩ S K:=by
 unfold xfn at h;split at h
 ·obtain⟨hok,h⟩:=gD h;have h:=bNx (Q:=λvs=>bif aJw vs then K (.p (.fn _ vs)) else cS P n _ S K) h;cases hf:aJw (caps.map S.ev) with
  |false=>rw[hf] at h;exact h
  | true=>
   rw[hf] at h;refine dV (us:=[]) h λS' hA ρ=>?_;have:=aHp (S:=S) (S':=S') ρ (l:=caps) λx hx=>hA.ev x (by simp[Op.operands,hx]);rw[aXe ρ hf] at this;exact aLp hd this hok
 ·exact h
theorem bQu[Mode]{t u:Nat}{x:Operand}(hd:d<n)(h:bFv T n S ⟨some d,.convert t u x,ty,pos,af,gd⟩ t u x K):cS P n ⟨some d,.convert t u x,ty,pos,af,gd⟩ S K:=by
 have mx:x∈(Op.convert t u x).operands.toList:=by simp[Op.operands]
 unfold bFv at h;split at h
 ·rename_i p i k' k p' h1 h2 hx
  exact dV (us:=[]) h λS' hA ρ=>aGr hd (evS hA mx hx) (λw=>run_underlying (Tr'.ok h1).2 w) (λw=>run_underlying (Tr'.ok h2).2 w)
 ·exact h
theorem bEb{α:Type}{a:Array α}{l:List α}(h:a.toList=l):a=l.toArray:=by subst h;simp
theorem aWq[Mode]{o:Oper}(hd:∀d,o.dst=some d->d<n)(h:xop T n ow S o K):cS P n o S K:=by
 obtain⟨dst,op,ty,pos,af,gd⟩:=o;unfold xop at h;cases dst with
 | some d=>
  have hd1:=hd d rfl
  clear hd
  simp only at h;unfold bTd at h;split at h
  ·exact bDn hd1 (.inl rfl) h
  ·exact bDn hd1 (.inr rfl) h
  ·exact aGx hd1 h
  ·exact bSv hd1 h
  ·exact bUf hd1 h
  ·exact bSx hd1 h
  ·exact bTc hd1 h
  ·exact bQw hd1 h
  ·exact bNk hd1 h
  ·exact bSw hd1 h
  ·exact bQv hd1 h
  ·rename_i l;obtain⟨l⟩:=l;exact bNn hd1 h
  ·rename_i l;obtain⟨l⟩:=l;exact bTb hd1 h
  ·exact bSy hd1 h
  ·exact bNu hd1 h
  ·rename_i f a b;obtain⟨a⟩:=a;obtain⟨b⟩:=b;exact bUe hd1 h
  ·exact bQu hd1 h
  ·exact bQx hd1 h
  ·rename_i c
   split at h
   ·rename_i b hb
    obtain⟨callee,args,ts⟩:=c;simp only at hb h;subst hb;unfold bJz at h;split at h
    ·rename_i ha ht
     have ha:=bEb ha;have ht:=bEb ht;subst ha;subst ht;exact bTa hd1 h
    ·rename_i ha ht
     have ha:=bEb ha;have ht:=bEb ht;subst ha;subst ht
     rename_i t u
     cases htu:Nat.beq t u with
     | true=>
      rw[htu] at h;have:=Nat.eq_of_beq_eq_true htu;subst this;exact bJy hd1 h
     |false=>rw[htu] at h;exact h
    ·exact h
   ·exact h
  ·exact h
 | none=>
  simp only at h;split at h
  ·exact bNv h
  ·exact h
end
end Go.Am
end
section
namespace Go.Am
def okD:D->Bool
 | .hv .. =>false
 |_=>true
def vD1(objs:List (Nat×VO)):D->D
 | .hv q h j=>match q,ob objs h with
  |0,some (.arr _ k rows)=>.sl k rows
  |_,_=>.hv q h j
 |x=>x
def vA0(objs:List (Nat×VO)):AV->AV
 | .d x=>.d (vD1 objs x)
 | .agg xs=>.agg (xs.map (vD1 objs))
 | .bp h o j=>match ob objs h with
  |some (.box ds)=>bif Nat.ble j ds.length&&((ds.drop j).map (vD1 objs)).all okD then .cp ((ds.drop j).map (vD1 objs)) else .bp h o j
  |_=>.bp h o j
 |x=>x
def vA1(objs:List (Nat×VO)):AV->AV
 | .tup vs=>.tup (vs.map (vA0 objs))
 | .fn f vs=>.fn f (vs.map (vA0 objs))
 |x=>vA0 objs x
def vA(objs:List (Nat×VO)):AV->AV
 | .tup vs=>.tup (vs.map (vA1 objs))
 | .fn f vs=>.fn f (vs.map (vA1 objs))
 |x=>vA0 objs x
def ok0:AV->Bool
 | .d x=>okD x
 | .agg xs=>xs.all okD
 | .bp .. =>false
 | .ep .. =>false
 |_=>true
def ok1:AV->Bool
 | .tup vs=>vs.all ok0
 | .fn _ vs=>vs.all ok0
 | .mf _ vs=>vs.all ok0
 |x=>ok0 x
def okA:AV->Bool
 | .tup vs=>vs.all ok1
 | .fn _ vs=>vs.all ok1
 | .mf _ vs=>vs.all ok1
 |x=>ok0 x
def rQ(objs:List MO):Prop:=∀v e k rows,MO.arr v e k rows∈objs->∀r∈rows,r.length=k
theorem aLn[Mode]{w:World}{X:bE}{objs:List MO}(h:∀m∈objs,m.holds w X):rQ objs:=λv e k rows hm=>by
 obtain⟨_,_,_,hr⟩:=h _ hm;exact hr
theorem oP{α:Type}{f:α->α}{p:α->Bool}(hp:∀x,p x=true->f x=x):∀{l:List α},l.all p=true->l.map f=l
 |[],_=>rfl
 | x::l,h=>by
  simp only[List.all_cons,Bool.and_eq_true] at h;rw[List.map_cons,hp x h.1,oP hp h.2]
section
variable(ρ:Rho)
theorem aZg{x:D}(h:okD x=true):ρ.dd x=x:=by cases x<;>first|rfl|simp[okD] at h
theorem tK{x:AV}(h:ok0 x=true):ρ.a0 x=x:=by
 cases x with
 |d x=>simp only[Rho.a0,aZg ρ (show okD x=true from h)]
 |agg xs=>simp only[Rho.a0,oP (λx=>aZg ρ (x:=x)) h]
 |bp=>simp[ok0] at h
 |ep=>simp[ok0] at h
 |_=>rfl
theorem aZf{x:AV}(h:ok1 x=true):ρ.a1 x=x:=by
 cases x with
 |tup vs=>simp only[Rho.a1,oP (λx=>tK ρ (x:=x)) h]
 |fn f vs=>simp only[Rho.a1,oP (λx=>tK ρ (x:=x)) h]
 |mf f vs=>simp only[Rho.a1,oP (λx=>tK ρ (x:=x)) h]
 |any=>rfl
 |d x=>exact tK ρ (x:=.d x) h
 |agg x=>exact tK ρ (x:=.agg x) h
 |cp x=>rfl
 |bp b o j=>exact tK ρ (x:=.bp b o j) h
 |ep v k i c=>exact tK ρ (x:=.ep v k i c) h
 |fl=>rfl
theorem aRc{x:AV}(h:okA x=true):ρ.av x=x:=by
 cases x with
 |tup vs=>simp only[Rho.av,oP (λx=>aZf ρ (x:=x)) h]
 |fn f vs=>simp only[Rho.av,oP (λx=>aZf ρ (x:=x)) h]
 |mf f vs=>simp only[Rho.av,oP (λx=>aZf ρ (x:=x)) h]
 |any=>rfl
 |d x=>exact tK ρ (x:=.d x) h
 |agg x=>exact tK ρ (x:=.agg x) h
 |cp x=>rfl
 |bp b o j=>exact tK ρ (x:=.bp b o j) h
 |ep v k i c=>exact tK ρ (x:=.ep v k i c) h
 |fl=>rfl
variable{objs:List (Nat×VO)}
theorem bIj{h:Nat}{m:VO}(hm:ob objs h=some m):ρ.mo h m∈objs.map λp=>ρ.mo p.1 p.2:=by
 obtain⟨i,hi,_⟩:=zK (ρ:=ρ) hm;exact List.mem_of_getElem? hi
theorem bAo(hr:rQ (objs.map λp=>ρ.mo p.1 p.2))(x:D):DV (objs.map λp=>ρ.mo p.1 p.2) (ρ.dd x) (ρ.dd (vD1 objs x)):=by
 cases x with
 | hv q h j=>
  simp only[vD1]
  split
  ·rename_i hm
   have hmem:=bIj ρ hm;exact .arr _ _ _ _ _ hmem rfl (hr _ _ _ _ hmem) λ_ _ _ _=>.same _
  ·exact .same _
 |_=>exact .same _
theorem aSu{fs:List MO}{f g:D->D}(h:∀x,DV fs (f x) (g x)):∀l:List D,DVs fs (l.map f) (l.map g)
 |[]=>trivial
 |x::l=>⟨h x,aSu h l⟩
theorem aAx(hr:rQ (objs.map λp=>ρ.mo p.1 p.2))(x:AV):BV (objs.map λp=>ρ.mo p.1 p.2) (ρ.a0 x) (ρ.a0 (vA0 objs x)):=by
 cases x with
 |d x=>exact .d (bAo ρ hr x)
 | agg xs=>
  have:=aSu (bAo ρ hr) xs;simp only[Rho.a0,vA0,List.map_map];exact .agg this
 | bp h o j=>
  simp only[vA0]
  split
  ·rename_i ds hm
   have hmem:=bIj ρ hm;cases hj:(Nat.ble j ds.length&&((ds.drop j).map (vD1 objs)).all okD) with
   |false=>exact .same _
   | true=>
    simp only[Bool.and_eq_true] at hj;refine .bp _ _ j (ds.map ρ.dd) _ hmem (by simpa using Nat.le_of_ble_eq_true hj.1) ?_;have h1:=aSu (bAo ρ hr) (ds.drop j);have h2:((ds.drop j).map (vD1 objs)).map ρ.dd=(ds.drop j).map (vD1 objs):=oP (λx=>aZg ρ (x:=x)) hj.2;rw[<-List.map_drop,<-h2,List.map_map];exact h1
  ·exact .same _
 |_=>exact .same _
theorem aGc{fs:List MO}{f g:AV->AV}(h:∀x,BV fs (f x) (g x)):∀l:List AV,BVs fs (l.map f) (l.map g)
 |[]=>.nil
 |x::l=>.cons (h x) (aGc h l)
theorem bJu(b o j:Nat):ρ.a1 (vA0 objs (.bp b o j))=ρ.a0 (vA0 objs (.bp b o j))/\ρ.av (vA0 objs (.bp b o j))=ρ.a0 (vA0 objs (.bp b o j)):=by
 simp only[vA0]
 split
 ·cases(Nat.ble j _&&_)<;>exact⟨rfl,rfl⟩
 ·exact⟨rfl,rfl⟩
theorem bJv(hr:rQ (objs.map λp=>ρ.mo p.1 p.2))(x:AV):BV (objs.map λp=>ρ.mo p.1 p.2) (ρ.a1 x) (ρ.a1 (vA1 objs x)):=by
 cases x with
 | tup vs=>
  simp only[Rho.a1,vA1,List.map_map];exact zX (aGc (aAx ρ hr) vs)
 | fn f vs=>
  simp only[Rho.a1,vA1,List.map_map];exact aMd (aGc (aAx ρ hr) vs)
 |mf f vs=>exact .same _
 |any=>exact .same _
 |d x=>exact aAx ρ hr (.d x)
 |agg x=>exact aAx ρ hr (.agg x)
 |cp x=>exact .same _
 |bp b o j=>exact(bJu ρ b o j).1▸aAx ρ hr (.bp b o j)
 |ep v k i c=>exact .same _
 |fl=>exact .same _
theorem bOp(hr:rQ (objs.map λp=>ρ.mo p.1 p.2))(x:AV):BV (objs.map λp=>ρ.mo p.1 p.2) (ρ.av x) (ρ.av (vA objs x)):=by
 cases x with
 | tup vs=>
  simp only[Rho.av,vA,List.map_map];exact zX (aGc (bJv ρ hr) vs)
 | fn f vs=>
  simp only[Rho.av,vA,List.map_map];exact aMd (aGc (bJv ρ hr) vs)
 |mf f vs=>exact .same _
 |any=>exact .same _
 |d x=>exact aAx ρ hr (.d x)
 |agg x=>exact aAx ρ hr (.agg x)
 |cp x=>exact .same _
 |bp b o j=>exact(bJu ρ b o j).2▸aAx ρ hr (.bp b o j)
 |ep v k i c=>exact .same _
 |fl=>exact .same _
theorem aEz(hr:rQ (objs.map λp=>ρ.mo p.1 p.2)){x y:AV}(h:vA objs x=y)(hy:okA y=true):BV (objs.map λp=>ρ.mo p.1 p.2) (ρ.av x) y:=by
 have:=bOp ρ hr x;rw[h,aRc ρ hy] at this;exact this
end
def goO(hs:List Nat):List (Nat×VO)->List (Nat×VO)
 |[]=>[]
 |p::l=>bif bF p.1 hs then p::goO hs l else goO hs l
def stO(hs:List Nat):List (Nat×VO)->List (Nat×VO)
 |[]=>[]
 |p::l=>bif bF p.1 hs then stO hs l else p::stO hs l
def goK(hs:List Nat):List (Nat×VO)->(List (Nat×VO)->List (Nat×VO)->Prop)->Prop
 |[],K=>K [] []
 |p::l,K=>goK hs l λa b=>bif bF p.1 hs then K (p::a) b else K a (p::b)
theorem bNz{hs:List Nat}:∀{l:List (Nat×VO)} {K:List (Nat×VO)->List (Nat×VO)->Prop},goK hs l K->K (goO hs l) (stO hs l)
 |[],_,h=>h
 | p::l,K,h=>by
  have:=bNz (K:=λa b=>bif bF p.1 hs then K (p::a) b else K a (p::b)) h;simp only[goO,stO];cases hb:bF p.1 hs with
  |true=>rw[hb] at this;exact this
  |false=>rw[hb] at this;exact this
theorem aSx{hs:List Nat}{f:Nat×VO->MO}:∀{l:List (Nat×VO)},(l.map f).Perm ((stO hs l).map f++(goO hs l).map f)
 |[]=>.refl _
 | p::l=>by
  simp only[goO,stO];cases bF p.1 hs with
  | true=>
   simp only[cond_true,List.map_cons];exact(List.Perm.cons _ aSx).trans List.perm_middle.symm
  | false=>
   simp only[cond_false,List.map_cons,List.cons_append];exact .cons _ aSx
def aYu(go:List (Nat×VO)):List (Nat×AV)->(List (Nat×AV)->Prop)->Prop
 |[],K=>K []
 |p::l,K=>frc (vA go p.2) λv=>aYu go l λr=>K ((p.1,v)::r)
theorem bHy{go:List (Nat×VO)}:∀{l:List (Nat×AV)} {K:List (Nat×AV)->Prop},aYu go l K->K (l.map λp=>(p.1,vA go p.2))
 |[],_,h=>h
 |p::l,K,h=>bHy (K:=λr=>K ((p.1,vA go p.2)::r)) (vC (K:=λv=>aYu go l λr=>K ((p.1,v)::r)) h)
def bLz(hs:List Nat)(S:VS)(K:VS->Prop):Prop:=goK hs S.objs λgo st=>aYu go S.env λenv=>K ⟨env,st⟩
def bMa(hs:List Nat)(S:VS):VS:=⟨S.env.map λp=>(p.1,vA (goO hs S.objs) p.2),stO hs S.objs⟩
theorem bHz{hs:List Nat}{S:VS}{K:VS->Prop}(h:bLz hs S K):K (bMa hs S):=
 bHy (K:=λenv=>K ⟨env,stO hs S.objs⟩) (bNz (K:=λgo st=>aYu go S.env λenv=>K ⟨env,st⟩) h)
theorem bIa{f:AV->AV}(hf:f .any=.any){k:Nat}:∀{l:List (Nat×AV)},lk (l.map λp=>(p.1,f p.2)) k=f (lk l k)
 |[]=>hf.symm
 | p::l=>by
  simp only[List.map_cons,lk];cases Nat.beq p.1 k with
  |true=>rfl
  |false=>exact bIa hf
theorem aYv[Mode]{hs:List Nat}{S:VS}(ρ:Rho):Ent (S.at ρ) ((bMa hs S).at ρ):=λA M w0 n a w hR=>by
 have hp:=aSx (hs:=hs) (f:=λp=>ρ.mo p.1 p.2) (l:=S.objs);have hr:rQ ((goO hs S.objs).map λp=>ρ.mo p.1 p.2):=λv e k rows hm=>aLn hR.inv.holds v e k rows (hp.mem_iff.2 (List.mem_append.2 (.inr hm)));refine kD (env:=(S.at ρ).env) (env':=((bMa hs S).at ρ).env) hp (λk=>?_) A M w0 n a w hR;show BV _ (ρ.av (lk S.env k)) (ρ.av (lk (S.env.map λp=>(p.1,vA (goO hs S.objs) p.2)) k));rw[bIa rfl];exact bOp ρ hr _
def lkL:List (Nat×List Nat)->Nat->List Nat
 |[],_=>[]
 |p::l,k=>bif Nat.beq p.1 k then p.2 else lkL l k
end Go.Am
end
