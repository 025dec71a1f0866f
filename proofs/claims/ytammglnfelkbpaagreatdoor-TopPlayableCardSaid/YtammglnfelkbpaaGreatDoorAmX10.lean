/- Several texts, one behind the other. -/
import Derived.Test.YtammglnfelkbpaaGreatDoorAmX3
section
section
namespace Go.Am
section
variable{P:Program}{T:TT P}{n:Nat}{ow:List Nat}{S:VS}{d:Nat}{ty:TypeId}{pos:String}{af:Array Edge}{gd:Option (Nat×Bool)}{K:Eff->Prop}
theorem evS{S':VS}{op:Op}{us:List Nat}{x:Operand}{v:AV}{ρ:Rho}(hA:Agr op S S' us)(hx:x∈op.operands.toList)(h:S.ev x=v):(S'.at ρ).eval x=ρ.av v:=by rw[sQ,hA.ev x hx,h]
theorem dP[Mode]{op:Op}{v:AV}{us:List Nat}(hK:K (.r v us))(h:∀S',Agr op S S' us->∀ρ,aQ P n ⟨some d,op,ty,pos,af,gd⟩ (S'.at ρ) ((S'.at ρ).set d (ρ.av v))):bY P n ⟨some d,op,ty,pos,af,gd⟩ S K:=⟨⟨_,hK,bSq h⟩⟩
theorem cMo[Mode]{op:Op}{x:Operand}(hm:x∈op.operands.toList)(hop:∀(st:St) (v:AV),cD x=true->st.eval x=v->aQ P n ⟨some d,op,ty,pos,af,gd⟩ st (st.set d v))(h:zJ S x K):bY P n ⟨some d,op,ty,pos,af,gd⟩ S K:=by
 unfold zJ at h;cases hk:cD x with
 |false=>rw[hk] at h;exact h.elim
 | true=>
  rw[hk] at h;exact dP (us:=[]) (zW (K:=λv=>K (.p v)) h) λS' hA ρ=>hop _ _ hk (evS hA hm rfl)
theorem bZn{t:Nat}{Q:Nat->Nat->Nat->Prop}(h:bHt T t Q):∃i e j td,T.ty.get t=some (i,.slice e)/\T.ty.get e=some (j,td)/\Q e j.size j.bytes:=by
 unfold bHt at h;split at h
 ·rename_i i e h1
  split at h
  ·rename_i j td h2
   exact⟨i,e,j,td,h1,h2,h⟩
  ·exact h.elim
 ·exact h.elim
theorem bPd[Mode]{op:Op}{x:Operand}(hd:d<n)(hop:op=.move x\/op=.assign x)(h:bGe T ow S ⟨some d,op,ty,pos,af,gd⟩ d x K):bY P n ⟨some d,op,ty,pos,af,gd⟩ S K:=by
 have gen:zJ S x K->bY P n ⟨some d,op,ty,pos,af,gd⟩ S K:=λh=>cMo (by rcases hop with rfl|rfl<;>simp[Op.operands]) (λst v hk hx=>by
  rcases hop with rfl|rfl
  ·exact dI hd hx hk
  ·exact cS hd hx hk) h
 unfold bGe at h;split at h
 ·obtain⟨i,e,j,td,h1,h2,h⟩:=bZn h;cases hm:aY d ow with
  | true=>
   rw[hm] at h;cases ho:lV d S with
   | true=>
    rw[ho] at h;exact⟨⟨_,h,bKl (us:=[]) λS' hA ρ=>cM (yB e j.size (op:=op) (by rcases hop with rfl|rfl;exact .inr rfl;exact .inl rfl) hd) λs hs=>⟨_,hs⟩⟩⟩
   | false=>
    rw[ho] at h;exact⟨⟨_,h,aUb (us:=[]) λS' hA ρ=>cM (yB e j.size (op:=op) (by rcases hop with rfl|rfl;exact .inr rfl;exact .inl rfl) hd) λs hs=>⟨_,hs⟩⟩⟩
  | false=>
   rw[hm] at h;refine dP (us:=[]) h λS' hA ρ=>?_
   rcases hop with rfl|rfl
   ·exact cLq j.size hd
   ·exact wV j.size hd
 ·exact gen h
theorem aNf[Mode]{c x y:Operand}(hd:d<n)(h:aPz S c x y K):bY P n ⟨some d,.pick c x y,ty,pos,af,gd⟩ S K:=by
 unfold aPz at h;split at h
 ·rename_i b hc
  have h:=bCo h;have hcm:c∈(Op.pick c x y).operands.toList:=by simp[Op.operands]
  cases b with
  | true=>
   unfold zJ at h;cases hk:cD x with
   |false=>rw[hk] at h;exact h.elim
   | true=>
    rw[hk] at h;exact dP (us:=[]) (zW (K:=λv=>K (.p v)) h) λS' hA ρ=>aEs hd (evS hA hcm hc) rfl (evS hA (by simp[Op.operands]) rfl) hk
  | false=>
   unfold zJ at h;cases hk:cD y with
   |false=>simp only[hk] at h;exact h.elim
   | true=>
    simp only[hk] at h;exact dP (us:=[]) (zW (K:=λv=>K (.p v)) h) λS' hA ρ=>aJr hd (evS hA hcm hc) rfl (evS hA (by simp[Op.operands]) rfl) hk
 ·exact h.elim
theorem iS{b:Bool}{p:Prop}(h:bif b then p else False):b=true/\p:=by cases b with
 |true=>exact⟨rfl,h⟩
 |false=>exact h.elim
theorem cMi[Mode]{op:BinOp}{x y:Operand}{t u:TypeId}{k k':IntKind}{p q:Int}(hd:d<n)(hx:S.ev x=.d (.lit (.int k p)))(hy:S.ev y=.d (.lit (.int k' q)))(h:cDe (P:=P) n S ⟨some d,.binOp op t x y u,ty,pos,af,gd⟩ op k k' p q K):
  bY P n ⟨some d,.binOp op t x y u,ty,pos,af,gd⟩ S K:=by
 have mx:∀op,x∈(Op.binOp op t x y u).operands.toList:=λ_=>by simp[Op.operands]
 have my:∀op,y∈(Op.binOp op t x y u).operands.toList:=λ_=>by simp[Op.operands]
 cases op<;>simp only[cDe] at h
 case add=>obtain⟨h1,g⟩:=iS h;have:=tX h1;subst this;exact dP (us:=[]) g λS' hA ρ=>yX hd (evS hA (mx _) hx) (evS hA (my _) hy) rfl
 case sub=>obtain⟨h1,g⟩:=iS h;have:=tX h1;subst this;exact dP (us:=[]) g λS' hA ρ=>yX hd (evS hA (mx _) hx) (evS hA (my _) hy) rfl
 case mul=>obtain⟨h1,g⟩:=iS h;have:=tX h1;subst this;exact dP (us:=[]) g λS' hA ρ=>yX hd (evS hA (mx _) hx) (evS hA (my _) hy) rfl
 case lss=>obtain⟨h1,g⟩:=iS h;have:=tX h1;subst this;exact dP (us:=[]) g λS' hA ρ=>wU hd (evS hA (mx _) hx) (evS hA (my _) hy) rfl
 case leq=>obtain⟨h1,g⟩:=iS h;have:=tX h1;subst this;exact dP (us:=[]) g λS' hA ρ=>wU hd (evS hA (mx _) hx) (evS hA (my _) hy) rfl
 case gtr=>obtain⟨h1,g⟩:=iS h;have:=tX h1;subst this;exact dP (us:=[]) g λS' hA ρ=>wU hd (evS hA (mx _) hx) (evS hA (my _) hy) rfl
 case geq=>obtain⟨h1,g⟩:=iS h;have:=tX h1;subst this;exact dP (us:=[]) g λS' hA ρ=>wU hd (evS hA (mx _) hx) (evS hA (my _) hy) rfl
 case eql=>obtain⟨h1,g⟩:=iS h;have:=tX h1;subst this;exact dP (us:=[]) g λS' hA ρ=>wU hd (evS hA (mx _) hx) (evS hA (my _) hy) rfl
 case neq=>obtain⟨h1,g⟩:=iS h;have:=tX h1;subst this;exact dP (us:=[]) g λS' hA ρ=>wU hd (evS hA (mx _) hx) (evS hA (my _) hy) rfl
 case quo=>obtain⟨h1,h0,g⟩:=iS h;have:=tX h1;subst this;exact dP (us:=[]) g λS' hA ρ=>cNt hd (evS hA (mx _) hx) (evS hA (my _) hy) h0
 case rem=>obtain⟨h1,h0,g⟩:=iS h;have:=tX h1;subst this;exact dP (us:=[]) g λS' hA ρ=>cNu hd (evS hA (mx _) hx) (evS hA (my _) hy) h0
 case shl=>obtain⟨h0,h⟩:=h;exact dP (us:=[]) h λS' hA ρ=>bGb hd (evS hA (mx _) hx) (evS hA (my _) hy) h0
 case shr=>obtain⟨h0,h⟩:=h;exact dP (us:=[]) h λS' hA ρ=>cEt hd (evS hA (mx _) hx) (evS hA (my _) hy) h0
 all_goals exact h
theorem cMe[Mode]{op:BinOp}{x y:Operand}{t u:TypeId}(hd:d<n)(h:cCz (P:=P) n S ⟨some d,.binOp op t x y u,ty,pos,af,gd⟩ op t x y K):bY P n ⟨some d,.binOp op t x y u,ty,pos,af,gd⟩ S K:=by
 unfold cCz at h;split at h
 ·rename_i h1 h2;exact cMi hd h1 h2 h
 ·exact h
theorem cOc[Mode]{op:UnOp}{x:Operand}{t:TypeId}(hd:d<n)(h:xun (P:=P) n S ⟨some d,.unOp op t x,ty,pos,af,gd⟩ op x K):bY P n ⟨some d,.unOp op t x,ty,pos,af,gd⟩ S K:=by
 have mx:∀op,x∈(Op.unOp op t x).operands.toList:=λ_=>by simp[Op.operands]
 unfold xun at h;split at h
 ·rename_i h1;exact dP (us:=[]) h λS' hA ρ=>bAp hd (evS hA (mx _) h1)
 ·rename_i h1;exact dP (us:=[]) h λS' hA ρ=>cNr hd (evS hA (mx _) h1)
 ·exact h
theorem DR.nohv{w:World}{X:aR}{x:D}{v:Value}(h:DR w X x v)(ρ:Rho):ρ.dd x=x:=by cases h<;>rfl
theorem DRs.nohv{w:World}{X:aR}(ρ:Rho):∀{ds:List D} {vs:List Value},DRs w X ds vs->ds.map ρ.dd=ds
 |[],[],_=>rfl
 |_::_,_::_,h=>by simp only[j3,h.1.nohv ρ,DRs.nohv ρ h.2]
theorem bOy[Mode]{o:Oper}{st:St}{x:Operand}{ds:List D}{ρ:Rho}{Q:St->Prop}(hx:st.eval x=.cp ds)(h:ds.map ρ.dd=ds->Step P n o st Q):Step P n o st Q:=by
 intro A M w0 a w hR K R hK;have hk:cD x=true:=by cases x with|const u=>cases hx|_=>rfl
 have hv:=hR.eval' hk;rw[hx] at hv;have:ds.map ρ.dd=ds:=by
  generalize a.eval x=u at hv
  cases hv with|cp _ _ hds _ _=>exact hds.nohv ρ
 exact h this A M w0 a w hR K R hK
theorem cMg[Mode]{t f:Nat}{x:Operand}(hd:d<n)(h:cDc T S t x f K):bY P n ⟨some d,.fieldAddr t x f,ty,pos,af,gd⟩ S K:=by
 have mx:x∈(Op.fieldAddr t x f).operands.toList:=by simp[Op.operands]
 unfold cDc at h;split at h
 ·rename_i i fs h1
  split at h
  ·rename_i fd h2
   rw[bCn] at h2;split at h
   ·rename_i j td h3
    obtain⟨h4,h⟩:=iS h;have hf:=cCx h1 h2 h3 h4;split at h
    ·rename_i hx;exact dP (us:=[]) h λS' hA ρ=>jU hd (evS hA mx hx) hf
    ·rename_i ds hx
     obtain⟨hl,h⟩:=aAd (K:=λes=>K (.p (.cp es))) h;exact dP (us:=[]) h λS' hA ρ=>aHr hd (evS hA mx hx) hf (by rw[hl])
    ·rename_i hx;exact dP (us:=[]) h λS' hA ρ=>bSi hd (evS hA mx hx) hf
    ·exact h.elim
   ·exact h.elim
  ·exact h.elim
 ·exact h.elim
theorem cMl[Mode]{x:Operand}(hd:d<n)(h:cDh (P:=P) n S ⟨some d,.nilCheck x,ty,pos,af,gd⟩ x K):bY P n ⟨some d,.nilCheck x,ty,pos,af,gd⟩ S K:=by
 have mx:x∈(Op.nilCheck x).operands.toList:=by simp[Op.operands]
 unfold cDh at h;split at h
 ·rename_i hx;exact dP (us:=[]) h λS' hA ρ=>gQ hd (evS hA mx hx)
 ·rename_i hx;exact dP (us:=[]) h λS' hA ρ=>qK hd (evS hA mx hx)
 ·exact h
theorem aSn{es:List D}{K:D->Prop}(h:one1 es K):∃x,es=[x]/\K x:=by
 unfold one1 at h;split at h
 ·exact⟨_,rfl,h⟩
 ·exact h.elim
theorem aMs{S':VS}{op:Op}{us:List Nat}{h:Nat}{m:VO}(ρ:Rho)(hA:Agr op S S' us)(hu:h∈us)(hm:ob S.objs h=some m):∃i:Nat,(S'.at ρ).objs[i]?=some (ρ.mo h m):=by
 obtain⟨i,h1,_⟩:=oM (ρ:=ρ) ((hA.ob h hu).trans hm);exact⟨i,h1⟩
theorem bBb{ds:List D}{j:Nat}{x:D}(h:(ds.drop j).take 1=[x]):ds[j]?=some x:=by
 have:=aA5 (·[0]?) h
 simpa using this
theorem bCj{α:Type}{f:α->α}:∀{l:List α},l.map f=l->∀x∈l,f x=x
 |[],_,_,h=>by cases h
 | y::l,h,x,hx=>by
  simp only[j3,aC7] at h
  rcases l4.1 hx with rfl|hx
  ·exact h.1
  ·exact bCj h.2 x hx
theorem bCb{α:Type}{f:α->α}:∀{l:List α},(∀x∈l,f x=x)->l.map f=l
 |[],_=>rfl
 |y::l,h=>by rw[j3,h y (by simp),bCb λx hx=>h x (j5 _ hx)]
theorem aYy[Mode]{w:World}{X:aR}{e k:Nat}{v:Value}{rows:List (List D)}(h:(MO.arr v e k rows).holds w X)(ρ:Rho){i:Nat}{ds:List D}(hi:rows[i]?=some ds):ds.map ρ.dd=ds:=by
 obtain⟨xs,hxs,_,hr⟩:=h;exact bCb λx hx=>bCj (hxs.nohv ρ) x (List.mem_flatten.2 ⟨ds,i8 hi,hx⟩)
theorem aXg[Mode]{o:Oper}{st:St}{i:Nat}{m:MO}{Q:St->Prop}(hm:st.objs[i]?=some m)(h:(∃w X,m.holds w X)->Step P n o st Q):Step P n o st Q:=
 λA M w0 a w hR=>h ⟨w,_,hR.inv.holds m (i8 hm)⟩ A M w0 a w hR
theorem aWk{f:D->D}{ds:List D}{j m:Nat}:((ds.map f).drop j).take m=((ds.drop j).take m).map f:=by simp[List.map_drop,List.map_take]
theorem bVo(ρ:Rho){x:D}{w:World}{X:aR}{v:Value}(h:VR w X (ρ.av (.d x)) v):VR w X (ρ.av (ldA x)) v:=by
 cases x with
 | pt xs=>
  cases h with
  | d h=>cases h with
   | pt _ b o f hc hr=>
    refine .cp (vs:=(List.range xs.length).map f) b o (DRs.of (by simp) λj d v hj hv=>?_) (λj v hv=>?_) λj hj=>(hc j hj).2
    ·have hl:j<xs.length:=(g7.1 hj).1
     simp[hl] at hv
     exact hv▸hr j d hj
    ·have hl:j<xs.length:=by have:=(g7.1 hv).1;simpa using this
     simp[hl] at hv
     exact hv▸(hc j hl).1
 | hv q h' j=>
  match q,h with
  |0,h=>exact h
  |1,h=>exact h
  | 2,h=>
   have h2:VR w X (.d (.lit (.pointer (some ⟨ρ.bb h',ρ.oo h'+j,none⟩)))) v:=h;cases h2 with
   | d h=>cases h with
    |lit=>exact .bp _ _ _
  |q+3,h=>exact h
 |_=>exact h
theorem bKq[Mode]{o:Oper}{st:St}{x y:AV}(hxy:∀w X v,VR w X x v->VR w X y v)(h:aQ P n o st (st.set d x)):aQ P n o st (st.set d y):=by
 intro A M w0 a w hR K Q hK;refine h A M w0 a w hR K Q ?_;rintro s a' w' rfl hR';refine hK _ a' w' rfl ⟨hR'.size,hR'.defers,λk=>?_,hR'.inv,hR'.keeps,hR'.own,hR'.old⟩;have h':VR w' (aU A st.objs) (upd st.env d x k) (a'.tmps.getD k undef):=hR'.env k;show VR w' _ (upd st.env d y k) _
 by_cases hk:d=k
 ·subst hk;rw[fD] at h'|-;exact hxy _ _ _ h'
 ·rw[lC _ _ hk] at h'|-;exact h'
theorem bBm(ρ:Rho){x:AV}{ds:List D}{w:World}{X:aR}{v:Value}(hc:cJn x=some ds)(h:VR w X (ρ.av x) v):DRs w X (ds.map ρ.dd) v.cells.toList:=by
 have key:∀x:AV,x.cells=some ds->VR w X (ρ.av x) v->DRs w X (ds.map ρ.dd) v.cells.toList:=λx hc h=>by
  refine h.cells ?_;cases x with
  |d x=>simp[AV.cells] at hc;subst hc;rfl
  |agg xs=>simp[AV.cells] at hc;subst hc;rfl
  |_=>simp[AV.cells] at hc
 cases x with
 | bp h' o' j=>
  cases hc;cases h with
  |bp=>exact⟨.lit _ rfl,trivial⟩
 | cp xs=>
  cases hc;cases h with
  | cp b o hd hc' hx=>
   rename_i vs
   refine⟨?_,trivial⟩;refine .pt xs b o (λj=>vs.getD j undef) (λj hj=>?_) λj d hj=>?_
   ·have hl:j<vs.length:=by rw[hd.length];exact hj
    exact⟨hc' j _ (by simp[hl]),hx j hj⟩
   ·obtain⟨v,hv,hdv⟩:=hd.get hj;simp only[List.getD,hv,u7];exact hdv
 |any=>exact key .any hc h
 |d x=>exact key (.d x) hc h
 |agg x=>exact key (.agg x) hc h
 |ep=>cases hc
 |tup=>cases hc
 |fn=>cases hc
 |mf=>cases hc
 |fl=>cases hc
theorem cLm[Mode]{st:St}{x:Operand}{t:TypeId}{ds:List D}(hd:d<n)(hk:cD x=true)(hv:∀w X u,VR w X (st.eval x) u->DRs w X ds u.cells.toList):
  Step P n ⟨some d,.box t x,ty,pos,af,gd⟩ st (λs=>∃b,s=(st.setadd d (.bp b 0 0) (.box b 0 ds))):=by
 intro A M w0 a w hR K Q hK;have hds:=hv _ _ _ (hR.eval' hk);unfold Oper.wp;have hrun:(execOp a.eval ⟨some d,.box t x,ty,pos,af,gd⟩).run P w=.ok (.value (.pointer (some ⟨w.heap.size,0,none⟩))) (w.alloc (.cells (a.eval x).cells t)):=by
  simp[execOp,Instr.box,newVar,newRow]
 rw[hrun,Oper.upon_value];refine hK _ _ _ ⟨w.heap.size,rfl⟩ ?_;have hR':=hR.add (w':=w.alloc (.cells (a.eval x).cells t)) (m:=.box w.heap.size 0 ds) (Keeps.alloc _ _ _) (λb o hf=>by cases hf.1;exact n5 _)
  (λhm=>aRd hds hm)
 exact hR'.put (o:=⟨some d,.box t x,ty,pos,af,gd⟩) rfl hd (.bp _ 0 0)
theorem cIp[Mode]{t:TypeId}{x:Operand}(hd:d<n)(h:bTa T n S ⟨some d,.load t x,ty,pos,af,gd⟩ t x K):bY P n ⟨some d,.load t x,ty,pos,af,gd⟩ S K:=by
 have mx:x∈(Op.load t x).operands.toList:=by simp[Op.operands]
 unfold bTa at h;split at h
 ·rename_i i td ht
  split at h
  ·rename_i ds hx
   cases ha:aEa td with
   | true=>
    rw[ha] at h;obtain⟨hl,h⟩:=aAd (K:=λes=>K (.p (.agg es))) h;refine dP (us:=[]) h λS' hA ρ=>bOy (ρ:=ρ) (evS hA mx hx) λhn=>?_;have he:ρ.av (.agg ((ds.drop 0).take i.size))=.agg (ds.take i.size):=by
     show AV.agg _=_;rw[aF7,List.map_take,hn]
    rw[he];exact aPm hd (evS hA mx hx) (aPv ht ha rfl) rfl (by simpa using hl)
   | false=>
    rw[ha] at h;obtain⟨h1,h⟩:=iS h;obtain⟨hl,h⟩:=aAd (K:=λes=>one1 es λx=>ldK x λv=>K (.p v)) h;obtain⟨d0,he,h⟩:=aSn (K:=λx=>ldK x λv=>K (.p v)) h;have h:=cEa (K:=λv=>K (.p v)) h;have h0:=bBb he;refine dP (us:=[]) h λS' hA ρ=>bOy (ρ:=ρ) (evS hA mx hx) λhn=>bKq (x:=ρ.av (.d d0)) (λ_ _ _=>bVo ρ) ?_;cases ds with
    |nil=>simp at h0
    | cons y ds=>
     simp at h0;subst h0
     have:ρ.dd y=y:=by have:=aA5 (·[0]?) hn;simpa using this
     have he:ρ.av (.d y)=.d y:=by show AV.d _=_;rw[this]
     rw[he];exact jM hd (evS hA mx hx) (aJz ht ha (f7 h1))
  ·rename_i hh o j hx
   split at h
   ·rename_i ds hm
    cases ha:aEa td with
    | true=>
     rw[ha] at h;obtain⟨hl,h⟩:=aAd (K:=λes=>K (.r (.agg es) [hh])) h;refine dP h λS' hA ρ=>?_;obtain⟨p,hp⟩:=aMs ρ hA (by simp) hm;exact sV hd (evS hA mx hx) hp (aPv ht ha rfl) aWk (by simpa using hl)
    | false=>
     rw[ha] at h;obtain⟨h1,h⟩:=iS h;obtain⟨hl,h⟩:=aAd (K:=λes=>one1 es λx=>ldK x λv=>K (.r v [hh])) h;obtain⟨d0,he,h⟩:=aSn (K:=λx=>ldK x λv=>K (.r v [hh])) h;have h:=cEa (K:=λv=>K (.r v [hh])) h;refine dP h λS' hA ρ=>bKq (x:=ρ.av (.d d0)) (λ_ _ _=>bVo ρ) ?_;obtain⟨p,hp⟩:=aMs ρ hA (by simp) hm;exact qQ hd (evS hA mx hx) hp (by rw[p8,bBb he];rfl) (aJz ht ha (f7 h1))
   ·exact h
  ·rename_i hh kk r c hx
   split at h
   ·rename_i e k rows hm
    obtain⟨hk,ds,hr,h⟩:=h;have hk:=f7 hk;subst hk;cases ha:aEa td with
    | true=>
     rw[ha] at h;obtain⟨hl,h⟩:=aAd (K:=λes=>K (.r (.agg es) [hh])) h;refine dP h λS' hA ρ=>?_;obtain⟨p,hp⟩:=aMs ρ hA (by simp) hm;refine aXg hp λ⟨w,X,hh⟩=>?_;have hn:=aYy hh ρ hr;have he:ρ.av (.agg ((ds.drop c).take i.size))=.agg ((ds.drop c).take i.size):=by
      show AV.agg _=_;rw[<-aWk,hn]
     rw[he];exact aPn hd (evS hA mx hx) hp hr (aPv ht ha rfl) rfl (by simpa using hl)
    | false=>
     rw[ha] at h;obtain⟨h1,h⟩:=iS h;obtain⟨hl,h⟩:=aAd (K:=λes=>one1 es λx=>K (.r (.d x) [hh])) h;obtain⟨d0,he,h⟩:=aSn (K:=λx=>K (.r (.d x) [hh])) h;have h0:=bBb he;refine dP h λS' hA ρ=>?_;obtain⟨p,hp⟩:=aMs ρ hA (by simp) hm;refine aXg hp λ⟨w,X,hh⟩=>?_;have hn:=aYy hh ρ hr;have he:ρ.av (.d d0)=.d d0:=by
      show AV.d _=_;rw[bCj hn d0 (i8 h0)]
     rw[he];exact bXh hd (evS hA mx hx) hp hr h0 (aJz ht ha (f7 h1))
   ·exact h
  ·exact h
 ·exact h.elim
theorem cOa[Mode]{t f:Nat}{x:Operand}(hd:d<n)(h:xfv T n S ⟨some d,.field t x f,ty,pos,af,gd⟩ t x f K):bY P n ⟨some d,.field t x f,ty,pos,af,gd⟩ S K:=by
 have mx:x∈(Op.field t x f).operands.toList:=by simp[Op.operands]
 unfold xfv at h;split at h
 ·rename_i i fs h1
  split at h
  ·rename_i fd h2
   rw[bCn] at h2;split at h
   ·rename_i j td ds h3 hx
    cases hb:(!(aEa td)&&Nat.beq j.size 1) with
    |false=>rw[hb] at h;exact h
    | true=>
     rw[hb] at h;simp only[f4,l6] at hb;obtain⟨hl,h⟩:=aAd (K:=λes=>one1 es λx=>K (.p (.d x))) h;obtain⟨d0,he,h⟩:=aSn (K:=λx=>K (.p (.d x))) h;refine dP (us:=[]) h λS' hA ρ=>?_;exact bMq hd (evS hA mx hx) (λw=>run_underlying (Tr'.ok h1).2 w) (by simpa using h2) (aJz h3 hb.1 (f7 hb.2)) (by rw[p8,bBb he];rfl)
   ·exact h
  ·exact h.elim
 ·exact h.elim
theorem aIs{v:AV}{es:List D}(ρ:Rho)(h:v.cells=some es):(ρ.av v).cells=some (es.map ρ.dd):=by
 cases v with
 |d x=>simp[AV.cells] at h;subst h;rfl
 |agg xs=>simp[AV.cells] at h;subst h;rfl
 |_=>simp[AV.cells] at h
theorem aSa{f:D->D}{ds es:List D}{j:Nat}:(dO ds j es).map f=dO (ds.map f) j (es.map f):=by simp[dO,List.map_take,List.map_drop]
theorem lt1{m:Nat}(h:Nat.ble 1 m=true):0<m:=f5 h
theorem aAl(ρ:Rho):∀{es:List D},es.any hvD=false->es.map ρ.dd=es
 |[],_=>rfl
 | x::l,h=>by
  simp only[y0,j7] at h;rw[j3,aAl ρ h.2];cases x with
  |hv=>simp[hvD] at h
  |_=>rfl
theorem bNi{w:World}{X:aR}{k:Nat}{c:List D}:∀{a:List D} {vs:List Value},DRs w X (a++(.lit (.slice none 0 0)::c)) vs->DRs w X (a++(.sl k []::c)) vs
 |[],v::vs,h=>⟨by obtain⟨h,_⟩:=h;cases h;exact .nil k,h.2⟩
 |_::_,v::vs,h=>⟨h.1,bNi h.2⟩
 |[],[],h=>h.elim
 |_::_,[],h=>h.elim
theorem bUy[Mode]{env:Nat->AV}{objs:List MO}{i b o:Nat}{ds ds':List D}(ho:objs[i]?=some (.box b o ds))(hl:ds'.length=ds.length)(hd:∀w X vs,DRs w X ds vs->DRs w X ds' vs):Ent ⟨env,objs⟩ ⟨env,objs.set i (.box b o ds')⟩:=by
 intro A M w0 n a w hR;refine hR.replace (m':=.box b o ds') ho (Keeps.refl _ _) (λ_ _ h=>h) (λb' o' hf=>.inl (by simpa[MO.foot,hl] using hf)) λhm=>?_;obtain⟨vs,h1,h2,h3⟩:=(hR.inv.holds _ (i8 ho));exact⟨vs,(hd _ _ _ h1).mono hm,h2,by rwa[hl]⟩
theorem cKq{y:Operand}{S:VS}{l es:List D}(h:(S.ev y).cells=some es):bRi y l es=es\/∃k,es=[.lit (.slice none 0 0)]/\bRi y l es=[.sl k []]:=by
 unfold bRi
 split
 ·have he:es=[.lit (.slice none 0 0)]:=(z7 h).symm
  split
  ·exact .inr ⟨_,he,rfl⟩
  ·exact .inl rfl
 ·exact .inl rfl
theorem cHs[Mode]{op:Op}{h k j:Nat}{ds:List D}(hm:ob S.objs h=some (.box ds))(hs:∀S',Agr op S S' [h]->∀(ρ:Rho) i,(S'.at ρ).objs[i]?=some (ρ.mo h (.box ds))->aQ P n ⟨none,op,ty,pos,af,gd⟩ (S'.at ρ) ((S'.at ρ).put1 i (ρ.mo h (.box (dO ds j [.lit (.slice none 0 0)]))))):
  lN P n ⟨none,op,ty,pos,af,gd⟩ S ⟨.any,[(h,some (.box (dO ds j [.sl k []])))],[h],[]⟩:=by
 intro S' hA _ ρ;obtain⟨i,h1,h2,_⟩:=oM (ρ:=ρ) ((hA.ob h (by simp)).trans hm);refine cM (hs S' hA ρ i h1) ?_;rintro s rfl;refine⟨ρ,rfl,?_⟩;have hil:i<(S'.objs.map λp=>ρ.mo p.1 p.2).length:=(g7.1 h1).1;have e1:(S'.app none ⟨.any,[(h,some (.box (dO ds j [.sl k []])))],[h],[]⟩).at ρ=⟨(S'.at ρ).env,((S'.at ρ).objs.set i (ρ.mo h (.box (dO ds j [.lit (.slice none 0 0)])))).set i (ρ.mo h (.box (dO ds j [.sl k []])))⟩:=by
  simp only[VS.app,chg,VS.at];rw[aH2,h2]
 show Ent ⟨(S'.at ρ).env,(S'.at ρ).objs.set i (ρ.mo h (.box (dO ds j [.lit (.slice none 0 0)])))⟩ _;rw[e1];refine bUy (b:=ρ.bb h) (o:=ρ.oo h) (ds:=(dO ds j [.lit (.slice none 0 0)]).map ρ.dd) (aA1 hil) (by simp[dO]) λw X vs hd=>?_;have e2:∀x:D,(dO ds j [x]).map ρ.dd=(ds.take j).map ρ.dd++(ρ.dd x::(ds.drop (j+1)).map ρ.dd):=λx=>by simp[dO]
 rw[e2] at hd|-;exact bNi hd
theorem cDj[Mode]{t:TypeId}{x y:Operand}(h:bLg T n S ⟨none,.store t x y,ty,pos,af,gd⟩ t x y K):bY P n ⟨none,.store t x y,ty,pos,af,gd⟩ S K:=by
 have mx:x∈(Op.store t x y).operands.toList:=by simp[Op.operands]
 have my:y∈(Op.store t x y).operands.toList:=by simp[Op.operands]
 unfold bLg at h;split at h
 ·rename_i i td ht
  obtain⟨hk,h⟩:=iS h;split at h
  ·rename_i es hes
   obtain⟨hb,h⟩:=iS h;simp only[f4] at hb;split at h
   ·rename_i hh o j hx
    split at h
    ·rename_i ds hm
     obtain⟨hj,h⟩:=iS h;obtain⟨hle,h9⟩:=bRz (K:=λds'=>K ⟨.any,[(hh,some (.box ds'))],[hh],[]⟩) (f5 hj) h
     rcases cKq (l:=ds.drop j) hes with e0|⟨kk,e0,e1⟩
     ·rw[e0] at hle h9;refine⟨⟨_,h9,bOn hm (by simp) λS' hA ρ p hp=>?_⟩⟩;exact eY (evS hA mx hx) hp (evS hA my rfl) hk (aIs ρ hes) (λw=>aBl ht w) (by simpa using f7 hb.1) (lt1 hb.2) (by simpa using hle) aSa.symm
     ·rw[e1] at hle h9;subst e0;refine⟨⟨_,h9,cHs hm λS' hA ρ p hp=>?_⟩⟩;exact eY (evS hA mx hx) hp (evS hA my rfl) hk (aIs ρ hes) (λw=>aBl ht w) (by simpa using f7 hb.1) (lt1 hb.2) (by simpa using hle) aSa.symm
    ·exact h
   ·rename_i hh kk r c hx
    split at h
    ·rename_i e k rows hm
     cases hv:es.any hvD with
     |true=>rw[hv] at h;exact h.elim
     | false=>
      rw[hv] at h;obtain⟨hkk,ds,rows',hr,hle,hrows,h⟩:=h;have hkk:=f7 hkk;subst hkk;refine⟨⟨_,h,bOn hm (by simp) λS' hA ρ p hp=>?_⟩⟩;have hc:=aIs ρ hes;rw[aAl ρ hv] at hc;exact bSm (evS hA mx hx) hp hr (evS hA my rfl) hk hc (λw=>aBl ht w) (f7 hb.1) (lt1 hb.2) hle hrows
    ·exact h
   ·exact h
  ·exact h.elim
 ·exact h.elim
theorem cnf{b:Bool}{p:Prop}(h:bif b then False else p):b=false/\p:=by cases b with
 |true=>exact h.elim
 |false=>exact⟨rfl,h⟩
theorem yG{ρ:Rho}:∀{zs:List D},zOK zs=true->zs.map ρ.dd=zs
 |[],_=>rfl
 | .lit v::l,h=>by simp only[zOK,f4] at h;rw[j3,yG h.2];rfl
 | .sl _ []::l,h=>by simp only[zOK] at h;rw[j3,yG h];rfl
 | .sl _ (_::_)::l,h=>by simp[zOK] at h
 | .sn _ _::l,h=>by simp[zOK] at h
 | .mp _ _::l,h=>by simp[zOK] at h
 | .pt _::l,h=>by simp[zOK] at h
 | .fc .. ::l,h=>by simp[zOK] at h
 | .hv .. ::l,h=>by simp[zOK] at h
theorem bVj{x:Option D}(h:bQx x=true):x=some (.lit (.slice none 0 0)):=by
 unfold bQx at h;split at h
 ·rfl
 ·cases h
theorem bJj:∀{zs:List D} {j:Nat},(aSp ow d j zs).map bD=zs.map bD
 |[],_=>rfl
 | x::l,j=>by
  simp only[aSp,j3,bJj (zs:=l)]
  congr 1
  cases aY (100000*(j+1)+d) ow with
  |true=>simp only[i7];split<;>rfl
  |false=>rfl
theorem aBi:∀{zs:List D} {j:Nat},zOK zs=true->zOK (aSp ow d j zs)=true
 |[],_,h=>h
 | x ::l,j,h=>by
  simp only[aSp];cases aY (100000*(j+1)+d) ow with
  | false=>
   simp only[g6];cases x with
   |lit v=>simp only[zOK,f4] at h|-;exact⟨h.1,aBi h.2⟩
   | sl k r=>cases r with
    |nil=>exact aBi (zs:=l) h
    |cons=>simp[zOK] at h
   |_=>simp[zOK] at h
  | true=>
   simp only[i7];cases x with
   |lit v=>simp only[zOK,f4] at h|-;exact⟨h.1,aBi h.2⟩
   | sl k r=>cases r with
    |nil=>simp only[zOK,f4];exact⟨rfl,aBi (zs:=l) h⟩
    |cons=>simp[zOK] at h
   |_=>simp[zOK] at h
theorem bWp[Mode]{op:Op}:∀{c:List (Nat×Nat×Nat)} {zs:List D} {ch:List (Nat×Option VO)} {nw:List Nat},lN P n ⟨some d,op,ty,pos,af,gd⟩ S ⟨.bp d 0 0,ch++[(d,some (.box zs))],[],nw⟩->bRq d c zs ch nw K->bY P n ⟨some d,op,ty,pos,af,gd⟩ S K
 |[],zs,ch,nw,hs,h=>⟨⟨_,h,hs⟩⟩
 | (j,k,e)::c,zs,ch,nw,hs,h=>by
  simp only[bRq] at h;obtain⟨hb,h⟩:=iS h;simp only[f4,l6] at hb;refine bWp (c:=c) ?_ h;have:=cCl (e:=e) (k:=k) (bVj hb.1) hb.2 hs;rw[List.append_assoc];exact this
theorem cCy[Mode]{t:TypeId}(hd:d<n)(h:bLd T ow S d t K):bY P n ⟨some d,.alloc t,ty,pos,af,gd⟩ S K:=by
 unfold bLd at h;split at h
 ·rename_i zs hz
  cases how:aY (d+30000) ow with
  | true=>
   rw[how] at h;simp only[i7] at h;obtain⟨hf,h⟩:=cnf h;obtain⟨z,h1,h2,h3⟩:=TT.zr_ok hz;refine bWp (ch:=[]) ?_ h;refine bCw (us:=[]) hf λS' hA ρ=>?_;rw[yG (aBi h3)];exact dW hd h1 (by rw[bJj];exact h2) (aBi h3)
  |false=>
  rw[how] at h;simp only[g6] at h;obtain⟨z,h1,h2,h3⟩:=TT.zr_ok hz;cases hoc:lV d S with
  | true=>
   rw[hoc] at h;obtain⟨hf,h⟩:=cnf (show bif zs.any (aAm (Nat.add 70000 d)) then False else _ from h);refine⟨⟨_,h,bKm (us:=[]) hf λS' hA ρ=>?_⟩⟩;rw[yG h3];exact dW hd h1 h2 h3
  |false=>
  rw[hoc] at h;obtain⟨hf,h⟩:=cnf (show bif zs.any (aAm d) then False else _ from h);refine⟨⟨_,h,bCw (us:=[]) hf λS' hA ρ=>?_⟩⟩;rw[yG h3];exact dW hd h1 h2 h3
 ·exact h.elim
theorem cIq[Mode]{t:TypeId}{x y:Operand}(hd:d<n)(h:bTb T S d t x y K):bY P n ⟨some d,.makeSlice t x y,ty,pos,af,gd⟩ S K:=by
 have mx:x∈(Op.makeSlice t x y).operands.toList:=by simp[Op.operands]
 have my:y∈(Op.makeSlice t x y).operands.toList:=by simp[Op.operands]
 unfold bTb at h;split at h
 ·rename_i i e h1
  split at h
  ·rename_i j td zs h2 h3
   obtain⟨hb,h⟩:=iS h;simp only[f4] at hb;split at h
   ·rename_i k1 m k2 m' hx hy
    obtain⟨he,rows,hm,hK⟩:=h.h;subst he;obtain⟨z,hz⟩:=aPw h1 h2 rfl hb.1;obtain⟨z',g1,g2,g3⟩:=TT.zr_ok h3;refine⟨⟨_,hK,aUb (us:=[]) λS' hA ρ A M w0 a w hR=>?_⟩⟩;have ez:z=z':=by
     have a1:=hz.zero w;rw[g1 w] at a1;injection a1 with a1 _
     exact a1.symm
    subst ez;exact cLo hd hz (evS hA mx hx) (evS hA my hy) g2 g3 hm (f5 hb.2) A M w0 a w hR
   ·exact h.elim
  ·exact h.elim
 ·exact h.elim
theorem cMf[Mode]{t:TypeId}{x:Operand}(hd:d<n)(h:cDa S d x K):bY P n ⟨some d,.box t x,ty,pos,af,gd⟩ S K:=by
 have mx:x∈(Op.box t x).operands.toList:=by simp[Op.operands]
 unfold cDa at h;obtain⟨hk,h⟩:=iS h;split at h
 ·rename_i ds hc
  have h:=bIf (K:=λds=>bif ds.any (aAm d) then False else K ⟨.bp d 0 0,[(d,some (.box ds))],[],[d]⟩) h;obtain⟨hf,h⟩:=cnf h;exact⟨⟨_,h,bCw (us:=[]) hf λS' hA ρ=>cLm hd hk λw X u hu=>bBm ρ hc (by rw[evS (ρ:=ρ) hA mx rfl] at hu;exact hu)⟩⟩
 ·exact h.elim
theorem aAj(ρ:Rho){v:AV}(h:wO v=true):ρ.a1 v=ρ.av v:=by
 cases v<;>first|rfl|simp[wO] at h
theorem cIo[Mode]{x:Operand}{i:Nat}(hd:d<n)(h:bSz (P:=P) n S ⟨some d,.extract x i,ty,pos,af,gd⟩ x i K):bY P n ⟨some d,.extract x i,ty,pos,af,gd⟩ S K:=by
 have mx:x∈(Op.extract x i).operands.toList:=by simp[Op.operands]
 unfold bSz at h;split at h
 ·rename_i vs hx
  split at h
  ·rename_i v hv
   obtain⟨hf,h⟩:=iS h;refine dP (us:=[]) (zW (K:=λv=>K (.p v)) h) λS' hA ρ=>?_;refine sU (vs:=vs.map ρ.a1) hd (evS hA mx hx) ?_;rw[bNy] at hv;rw[p8,hv,<-aAj ρ hf]
   rfl
  ·exact h.elim
 ·exact h
theorem aPa{S S':VS}(ρ:Rho):∀{l:List (Nat×Operand)},(∀p∈l,S'.ev p.2=S.ev p.2)->(S'.at ρ).parts l=(St.parts ⟨λk=>lk S.env k,[]⟩ l).map λp=>(p.1,ρ.av p.2)
 |[],_=>rfl
 | (i,x)::l,h=>by
  have h1:(S'.at ρ).eval x=ρ.av (St.eval ⟨λk=>lk S.env k,[]⟩ x):=by
   rw[sQ,h (i,x) (by simp)];cases x<;>rfl
  simp only[St.parts,j3,h1,aPa ρ λp hp=>h p (j5 _ hp)]
theorem aWa{place:Nat->Option (Nat×Nat)}(ρ:Rho):∀{ps:List (Nat×AV)} {ds es:List D},zV place ds ps=some es->zV place (ds.map ρ.dd) (ps.map λp=>(p.1,ρ.av p.2))=some (es.map ρ.dd)
 |[],ds,es,h=>by simp only[zV,m7] at h;subst h;rfl
 | (i,x)::ps,ds,es,h=>by
  simp only[zV] at h;split at h
  ·rename_i off size es' h1 h2
   split at h
   ·rename_i hc
    simp only[j3,zV,h1,aIs ρ h2];rw[if_pos (by simpa using hc),<-aSa];exact aWa ρ h
   ·cases h
  ·cases h
theorem bWt:∀{l:List Field} {pl:List (Nat×Nat)},bJm T l=some pl->∀w,(l.mapM λf=>Prod.mk f.offset <$> sizeOf f.type).run P w=.ok pl w
 |[],pl,h,w=>by simp only[bJm,m7] at h;subst h;rfl
 | f::l,pl,h,w=>by
  simp only[bJm] at h;split at h
  ·rename_i j td r h1 h2
   cases h;have:=bWt h2 w
   simp[List.mapM_cons,aBl h1,this]
  ·cases h
theorem bWq[Mode]{op:Op}:∀{c:List (Nat×Nat×Nat)} {xs:List D} {ch:List (Nat×Option VO)} {nw:List Nat},lN P n ⟨some d,op,ty,pos,af,gd⟩ S ⟨.agg xs,ch,[],nw⟩->bJi d c xs ch nw K->bY P n ⟨some d,op,ty,pos,af,gd⟩ S K
 |[],xs,ch,nw,hs,h=>⟨⟨_,h,hs⟩⟩
 | (j,k,e)::c,xs,ch,nw,hs,h=>by
  simp only[bJi] at h;obtain⟨hb,h⟩:=iS h;simp only[f4,l6] at hb;exact bWq (c:=c) (bXp (e:=e) (k:=k) (bVj hb.1) hb.2 hs) h
theorem cDb[Mode]{t:TypeId}{l:List (Nat×Operand)}(hd:d<n)(h:bLe T n ow S ⟨some d,.build t l.toArray,ty,pos,af,gd⟩ d t l K):bY P n ⟨some d,.build t l.toArray,ty,pos,af,gd⟩ S K:=by
 unfold bLe at h;split at h
 ·rename_i i fs zs ht hz
  split at h
  ·rename_i pl hpl
   obtain⟨hok,h⟩:=iS h;split at h
   ·rename_i es he
    have h:=bIf (K:=λes=>bif aY (d+30000) ow then bJi d (bCr ow d (bHs T t) 0 zs) es [] [] K else K (.p (.agg es))) h;obtain⟨z,h1,h2,h3⟩:=TT.zr_ok hz;have key:lN P n ⟨some d,.build t l.toArray,ty,pos,af,gd⟩ S ⟨.agg es,[],[],[]⟩:=by
     refine bSq (us:=[]) λS' hA ρ=>?_;have hst:mP P t z pl:=⟨h1,fs,λw=>run_underlying (Tr'.ok ht).2 w,λw=>by
      have:=bWt hpl w;rw[Array.mapM_eq_mapM_toList]
      simp[this]⟩
     have hps:=aPa (S:=S) (S':=S') ρ (l:=l) λp hp=>hA.ev _ (by simp[Op.operands];exact⟨_,hp⟩);have hf:=aWa ρ he;cases how:aY (d+30000) ow with
     | true=>
      rw[how] at hf;simp only[i7] at hf;rw[yG (aBi h3)] at hf;exact jI hd hst (by rw[bJj];exact h2) (aBi h3) hok hps hf
     | false=>
      rw[how] at hf;simp only[g6] at hf;rw[yG h3] at hf;exact jI hd hst h2 h3 hok hps hf
    cases how:aY (d+30000) ow with
    |true=>rw[how] at h;exact bWq key h
    |false=>rw[how] at h;exact⟨⟨_,h,key⟩⟩
   ·exact h
  ·exact h.elim
 ·exact h
theorem bEx(ρ:Rho):∀{ps:List (Nat×AV)} {k:Nat} {rows:List (List D)},rE k ps=some rows->rE k (ps.map λp=>(p.1,ρ.av p.2))=some (rows.map (·.map ρ.dd))
 |[],k,rows,h=>by simp only[rE,m7] at h;subst h;rfl
 | (i,x)::ps,k,rows,h=>by
  simp only[rE] at h;split at h
  ·rename_i ds rows' h1 h2
   split at h
   ·rename_i hik
    cases h;simp only[j3,rE,aIs ρ h1,bEx ρ h2,if_pos hik]
   ·cases h
  ·cases h
theorem aNm{k:Nat}(ρ:Rho):∀{rows:List (List D)},aQz k rows=true->(∀r∈rows,r.length=k)/\rows.map (·.map ρ.dd)=rows
 |[],_=>⟨by simp,rfl⟩
 | r::l,h=>by
  simp only[aQz,f4,l6] at h;obtain⟨h1,h2⟩:=aNm ρ h.2.2;refine⟨λx hx=>?_,?_⟩
  ·rcases l4.1 hx with rfl|hx
   ·exact f7 h.1
   ·exact h1 x hx
  ·rw[j3,h2,aAl ρ h.2.1]
theorem cMk[Mode]{t len:Nat}{l:List (Nat×Operand)}(hd:d<n)(h:cDg T ow S d t len l K):bY P n ⟨some d,.buildSlice t len l.toArray,ty,pos,af,gd⟩ S K:=by
 unfold cDg at h;split at h
 ·rename_i i e ht
  split at h
  ·rename_i j td he
   obtain⟨hb,h⟩:=iS h;simp only[f4] at hb;obtain⟨z,hty⟩:=aPw ht he rfl hb.1;split at h
   ·rename_i rows hr
    obtain⟨hc,h⟩:=iS h;simp only[f4] at hc;have hr':∀S',Agr (.buildSlice t len l.toArray) S S' []->∀ρ,rE 0 ((S'.at ρ).parts l)=some rows:=λS' hA ρ=>by
     rw[aPa (S:=S) (S':=S') ρ (l:=l) λp hp=>hA.ev _ (by simp[Op.operands];exact⟨_,hp⟩),bEx ρ hr,(aNm ρ hc.1).2]
    have hlen:=λρ=>(aNm ρ hc.1).1;cases hm:aY d ow with
    | true=>
     rw[hm] at h;exact⟨⟨_,h,aUb (us:=[]) λS' hA ρ=>bFb hd hty hb.2.1 rfl (hr' S' hA ρ) (hlen ρ) (f7 hc.2) (f5 hb.2.2)⟩⟩
    | false=>
     rw[hm] at h;simp only[g6] at h;cases hfl:aY (d+10000) ow with
     | true=>
      rw[hfl] at h;exact dP (us:=[]) h λS' hA ρ=>aXd hd hty hb.2.1 rfl (hr' S' hA ρ) (hlen ρ) (f7 hc.2) (f5 hb.2.2)
     |false=>
     rw[hfl] at h;exact dP (us:=[]) h λS' hA ρ=>yA hd hty hb.2.1 rfl (hr' S' hA ρ) (hlen ρ) (f7 hc.2) (f5 hb.2.2)
   ·exact h.elim
  ·exact h.elim
 ·exact h.elim
theorem aGd{t:Nat}{Q:Nat->Nat->Prop}(h:aEv T t Q):∃e k,mD P t e k/\Q e k:=by
 unfold aEv at h;split at h
 ·rename_i i e h1
  split at h
  ·rename_i j td h2
   exact⟨e,j.size,⟨λw=>run_underlying (Tr'.ok h1).2 w,λw=>aBl h2 w⟩,h⟩
  ·exact h.elim
 ·exact h.elim
theorem cMh[Mode]{t:Nat}{x y:Operand}(hd:d<n)(h:cDd T n S ⟨some d,.indexAddr t x y,ty,pos,af,gd⟩ t x y K):bY P n ⟨some d,.indexAddr t x y,ty,pos,af,gd⟩ S K:=by
 have mx:x∈(Op.indexAddr t x y).operands.toList:=by simp[Op.operands]
 have my:y∈(Op.indexAddr t x y).operands.toList:=by simp[Op.operands]
 unfold cDd at h;split at h
 ·rename_i hx hy
  obtain⟨e,k',hs,h⟩:=aGd h;obtain⟨hk,⟨ds,hp,g⟩⟩:=iS h;have hk:=f7 hk;subst hk;exact dP (us:=[]) g λS' hA ρ=>qJ hd (evS hA mx hx) (evS hA my hy) hs hp
 ·rename_i hx hy
  split at h
  ·rename_i hm
   obtain⟨e,k',hs,h⟩:=aGd h;obtain⟨hk,⟨ds,hp,g⟩⟩:=iS h;have hk:=f7 hk;subst hk;refine dP g λS' hA ρ=>?_;obtain⟨i,hi⟩:=aMs ρ hA (by simp) hm;exact aVo hd (evS hA mx hx) hi (evS hA my hy) hs hp
  ·exact h
 ·exact h
theorem cMj[Mode]{t:Nat}{x:Operand}(hd:d<n)(h:cDf T n S ⟨some d,.call {callee:=.builtin .len,args:= #[x],argTypes:= #[t]},ty,pos,af,gd⟩ x t K):bY P n ⟨some d,.call {callee:=.builtin .len,args:= #[x],argTypes:= #[t]},ty,pos,af,gd⟩ S K:=by
 have mx:x∈(Op.call {callee:=.builtin .len,args:= #[x],argTypes:= #[t]}).operands.toList:=by simp[Op.operands,Call.operands]
 unfold cDf at h;split at h
 ·rename_i hx
  obtain⟨e,k',hs,⟨m,rfl,h⟩⟩:=aGd h;exact dP (us:=[]) h λS' hA ρ=>bKg hd (evS hA mx hx) hs
 ·rename_i hx
  split at h
  ·rename_i hm
   obtain⟨e,k',hs,⟨m,rfl,h⟩⟩:=aGd h;refine dP h λS' hA ρ=>?_;obtain⟨i,hi⟩:=aMs ρ hA (by simp) hm;exact bFa hd (evS hA mx hx) hi hs
  ·exact h
 ·exact h
theorem bYd[Mode]{t:Nat}{x y:Operand}(hd:d<n)(h:bDf T n ow S ⟨some d,.call {callee:=.builtin .append,args:= #[x,y],argTypes:= #[t,t]},ty,pos,af,gd⟩ d x y t K):bY P n ⟨some d,.call {callee:=.builtin .append,args:= #[x,y],argTypes:= #[t,t]},ty,pos,af,gd⟩ S K:=by
 have mx:x∈(Op.call {callee:=.builtin .append,args:= #[x,y],argTypes:= #[t,t]}).operands.toList:=by simp[Op.operands,Call.operands]
 have my:y∈(Op.call {callee:=.builtin .append,args:= #[x,y],argTypes:= #[t,t]}).operands.toList:=by simp[Op.operands,Call.operands]
 unfold bDf at h;split at h
 ·rename_i hx hy
  split at h
  ·rename_i hm
   split at h
   ·rename_i ht
    split at h
    ·rename_i he
     obtain⟨hb,⟨zs,hz1,hl,g⟩⟩:=iS h
     clear h
     simp only[f4] at hb;have hk1:=f7 hb.2.2.1;have hk2:=f7 hb.2.2.2.1;have hk3:=f7 hb.2.2.2.2;subst hk1;subst hk2;subst hk3;obtain⟨hle,rfl⟩:=aIq hz1;obtain⟨z,hty⟩:=aPw ht he rfl hb.1;cases hlt:aY (d+20000) ow with
     | true=>
      rw[hlt] at g;refine⟨⟨_,g,bXo hm (by simp) λS' hA ρ i hi=>?_⟩⟩;exact aXc hd hty (evS hA mx hx) hi (evS hA my hy) hl hle (f5 hb.2.1)
     |false=>
     rw[hlt] at g;refine⟨⟨_,g,cCk hm (by simp) λS' hA ρ i hi=>?_⟩⟩;exact aXc hd hty (evS hA mx hx) hi (evS hA my hy) hl hle (f5 hb.2.1)
    ·exact h.elim
   ·exact h.elim
  ·exact h
 ·rename_i nn k' rows k rows2 hx hy
  split at h
  ·rename_i ht
   split at h
   ·rename_i he
    obtain⟨hb,⟨zs,hz1,hl,g⟩⟩:=iS h
    clear h
    simp only[f4] at hb;have hk1:=f7 hb.2.2.1;have hk2:=f7 hb.2.2.2.1;subst hk2;subst hk1;obtain⟨hle,rfl⟩:=aIq hz1;obtain⟨z,hty⟩:=aPw ht he rfl hb.1;refine dP (us:=[]) g λS' hA ρ=>?_;have h1:=aVn (st:=S'.at ρ) hd hty (evS hA mx hx) (evS hA my hy) (aNm ρ hb.2.2.2.2).1 hl hle (f5 hb.2.1) (ty:=ty) (pos:=pos) (af:=af) (gd:=gd);cases nn with
    |true=>exact bKh (.d (.weak _ _)) h1
    |false=>exact h1
   ·exact h.elim
  ·exact h.elim
 ·exact h
theorem cDi[Mode]{t:Nat}{x:Operand}{lo hi:Option Operand}(hd:d<n)(h:bLf T n S ⟨some d,.slice t x lo hi none,ty,pos,af,gd⟩ t x lo hi K):bY P n ⟨some d,.slice t x lo hi none,ty,pos,af,gd⟩ S K:=by
 have mx:x∈(Op.slice t x lo hi none).operands.toList:=by simp[Op.operands]
 unfold bLf at h;split at h
 ·rename_i hx
  obtain⟨e,k',hs,h⟩:=aGd h;obtain⟨hk,g⟩:=iS h
  clear h
  have hk:=f7 hk;subst hk;split at g
  ·obtain⟨m,rfl,⟨es,hsub,g⟩⟩:=g;exact dP (us:=[]) g λS' hA ρ=>aHs hd hs (evS hA mx hx) rfl rfl hsub
  ·rename_i a
   split at g
   ·rename_i ha
    obtain⟨m,rfl,⟨es,hsub,g⟩⟩:=g;exact dP (us:=[]) g λS' hA ρ=>aHs hd hs (evS hA mx hx) (bo (evS hA (by simp[Op.operands]) ha)) rfl hsub
   ·exact g.elim
  ·rename_i b
   split at g
   ·rename_i hb
    obtain⟨es,hsub,g⟩:=g;exact dP (us:=[]) g λS' hA ρ=>aHs hd hs (evS hA mx hx) rfl (bo (evS hA (by simp[Op.operands]) hb)) hsub
   ·exact g.elim
  ·rename_i a b
   split at g
   ·rename_i ha hb
    obtain⟨es,hsub,g⟩:=g;exact dP (us:=[]) g λS' hA ρ=>aHs hd hs (evS hA mx hx) (bo (evS hA (by simp[Op.operands]) ha)) (bo (evS hA (by simp[Op.operands]) hb)) hsub
   ·exact g.elim
 ·exact h
theorem cDu:∀{l:List Operand} {Q:List AV->Prop},evL S l Q->Q (l.map S.ev)
 |[],_,h=>h
 |x::l,Q,h=>cDu (Q:=λvs=>Q (S.ev x::vs)) (zW (K:=λv=>evL S l λvs=>Q (v::vs)) h)
theorem aOa{S S':VS}(ρ:Rho):∀{l:List Operand},(∀x∈l,S'.ev x=S.ev x)->(S'.at ρ).evals l=(l.map S.ev).map ρ.av
 |[],_=>rfl
 |x::l,h=>by simp only[St.evals,j3,sQ,h x (by simp),aOa ρ λy hy=>h y (j5 _ hy)]
theorem bGr(ρ:Rho):∀{l:List AV},aQx l=true->l.map ρ.av=l.map ρ.a1
 |[],_=>rfl
 |v::l,h=>by simp only[aQx,f4] at h;rw[j3,j3,aAj ρ h.1,bGr ρ h.2]
theorem cNz[Mode]{f:Go.Fn}{first caps:List Operand}(hd:d<n)(h:xfn (P:=P) n S ⟨some d,.makeFunc f first.toArray caps.toArray,ty,pos,af,gd⟩ f first caps K):bY P n ⟨some d,.makeFunc f first.toArray caps.toArray,ty,pos,af,gd⟩ S K:=by
 unfold xfn at h;split at h
 ·obtain⟨hok,h⟩:=iS h;have h:=cDu (Q:=λvs=>bif aQx vs then K (.p (.fn _ vs)) else bY P n _ S K) h;cases hf:aQx (caps.map S.ev) with
  |false=>rw[hf] at h;exact h
  | true=>
   rw[hf] at h;refine dP (us:=[]) h λS' hA ρ=>?_;have:=aOa (S:=S) (S':=S') ρ (l:=caps) λx hx=>hA.ev x (by simp[Op.operands,hx]);rw[bGr ρ hf] at this;exact bXg hd this hok
 ·exact h
theorem cIn[Mode]{t u:Nat}{x:Operand}(hd:d<n)(h:bSy T n S ⟨some d,.convert t u x,ty,pos,af,gd⟩ t u x K):bY P n ⟨some d,.convert t u x,ty,pos,af,gd⟩ S K:=by
 have mx:x∈(Op.convert t u x).operands.toList:=by simp[Op.operands]
 unfold bSy at h;split at h
 ·rename_i p i k' k p' h1 h2 hx
  exact dP (us:=[]) h λS' hA ρ=>cLn hd (evS hA mx hx) (λw=>run_underlying (Tr'.ok h1).2 w) (λw=>run_underlying (Tr'.ok h2).2 w)
 ·exact h
theorem bPu{α:Type}{a:Array α}{l:List α}(h:a.toList=l):a=l.toArray:=by subst h;simp
theorem bGf[Mode]{o:Oper}(hd:∀d,o.dst=some d->d<n)(h:xop T n ow S o K):bY P n o S K:=by
 obtain⟨dst,op,ty,pos,af,gd⟩:=o;unfold xop at h;cases dst with
 | some d=>
  have hd1:=hd d rfl
  clear hd
  simp only at h;unfold cMm at h;split at h
  ·exact bPd hd1 (.inl rfl) h
  ·exact bPd hd1 (.inr rfl) h
  ·exact aNf hd1 h
  ·exact cMe hd1 h
  ·exact cOc hd1 h
  ·exact cMg hd1 h
  ·exact cMl hd1 h
  ·exact cOa hd1 h
  ·exact cIp hd1 h
  ·exact cCy hd1 h
  ·exact cMf hd1 h
  ·exact cIo hd1 h
  ·rename_i l;obtain⟨l⟩:=l;exact cDb hd1 h
  ·rename_i l;obtain⟨l⟩:=l;exact cMk hd1 h
  ·exact cMh hd1 h
  ·exact cDi hd1 h
  ·rename_i f a b;obtain⟨a⟩:=a;obtain⟨b⟩:=b;exact cNz hd1 h
  ·exact cIn hd1 h
  ·exact cIq hd1 h
  ·rename_i c
   split at h
   ·rename_i b hb
    obtain⟨callee,args,ts⟩:=c;simp only at hb h;subst hb;unfold bYe at h;split at h
    ·rename_i ha ht
     have ha:=bPu ha;have ht:=bPu ht;subst ha;subst ht;exact cMj hd1 h
    ·rename_i ha ht
     have ha:=bPu ha;have ht:=bPu ht;subst ha;subst ht
     rename_i t u
     cases htu:Nat.beq t u with
     | true=>
      rw[htu] at h;have:=f7 htu;subst this;exact bYd hd1 h
     |false=>rw[htu] at h;exact h
    ·exact h
   ·exact h
  ·exact h
 | none=>
  simp only at h;split at h
  ·exact cDj h
  ·exact h
end
end Go.Am
end
section
namespace Go.Am
def okD:D->Bool
 | .hv .. =>false
 |_=>true
def vD1(objs:List (Nat×VO)):D->D
 | .hv q h j=>match q,ob objs h with
  |0,some (.arr _ k rows)=>.sl k rows
  |1,some (.map agg es)=>.mp agg es
  |_,_=>.hv q h j
 |x=>x
def vA0(objs:List (Nat×VO)):AV->AV
 | .d x=>.d (vD1 objs x)
 | .agg xs=>.agg (xs.map (vD1 objs))
 | .bp h o j=>match ob objs h with
  |some (.box ds)=>bif Nat.ble j ds.length&&((ds.drop j).map (vD1 objs)).all okD then .cp ((ds.drop j).map (vD1 objs)) else .bp h o j
  |_=>.bp h o j
 |x=>x
def vA1(objs:List (Nat×VO)):AV->AV
 | .tup vs=>.tup (vs.map (vA0 objs))
 | .fn f vs=>.fn f (vs.map (vA0 objs))
 |x=>vA0 objs x
def vA(objs:List (Nat×VO)):AV->AV
 | .tup vs=>.tup (vs.map (vA1 objs))
 | .fn f vs=>.fn f (vs.map (vA1 objs))
 |x=>vA0 objs x
def ok0:AV->Bool
 | .d x=>okD x
 | .agg xs=>xs.all okD
 | .bp .. =>false
 | .ep .. =>false
 |_=>true
def ok1:AV->Bool
 | .tup vs=>vs.all ok0
 | .fn _ vs=>vs.all ok0
 | .mf _ vs=>vs.all ok0
 |x=>ok0 x
def okA:AV->Bool
 | .tup vs=>vs.all ok1
 | .fn _ vs=>vs.all ok1
 | .mf _ vs=>vs.all ok1
 |x=>ok0 x
def qW(objs:List MO):Prop:=∀v e k rows,MO.arr v e k rows∈objs->∀r∈rows,r.length=k
theorem aSv[Mode]{w:World}{X:aR}{objs:List MO}(h:∀m∈objs,m.holds w X):qW objs:=λv e k rows hm=>by
 obtain⟨_,_,_,hr⟩:=h _ hm;exact hr
theorem rY{α:Type}{f:α->α}{p:α->Bool}(hp:∀x,p x=true->f x=x):∀{l:List α},l.all p=true->l.map f=l
 |[],_=>rfl
 | x::l,h=>by
  simp only[aA9,f4] at h;rw[j3,hp x h.1,rY hp h.2]
section
variable(ρ:Rho)
theorem bJc{x:D}(h:okD x=true):ρ.dd x=x:=by cases x<;>first|rfl|simp[okD] at h
theorem xS{x:AV}(h:ok0 x=true):ρ.a0 x=x:=by
 cases x with
 |d x=>simp only[Rho.a0,bJc ρ (show okD x=true from h)]
 |agg xs=>simp only[Rho.a0,rY (λx=>bJc ρ (x:=x)) h]
 |bp=>simp[ok0] at h
 |ep=>simp[ok0] at h
 |_=>rfl
theorem aJg{x:AV}(h:ok1 x=true):ρ.a1 x=x:=by
 cases x with
 |tup vs=>simp only[Rho.a1,rY (λx=>xS ρ (x:=x)) h]
 |fn f vs=>simp only[Rho.a1,rY (λx=>xS ρ (x:=x)) h]
 |mf f vs=>simp only[Rho.a1,rY (λx=>xS ρ (x:=x)) h]
 |any=>rfl
 |d x=>exact xS ρ (x:=.d x) h
 |agg x=>exact xS ρ (x:=.agg x) h
 |cp x=>rfl
 |bp b o j=>exact xS ρ (x:=.bp b o j) h
 |ep v k i c=>exact xS ρ (x:=.ep v k i c) h
 |fl=>rfl
theorem qB{x:AV}(h:okA x=true):ρ.av x=x:=by
 cases x with
 |tup vs=>simp only[Rho.av,rY (λx=>aJg ρ (x:=x)) h]
 |fn f vs=>simp only[Rho.av,rY (λx=>aJg ρ (x:=x)) h]
 |mf f vs=>simp only[Rho.av,rY (λx=>aJg ρ (x:=x)) h]
 |any=>rfl
 |d x=>exact xS ρ (x:=.d x) h
 |agg x=>exact xS ρ (x:=.agg x) h
 |cp x=>rfl
 |bp b o j=>exact xS ρ (x:=.bp b o j) h
 |ep v k i c=>exact xS ρ (x:=.ep v k i c) h
 |fl=>rfl
variable{objs:List (Nat×VO)}
theorem bJa{h:Nat}{m:VO}(hm:ob objs h=some m):ρ.mo h m∈objs.map λp=>ρ.mo p.1 p.2:=by
 obtain⟨i,hi,_⟩:=oM (ρ:=ρ) hm;exact i8 hi
theorem bLa(hr:qW (objs.map λp=>ρ.mo p.1 p.2))(x:D):DV (objs.map λp=>ρ.mo p.1 p.2) (ρ.dd x) (ρ.dd (vD1 objs x)):=by
 cases x with
 | hv q h j=>
  simp only[vD1]
  split
  ·rename_i hm
   have hmem:=bJa ρ hm;exact .arr _ _ _ _ _ hmem rfl (hr _ _ _ _ hmem) λ_ _ _ _=>.same _
  ·rename_i hm
   exact .mapx _ _ _ (bJa ρ hm)
  ·exact .same _
 |_=>exact .same _
theorem bBv{fs:List MO}{f g:D->D}(h:∀x,DV fs (f x) (g x)):∀l:List D,DVs fs (l.map f) (l.map g)
 |[]=>trivial
 |x::l=>⟨h x,bBv h l⟩
theorem aGi(hr:qW (objs.map λp=>ρ.mo p.1 p.2))(x:AV):BV (objs.map λp=>ρ.mo p.1 p.2) (ρ.a0 x) (ρ.a0 (vA0 objs x)):=by
 cases x with
 |d x=>exact .d (bLa ρ hr x)
 | agg xs=>
  have:=bBv (bLa ρ hr) xs;simp only[Rho.a0,vA0,aA6];exact .agg this
 | bp h o j=>
  simp only[vA0]
  split
  ·rename_i ds hm
   have hmem:=bJa ρ hm;cases hj:(Nat.ble j ds.length&&((ds.drop j).map (vD1 objs)).all okD) with
   |false=>exact .same _
   | true=>
    simp only[f4] at hj;refine .bp _ _ j (ds.map ρ.dd) _ hmem (by simpa using f5 hj.1) ?_;have h1:=bBv (bLa ρ hr) (ds.drop j);have h2:((ds.drop j).map (vD1 objs)).map ρ.dd=(ds.drop j).map (vD1 objs):=rY (λx=>bJc ρ (x:=x)) hj.2;rw[<-List.map_drop,<-h2,aA6];exact h1
  ·exact .same _
 |_=>exact .same _
theorem aMb{fs:List MO}{f g:AV->AV}(h:∀x,BV fs (f x) (g x)):∀l:List AV,BVs fs (l.map f) (l.map g)
 |[]=>.nil
 |x::l=>.cons (h x) (aMb h l)
theorem bXy(b o j:Nat):ρ.a1 (vA0 objs (.bp b o j))=ρ.a0 (vA0 objs (.bp b o j))/\ρ.av (vA0 objs (.bp b o j))=ρ.a0 (vA0 objs (.bp b o j)):=by
 simp only[vA0]
 split
 ·cases(Nat.ble j _&&_)<;>exact⟨rfl,rfl⟩
 ·exact⟨rfl,rfl⟩
theorem bXz(hr:qW (objs.map λp=>ρ.mo p.1 p.2))(x:AV):BV (objs.map λp=>ρ.mo p.1 p.2) (ρ.a1 x) (ρ.a1 (vA1 objs x)):=by
 cases x with
 | tup vs=>
  simp only[Rho.a1,vA1,aA6];exact aBv (aMb (aGi ρ hr) vs)
 | fn f vs=>
  simp only[Rho.a1,vA1,aA6];exact bPx (aMb (aGi ρ hr) vs)
 |mf f vs=>exact .same _
 |any=>exact .same _
 |d x=>exact aGi ρ hr (.d x)
 |agg x=>exact aGi ρ hr (.agg x)
 |cp x=>exact .same _
 |bp b o j=>exact(bXy ρ b o j).1▸aGi ρ hr (.bp b o j)
 |ep v k i c=>exact .same _
 |fl=>exact .same _
theorem aLe(hr:qW (objs.map λp=>ρ.mo p.1 p.2))(x:AV):BV (objs.map λp=>ρ.mo p.1 p.2) (ρ.av x) (ρ.av (vA objs x)):=by
 cases x with
 | tup vs=>
  simp only[Rho.av,vA,aA6];exact aBv (aMb (bXz ρ hr) vs)
 | fn f vs=>
  simp only[Rho.av,vA,aA6];exact bPx (aMb (bXz ρ hr) vs)
 |mf f vs=>exact .same _
 |any=>exact .same _
 |d x=>exact aGi ρ hr (.d x)
 |agg x=>exact aGi ρ hr (.agg x)
 |cp x=>exact .same _
 |bp b o j=>exact(bXy ρ b o j).2▸aGi ρ hr (.bp b o j)
 |ep v k i c=>exact .same _
 |fl=>exact .same _
theorem aHx(hr:qW (objs.map λp=>ρ.mo p.1 p.2)){x y:AV}(h:vA objs x=y)(hy:okA y=true):BV (objs.map λp=>ρ.mo p.1 p.2) (ρ.av x) y:=by
 have:=aLe ρ hr x;rw[h,qB ρ hy] at this;exact this
end
def goO(hs:List Nat):List (Nat×VO)->List (Nat×VO)
 |[]=>[]
 |p::l=>bif aY p.1 hs then p::goO hs l else goO hs l
def stO(hs:List Nat):List (Nat×VO)->List (Nat×VO)
 |[]=>[]
 |p::l=>bif aY p.1 hs then stO hs l else p::stO hs l
def goK(hs:List Nat):List (Nat×VO)->(List (Nat×VO)->List (Nat×VO)->Prop)->Prop
 |[],K=>K [] []
 |p::l,K=>goK hs l λa b=>bif aY p.1 hs then K (p::a) b else K a (p::b)
theorem cDv{hs:List Nat}:∀{l:List (Nat×VO)} {K:List (Nat×VO)->List (Nat×VO)->Prop},goK hs l K->K (goO hs l) (stO hs l)
 |[],_,h=>h
 | p::l,K,h=>by
  have:=cDv (K:=λa b=>bif aY p.1 hs then K (p::a) b else K a (p::b)) h;simp only[goO,stO];cases hb:aY p.1 hs with
  |true=>rw[hb] at this;exact this
  |false=>rw[hb] at this;exact this
theorem bCc{hs:List Nat}{f:Nat×VO->MO}:∀{l:List (Nat×VO)},(l.map f).Perm ((stO hs l).map f++(goO hs l).map f)
 |[]=>.refl _
 | p::l=>by
  simp only[goO,stO];cases aY p.1 hs with
  | true=>
   simp only[i7,j3];exact(List.Perm.cons _ bCc).trans aB6.symm
  | false=>
   simp only[g6,j3,aA4];exact .cons _ bCc
def bIl(go:List (Nat×VO)):List (Nat×AV)->(List (Nat×AV)->Prop)->Prop
 |[],K=>K []
 |p::l,K=>frc (vA go p.2) λv=>bIl go l λr=>K ((p.1,v)::r)
theorem bVs{go:List (Nat×VO)}:∀{l:List (Nat×AV)} {K:List (Nat×AV)->Prop},bIl go l K->K (l.map λp=>(p.1,vA go p.2))
 |[],_,h=>h
 |p::l,K,h=>bVs (K:=λr=>K ((p.1,vA go p.2)::r)) (zW (K:=λv=>bIl go l λr=>K ((p.1,v)::r)) h)
def cBd(hs:List Nat)(S:VS)(K:VS->Prop):Prop:=goK hs S.objs λgo st=>bIl go S.env λenv=>K ⟨env,st⟩
def cBe(hs:List Nat)(S:VS):VS:=⟨S.env.map λp=>(p.1,vA (goO hs S.objs) p.2),stO hs S.objs⟩
theorem bVt{hs:List Nat}{S:VS}{K:VS->Prop}(h:cBd hs S K):K (cBe hs S):=
 bVs (K:=λenv=>K ⟨env,stO hs S.objs⟩) (cDv (K:=λgo st=>bIl go S.env λenv=>K ⟨env,st⟩) h)
theorem bVu{f:AV->AV}(hf:f .any=.any){k:Nat}:∀{l:List (Nat×AV)},lk (l.map λp=>(p.1,f p.2)) k=f (lk l k)
 |[]=>hf.symm
 | p::l=>by
  simp only[j3,lk];cases Nat.beq p.1 k with
  |true=>rfl
  |false=>exact bVu hf
theorem bIm[Mode]{hs:List Nat}{S:VS}(ρ:Rho):Ent (S.at ρ) ((cBe hs S).at ρ):=λA M w0 n a w hR=>by
 have hp:=bCc (hs:=hs) (f:=λp=>ρ.mo p.1 p.2) (l:=S.objs);have hr:qW ((goO hs S.objs).map λp=>ρ.mo p.1 p.2):=λv e k rows hm=>aSv hR.inv.holds v e k rows (hp.mem_iff.2 (i6.2 (.inr hm)));refine oL (env:=(S.at ρ).env) (env':=((cBe hs S).at ρ).env) hp (λk=>?_) A M w0 n a w hR;show BV _ (ρ.av (lk S.env k)) (ρ.av (lk (S.env.map λp=>(p.1,vA (goO hs S.objs) p.2)) k));rw[bVu rfl];exact aLe ρ hr _
def lkL:List (Nat×List Nat)->Nat->List Nat
 |[],_=>[]
 |p::l,k=>bif Nat.beq p.1 k then p.2 else lkL l k
end Go.Am
end
end
section
section
namespace Go.Am
abbrev lS:=Nat->Nat×Nat×Value
def aIm[Mode](P:Program)(n:Nat)(β:lS)(ops:List Oper)(l:List Oper)(S:VS)(Q:Exit->VS->Prop):Prop:=
 ∀ρ:Rho,ρ.β=β->TrL P n ops.toArray l (S.at ρ) λe st=>∃(S':VS) (ρ':Rho),ρ'.β=β/\Q e S'/\Ent st (S'.at ρ')
def TrV[Mode](P:Program)(n:Nat)(β:lS)(c:Code)(S:VS)(Q:Exit->VS->Prop):Prop:=
 ∀ρ:Rho,ρ.β=β->Tr P n c (S.at ρ) λe st=>∃(S':VS) (ρ':Rho),ρ'.β=β/\Q e S'/\Ent st (S'.at ρ')
def LeV[Mode](β:lS)(S S':VS):Prop:=∀ρ:Rho,ρ.β=β->∃ρ':Rho,ρ'.β=β/\Ent (S.at ρ) (S'.at ρ')
theorem LeV.refl[Mode](β:lS)(S:VS):LeV β S S:=λρ h=>⟨ρ,h,Ent.refl _⟩
def aDz[Mode](P:Program)(n:Nat)(β:lS)(o:Oper)(S:VS)(K:VS->Prop):Prop:=
 ∀ρ:Rho,ρ.β=β->Step P n o (S.at ρ) λst=>∃(S':VS) (ρ':Rho),ρ'.β=β/\K S'/\Ent st (S'.at ρ')
def bJr(h:Nat)(m:VO):List (Nat×VO)->(List (Nat×VO)->Prop)->Prop
 |[],K=>K [(h,m)]
 |(k,x)::l,K=>bif Nat.beq k h then K ((k,m)::l) else bJr h m l λl'=>K ((k,x)::l')
def bQd(h:Nat):List (Nat×VO)->(List (Nat×VO)->Prop)->Prop
 |[],K=>K []
 |(k,x)::l,K=>bif Nat.beq k h then K l else bQd h l λl'=>K ((k,x)::l')
def bBs:List (Nat×Option VO)->List (Nat×VO)->(List (Nat×VO)->Prop)->Prop
 |[],l,K=>K l
 |(h,some m)::c,l,K=>bJr h m l λl=>bBs c l K
 |(h,none)::c,l,K=>bQd h l λl=>bBs c l K
theorem bJs{h:Nat}{m:VO}:∀{l:List (Nat×VO)} {K:List (Nat×VO)->Prop},bJr h m l K->K (fB h m l)
 |[],_,hK=>hK
 | (k,x)::l,K,hK=>by
  simp only[bJr] at hK;simp only[fB];cases hb:Nat.beq k h with
  |true=>rw[hb] at hK;exact hK
  |false=>rw[hb] at hK;exact bJs (K:=λl'=>K ((k,x)::l')) hK
theorem bUm{h:Nat}:∀{l:List (Nat×VO)} {K:List (Nat×VO)->Prop},bQd h l K->K (gF h l)
 |[],_,hK=>hK
 | (k,x)::l,K,hK=>by
  simp only[bQd] at hK;simp only[gF];cases hb:Nat.beq k h with
  |true=>rw[hb] at hK;exact hK
  |false=>rw[hb] at hK;exact bUm (K:=λl'=>K ((k,x)::l')) hK
theorem aYi:∀{c:List (Nat×Option VO)} {l:List (Nat×VO)} {K:List (Nat×VO)->Prop},bBs c l K->K (chg c l)
 |[],_,_,h=>h
 | (h,some m)::c,l,K,hK=>by
  have:=aYi (bJs (K:=λl=>bBs c l K) hK);exact this
 | (h,none)::c,l,K,hK=>by
  have:=aYi (bUm (K:=λl=>bBs c l K) hK);exact this
def rT(d:Option Nat)(e:Eff)(S:VS)(K:VS->Prop):Prop:=match S,e with
 | ⟨env,objs⟩,⟨v,ch,_,_⟩=>bBs ch objs λobjs=>match d with
  |some d=>K ⟨(d,v)::env,objs⟩
  |none=>K ⟨env,objs⟩
theorem aXw{d:Option Nat}{e:Eff}{S:VS}{K:VS->Prop}(h:rT d e S K):K (S.app d e):=by
 obtain⟨env,objs⟩:=S;obtain⟨v,ch,us,nw⟩:=e;cases d with
 |some d=>exact aYi (K:=λobjs=>K ⟨(d,v)::env,objs⟩) h
 |none=>exact aYi (K:=λobjs=>K ⟨env,objs⟩) h
def aCm(S:VS):List Nat->Prop->Prop
 |[],p=>p
 |h::l,p=>bif lV h S||Nat.ble 100000 h then False else aCm S l p
theorem aSi{S:VS}:∀{l:List Nat} {p:Prop},aCm S l p->p/\∀h∈l,lV h S=false/\Nat.ble 100000 h=false
 |[],_,h=>⟨h,by simp⟩
 | k::l,p,h=>by
  obtain⟨hb,h⟩:=cnf h;simp only[j7] at hb;obtain⟨hp,hl⟩:=aSi h;exact⟨hp,λx hx=>by
   rcases l4.1 hx with rfl|hx
   ·exact hb
   ·exact hl x hx⟩
def aOu:List Oper->Nat->Option Nat
 |[],_=>none
 |o::_,0=>o.dst
 |_::l,i+1=>aOu l i
theorem aWq:∀{l:List Oper} {i:Nat},aOu l i=(l[i]?).bind (·.dst)
 |[],_=>by simp[aOu]
 |_::_,0=>by simp[aOu]
 |_::l,i+1=>by simp[aOu,aWq (l:=l)]
def xJ(n:Nat):List Oper->Bool
 |[]=>true
 |o::l=>(match o.dst with|some d=>Nat.ble (d+1) n|none=>true)&&xJ n l
theorem aYl{n:Nat}:∀{l:List Oper},xJ n l=true->∀o∈l,∀d,o.dst=some d->d<n
 |[],_,o,h=>by cases h
 | x::l,h,o,ho=>by
  simp only[xJ,f4] at h
  rcases l4.1 ho with rfl|ho
  ·intro d hd;have h1:=h.1;rw[hd] at h1;exact f5 h1
  ·exact aYl h.2 o ho
structure XP where
 ow:List Nat:=[]
 nd:List Nat:=[]
 lt:List (Nat×List Nat):=[]
 lr:List (Nat×List Nat):=[]
def fK(i j:Nat):List Oper->Nat
 |[]=>0
 | o::l=>match o.guard with
  |some (q,_)=>bif Nat.beq q j||Nat.ble i q then fK i j l+1 else 0
  |none=>0
def cNc(X:XP)(o:Oper):Bool:=match o.dst,o.op with
 |none,_=>true
 |_,.mapUpdate .. =>true
 |some d,_=>aY d X.nd
def aRa(X:XP):Nat->List Oper->Bool
 |m+1,o::l=>cNc X o||aRa X m l
 |_,_=>false
def gM:Nat->List Oper->List Nat
 |m+1,o::l=>o.dst.getD 0::gM m l
 |_,_=>[]
def aNw:Nat->List (Nat×AV)->List (Nat×AV)
 |0,l=>l
 |_+1,[]=>[]
 |m+1,_::l=>aNw m l
def bBc(ds:List Nat):Nat->List (Nat×AV)->Bool
 |m+1,p::l=>aY p.1 ds&&bBc ds m l
 |_,_=>true
def qX:List Nat->List (Nat×AV)->List (Nat×AV)
 |[],l=>l
 |d::ds,l=>(d,.any)::qX ds l
def GN(S:VS)(m t:Nat)(ds:List Nat)(x:Bool)(S':VS):Prop:=aNw m S'.env=S.env/\bBc (t::ds) m S'.env=true/\lk S'.env t=.b x/\S'.objs=S.objs
structure JG(S:VS)(m t:Nat)(ds:List Nat)(A:(VS->Prop)->Prop)(B:VS->Prop):Prop where
 h:∃x:Bool,A (GN S m t ds x)/\B ⟨(t,.b x)::qX ds S.env,S.objs⟩
def ckd:List (Nat×Bool)->Nat->Option Bool
 |[],_=>none
 |(k,b)::l,s=>bif Nat.beq k s then some b else ckd l s
def aTm(t:Nat)(ds:List Nat):List (Nat×Bool)->Bool
 |[]=>true
 |p::l=>(!(aY p.1 ds)&&!(Nat.beq t p.1))&&aTm t ds l
section
variable{P:Program}(T:TT P)(n:Nat)(β:lS)(X:XP)(ops:List Oper)
def opK[Mode](cur:List (Nat×Bool))(o:Oper)(S:VS)(K:VS->Prop):Prop:=match cur,o.op,o.dst with
 | _::_,.pick (.tmp s) x y,some d=>match ckd cur s with
  |some true=>zJ S x λe=>rT (some d) e S K
  |some false=>zJ S y λe=>rT (some d) e S K
  |none=>xop T n X.ow S o λe=>aCm S e.nw (rT o.dst e S K)
 |_,_,_=>xop T n X.ow S o λe=>aCm S e.nw (rT o.dst e S K)
def bAy[Mode](cur:List (Nat×Bool))(o:Oper)(S:VS)(K:VS->Prop):Prop:=
 bif aY (o.dst.getD 0) X.nd then(match cur with|[]=>aDz P n β o S K|_=>False) else bif (ckd cur (o.dst.getD 0)).isSome then False else opK T n X cur o S K
def aLc[Mode](cur:List (Nat×Bool))(o:Oper)(S:VS)(K:VS->Prop):Prop:=match lkL X.lt (o.dst.getD 0),cur with
 |[],_=>bAy T n β X cur o S K
 |h::hs,[]=>cBd (h::hs) S λS=>bAy T n β X [] o S K
 |_,_=>False
def wS(cur:List (Nat×Bool))(o:Oper)(S:VS)(K:VS->Prop):Prop:=match S,o.dst with
 |⟨env,objs⟩,some d=>bif (ckd cur d).isSome then False else K ⟨(d,.tup [])::env,objs⟩
 |_,none=>False
abbrev RL:=Nat->Nat->Nat->List (Nat×Bool)->VS->(VS->Prop)->Prop
def bSe [Mode](o:Oper)(l:List Oper)(ih:RL):RL:=λi sk lim cur S K=>match sk,lim with
 |sk+1,lim=>ih (i+1) sk lim cur S K
 |0,0=>K S
 | 0, lim+1=>match o.guard with
  |none=>aLc T n β X cur o S λS=>ih (i+1) 0 lim cur S K
  | some (j,g)=>match aOu ops j with
   | some s=>bif Nat.ble (s+1) n then(match ckd cur s with
    |some c=>bif (bif g then c else !c) then aLc T n β X cur o S λS=>ih (i+1) 0 lim cur S K else wS cur o S λS=>ih (i+1) 0 lim cur S K
    | none=>match lk S.env s with
     | .d (.lit (.bool c))=>bif aRa X (fK i j (o::l)) (o::l) then
       OB c λc=>bif (bif g then c else !c) then aLc T n β X ((s,c)::cur) o S λS=>ih (i+1) 0 lim ((s,c)::cur) S K else wS ((s,c)::cur) o S λS=>ih (i+1) 0 lim ((s,c)::cur) S K
      else bif Nat.ble (fK i j l+2) (lim+1)&&aTm (((gM (fK i j l+2) (o::l)).getLast?).getD 0) (gM (fK i j l+1) (o::l)) cur then
       JG S (fK i j l+2) (((gM (fK i j l+2) (o::l)).getLast?).getD 0) (gM (fK i j l+1) (o::l))
        (λN=>OB c λc=>bif (bif g then c else !c) then aLc T n β X ((s,c)::cur) o S λS=>ih (i+1) 0 (fK i j l+1) ((s,c)::cur) S N else wS ((s,c)::cur) o S λS=>ih (i+1) 0 (fK i j l+1) ((s,c)::cur) S N)
        (λS=>ih (i+1) (fK i j l+1) (lim-(fK i j l+1)) cur S K)
      else False
     | .tup []=>wS cur o S λS=>ih (i+1) 0 lim cur S K
     |_=>False) else False
   |none=>False
def aPl[Mode](l:List Oper):RL:=List.rec (motive:=λ_=>RL) (λ_ _ _ _ S K=>K S) (λo l ih=>bSe T n β X ops o l ih) l
end
section
variable{P:Program}{T:TT P}{n:Nat}{β:lS}{X:XP}{ops:List Oper}
def mK(cur:List (Nat×Bool))(S:VS):Prop:=∀s b,ckd cur s=some b->lk S.env s=.b b
theorem aCi{S:VS}{ρ:Rho}{s:Nat}{v:AV}(h:lk S.env s=v):(S.at ρ).env s=ρ.av v:=by rw[<-h];rfl
theorem cHt[Mode]{o:Oper}{S:VS}{K:VS->Prop}(h:bY P n o S λe=>aCm S e.nw (rT o.dst e S K)):aDz P n β o S (λS'=>K S'/\∀s,(o.dst=none\/∃d,o.dst=some d/\Nat.beq d s=false)->lk S'.env s=lk S.env s):=by
 obtain⟨e,hK,hS⟩:=h.h;obtain⟨h1,h2⟩:=aSi hK;intro ρ hρ;refine cM (hS S ⟨λ_ _=>rfl,λ_ _=>rfl⟩ h2 ρ) ?_;rintro st ⟨ρ',hβ,he⟩;refine⟨_,ρ',hβ.trans hρ,⟨aXw h1,λs hs=>?_⟩,he⟩;simp only[VS.app]
 rcases hs with hs|⟨d,hs,hd⟩
 ·rw[hs]
 ·rw[hs];simp[lk,hd]
theorem cNm[Mode]{cur:List (Nat×Bool)}{o:Oper}{S:VS}{K:VS->Prop}(hc:mK cur S)(hd:∀d,o.dst=some d->d<n)(h:opK T n X cur o S K):bY P n o S λe=>aCm S e.nw (rT o.dst e S K):=by
 unfold opK at h;split at h
 ·rename_i p cl s x y d hop hdst
  have hs:∀b,ckd (p::cl) s=some b->lk S.env s=.b b:=λb=>hc s b;obtain⟨dst,op,ty,pos,af,gd⟩:=o;simp only at hop hdst;subst hop;subst hdst;split at h
  ·rename_i hb
   have hv:S.ev (.tmp s)=.d (.lit (.bool true)):=hs _ hb;exact aNf (K:=λe=>aCm S e.nw (rT (some d) e S K)) (hd d rfl) (by
    unfold aPz;rw[hv];refine⟨?_⟩;simp only;unfold zJ at h|-;cases hk:cD x with
    |false=>rw[hk] at h;exact h
    | true=>
     rw[hk] at h;simp only[i7] at h|-;have:=zW (K:=λv=>rT (some d) (.p v) S K) h
     generalize S.ev x=v at this
     unfold frc;split<;>first|exact this|(unfold aOc;split<;>exact this))
  ·rename_i hb
   have hv:S.ev (.tmp s)=.d (.lit (.bool false)):=hs _ hb;exact aNf (K:=λe=>aCm S e.nw (rT (some d) e S K)) (hd d rfl) (by
    unfold aPz;rw[hv];refine⟨?_⟩;simp only;unfold zJ at h|-;cases hk:cD y with
    |false=>rw[hk] at h;exact h
    | true=>
     rw[hk] at h;simp only[i7] at h|-;have:=zW (K:=λv=>rT (some d) (.p v) S K) h
     generalize S.ev y=v at this
     unfold frc;split<;>first|exact this|(unfold aOc;split<;>exact this))
  ·exact bGf hd h
 ·exact bGf hd h
theorem bOw[Mode]{cur:List (Nat×Bool)}{o:Oper}{S:VS}{K:VS->Prop}(hc:mK cur S)(hd:∀d,o.dst=some d->d<n)(h:bAy T n β X cur o S K):aDz P n β o S (λS'=>K S'/\mK cur S'):=by
 unfold bAy at h;cases hm:aY (o.dst.getD 0) X.nd with
 | true=>
  rw[hm] at h;cases cur with
  | nil=>
   intro ρ hρ;refine cM (h ρ hρ) ?_;rintro st ⟨S',ρ',h1,h2,h3⟩;exact⟨S',ρ',h1,⟨h2,λs b hb=>by cases hb⟩,h3⟩
  |cons=>exact h.elim
 | false=>
  rw[hm] at h;simp only[g6] at h;obtain⟨hs,h⟩:=cnf h;intro ρ hρ;refine cM (cHt (β:=β) (cNm hc hd h) ρ hρ) ?_;rintro st ⟨S',ρ',h1,⟨h2,h3⟩,h4⟩;refine⟨S',ρ',h1,⟨h2,λs b hb=>?_⟩,h4⟩;rw[h3 s ?_]
  ·exact hc s b hb
  ·cases hdst:o.dst with
   |none=>exact .inl rfl
   | some d=>
    refine .inr ⟨d,rfl,?_⟩;cases hds:Nat.beq d s with
    |false=>rfl
    | true=>
     have:=f7 hds;subst this;rw[hdst] at hs;simp only[u7,hb,Option.isSome_some] at hs;cases hs
theorem cHw[Mode]{cur:List (Nat×Bool)}{o:Oper}{S:VS}{K:VS->Prop}(hc:mK cur S)(hd:∀d,o.dst=some d->d<n)(h:aLc T n β X cur o S K):aDz P n β o S (λS'=>K S'/\mK cur S'):=by
 unfold aLc at h;split at h
 ·exact bOw hc hd h
 ·rename_i k hs _
  have h1:=bOw (λs b hb=>by cases hb) hd (bVt (K:=λS=>bAy T n β X [] o S K) h);exactλρ hρ A M w0 a w hR=>h1 ρ hρ A M w0 a w (bIm ρ A M w0 n a w hR)
 ·exact h.elim
theorem bOg{cur:List (Nat×Bool)}{o:Oper}{S:VS}{K:VS->Prop}(hc:mK cur S)(h:wS cur o S K):∃d,o.dst=some d/\K ⟨(d,.tup [])::S.env,S.objs⟩/\mK cur ⟨(d,.tup [])::S.env,S.objs⟩:=by
 obtain⟨env,objs⟩:=S;unfold wS at h;split at h
 ·rename_i e ob d heq hd
  cases heq;obtain⟨hs,h⟩:=cnf h;refine⟨d,hd,h,λs b hb=>?_⟩;cases hds:Nat.beq d s with
  | true=>
   have:=f7 hds;subst this;rw[hb] at hs;cases hs
  |false=>simp only[lk,hds,g6];exact hc s b hb
 ·exact h.elim
theorem bDv:∀{m:Nat} {l:List (Nat×AV)} {ds:List Nat} {k:Nat},bBc ds m l=true->aY k ds=false->lk l k=lk (aNw m l) k
 |0,l,_,_,_,_=>by simp[aNw]
 |m+1,[],_,_,_,_=>by simp[aNw]
 | m+1,p::l,ds,k,h,hk=>by
  simp only[bBc,f4] at h;have:Nat.beq p.1 k=false:=by
   cases hb:Nat.beq p.1 k with
   |false=>rfl
   |true=>have:=f7 hb;rw[this] at h;rw[hk] at h;cases h.1
  simp only[lk,this,g6,aNw];exact bDv h.2 hk
theorem bNv:∀{ds:List Nat} {l:List (Nat×AV)} {k:Nat},lk (qX ds l) k=.any\/(aY k ds=false/\lk (qX ds l) k=lk l k)
 |[],l,k=>.inr ⟨rfl,rfl⟩
 | d::ds,l,k=>by
  simp only[qX,lk,aY];cases hb:Nat.beq d k with
  |true=>left;rfl
  |false=>simpa using bNv
theorem cKh[Mode]{S S':VS}{m t:Nat}{ds:List Nat}{x:Bool}(h:GN S m t ds x S'):LeV β S' ⟨(t,.b x)::qX ds S.env,S.objs⟩:=by
 obtain⟨h1,h2,h3,h4⟩:=h;intro ρ hρ;refine⟨ρ,hρ,?_⟩;have:Ent ⟨λk=>ρ.av (lk S'.env k),S'.objs.map λp=>ρ.mo p.1 p.2⟩ ⟨λk=>ρ.av (lk ((t,.b x)::qX ds S.env) k),S'.objs.map λp=>ρ.mo p.1 p.2⟩:=aTk λk=>by
  simp only[lk];cases hb:Nat.beq t k with
  | true=>
   have:=f7 hb;subst this
   right;simp only[i7];rw[h3]
  | false=>
   simp only[g6]
   rcases bNv (ds:=ds) (l:=S.env) (k:=k) with h|⟨hm,h⟩
   ·left;rw[h];rfl
   ·right
    have hm':aY k (t::ds)=false:=by simp only[aY,hb,g6];exact hm
    rw[h,bDv h2 hm',h1]
 unfold VS.at;rw[<-h4];exact this
theorem cCw[Mode]{l:List Oper}{S S':VS}{Q:Exit->VS->Prop}(h:LeV β S S')(hc:aIm P n β ops l S' Q):aIm P n β ops l S Q:=λρ hρ=>by
 obtain⟨ρ',hβ,he⟩:=h ρ hρ;exact kY he (hc ρ' hβ)
theorem aHj{cur:List (Nat×Bool)}{S:VS}{s:Nat}{c:Bool}(h:mK cur S)(hs:lk S.env s=.b c):mK ((s,c)::cur) S:=λk b hb=>by
 simp only[ckd] at hb;cases hk:Nat.beq s k with
 | true=>
  have:=f7 hk;subst this;rw[hk] at hb;simp at hb;subst hb;exact hs
 |false=>rw[hk] at hb;exact h k b hb
theorem bNq{t:Nat}{ds:List Nat}:∀{cur:List (Nat×Bool)},aTm t ds cur=true->∀s b,ckd cur s=some b->aY s ds=false/\Nat.beq t s=false
 |[],_,s,b,h=>by cases h
 | p::l,hf,s,b,h=>by
  simp only[aTm,f4,l6] at hf;simp only[ckd] at h;cases hb:Nat.beq p.1 s with
  | true=>
   have:=f7 hb;subst this;exact hf.1
  |false=>rw[hb] at h;exact bNq hf.2 s b h
theorem aYj{cur:List (Nat×Bool)}{S:VS}{ds:List Nat}{t:Nat}{x:Bool}(h:mK cur S)(hf:aTm t ds cur=true):mK cur ⟨(t,.b x)::qX ds S.env,S.objs⟩:=λs b hb=>by
 obtain⟨h1,h2⟩:=bNq hf s b hb;simp only[lk,h2,g6];have:∀{ds:List Nat} {l:List (Nat×AV)},aY s ds=false->lk (qX ds l) s=lk l s:=by
  intro ds
  induction ds with
  |nil=>intro l _;rfl
  | cons d ds ih=>
   intro l hm;simp only[aY] at hm;cases hb2:Nat.beq d s with
   |true=>rw[hb2] at hm;cases hm
   |false=>rw[hb2] at hm;simp only[qX,lk,hb2,g6];exact ih (by simpa using hm)
 rw[this h1];exact h s b hb
theorem aSw[Mode]:∀{l:List Oper} {i sk lim:Nat} {cur:List (Nat×Bool)} {S:VS} {K:VS->Prop} {Q:Exit->VS->Prop},xJ n l=true->mK cur S->(∀S',K S'->aIm P n β ops (l.drop (sk+lim)) S' Q)->aPl T n β X ops l i sk lim cur S K->aIm P n β ops (l.drop sk) S Q
 | [],i,sk,lim,cur,S,K,Q,_,_,hQ,h=>by
  have:=hQ S h
  simpa using this
 | o::l,i,sk+1,lim,cur,S,K,Q,hd,hc,hQ,h=>by
  have hdl:xJ n l=true:=by simp only[xJ,f4] at hd;exact hd.2
  show aIm P n β ops (l.drop sk) S Q;exact aSw (l:=l) (sk:=sk) (lim:=lim) hdl hc (λS' hK=>by have:=hQ S' hK;rwa[show sk+1+lim=(sk+lim)+1 by omega,aG6] at this) h
 |o::l,i,0,0,cur,S,K,Q,_,_,hQ,h=>hQ S h
 | o :: l,i,0,lim+1,cur,S,K,Q,hd,hc,hQ,h=>by
  have hdo:=aYl hd o (by simp);have hdl:xJ n l=true:=by simp only[xJ,f4] at hd;exact hd.2
  have hQ':∀S',K S'->aIm P n β ops (l.drop (0+lim)) S' Q:=λS' hK=>by
   have:=hQ S' hK
   rwa[show 0+(lim+1)=(0+lim)+1 by omega,aG6] at this
  have take:∀{cur:List (Nat×Bool)} {N:VS->Prop} {lim:Nat},mK cur S->(∀S',N S'->aIm P n β ops (l.drop (0+lim)) S' Q)->aLc T n β X cur o S (λS=>aPl T n β X ops l (i+1) 0 lim cur S N)->∀ρ:Rho,ρ.β=β->Step P n o (S.at ρ) (λst'=>TrL P n ops.toArray l st' (λe st=>∃(S':VS) (ρ':Rho),ρ'.β=β/\Q e S'/\Ent st (S'.at ρ'))):=by
   intro cur N lim hc hN hst ρ hρ;refine cM (cHw hc hdo hst ρ hρ) ?_;rintro st' ⟨S',ρ',hβ,⟨hr,hc'⟩,he⟩;have:=aSw (Q:=Q) hdl hc' hN hr ρ' hβ;simp only[aF7] at this;exact kY he this
  have pass:∀{cur:List (Nat×Bool)} {N:VS->Prop} {lim:Nat},mK cur S->(∀S',N S'->aIm P n β ops (l.drop (0+lim)) S' Q)->wS cur o S (λS=>aPl T n β X ops l (i+1) 0 lim cur S N)->∃d,o.dst=some d/\∀ρ:Rho,ρ.β=β->TrL P n ops.toArray l ((S.at ρ).set d (.tup [])) (λe st=>∃(S':VS) (ρ':Rho),ρ'.β=β/\Q e S'/\Ent st (S'.at ρ')):=by
   intro cur N lim hc hN hp;obtain⟨d,ho,hr,hc'⟩:=bOg hc hp;refine⟨d,ho,λρ hρ=>?_⟩;have:=aSw (Q:=Q) hdl hc' hN hr ρ hρ;simp only[aF7] at this;have e:(S.at ρ).set d (.tup [])=(VS.mk ((d,.tup [])::S.env) S.objs).at ρ:=at_set S d (.tup []);rw[e];exact this
  show aIm P n β ops (o::l) S Q
  change bSe T n β X ops o l (aPl T n β X ops l) i 0 (lim+1) cur S K at h
  simp only[bSe] at h;cases hg:o.guard with
  | none=>
   rw[hg] at h;exactλρ hρ=>cC hg (take hc hQ' h ρ hρ) λst' hst=>hst
  | some p=>
   obtain⟨j,g⟩:=p;rw[hg] at h;simp only at h;split at h
   ·rename_i s hs
    rw[aWq] at hs;have hj:(ops.toArray[j]?).bind (·.dst)=some s:=by simpa using hs
    obtain⟨hsn,h⟩:=iS h;have hsn:=f5 hsn;have ask:∀{cur:List (Nat×Bool)} {N:VS->Prop} {lim:Nat} {c:Bool},mK cur S->lk S.env s=.b c->(∀S',N S'->aIm P n β ops (l.drop (0+lim)) S' Q)->
      (bif (bif g then c else !c) then aLc T n β X cur o S (λS=>aPl T n β X ops l (i+1) 0 lim cur S N) else wS cur o S (λS=>aPl T n β X ops l (i+1) 0 lim cur S N))->aIm P n β ops (o::l) S Q:=by
     intro cur N lim c hc hlk hN h;cases hcg:(bif g then c else !c) with
     | true=>
      rw[hcg] at h;exactλρ hρ=>bPb hg hj hsn (aCi hlk) (by cases g<;>cases c<;>simp_all) (take hc hN h ρ hρ) λst' hst=>hst
     | false=>
      rw[hcg] at h;obtain⟨d,ho,h⟩:=pass hc hN h;exactλρ hρ=>aNe hg ho (hdo d ho) hj hsn (aCi hlk) (by cases g<;>cases c<;>simp_all) (h ρ hρ)
    split at h
    ·rename_i c hcc
     exact ask hc (hc s c hcc) hQ' h
    ·split at h
     ·rename_i c hlk
      cases he:aRa X (fK i j (o::l)) (o::l) with
      | true=>
       rw[he] at h;simp only[i7] at h;exact ask (aHj hc hlk) hlk hQ' (bCo h)
      | false=>
       rw[he] at h;simp only[g6] at h;obtain⟨hb,h⟩:=iS h;simp only[f4] at hb;have hm:=f5 hb.1;obtain⟨x,hA,hB⟩:=h.h;have hA:=bCo hA;refine ask (aHj hc hlk) hlk ?_ hA;intro S' hN;refine cCw (cKh hN) ?_;have:=aSw (Q:=Q) hdl (aYj hc hb.2) (λS2 hK=>by
        have:=hQ' S2 hK
        rwa[show 0+lim=fK i j l+1+(lim-(fK i j l+1)) by omega] at this) hB
       rwa[s8]
     ·rename_i hlk
      obtain⟨d,ho,h⟩:=pass hc hQ' h;exactλρ hρ=>bKv hg ho (hdo d ho) hj hsn (aCi hlk) (h ρ hρ)
     ·exact h.elim
   ·exact h.elim
end
end Go.Am
end
section
namespace Go.Am
def sR(c:List (Nat×Option VO)):List Nat:=c.map (·.1)
def cOb:List (Nat×Option VO)->(Nat->Option VO)->Nat->Option VO
 |[],f=>f
 |(k,m)::c,f=>cOb c λh=>bif Nat.beq k h then m else f h
theorem bBq{h:Nat}:∀{c:List (Nat×Option VO)} {f:Nat->Option VO},aY h (sR c)=false->cOb c f h=f h
 |[],_,_=>rfl
 | (k,m)::c,f,hk=>by
  simp only[sR,j3,aY] at hk;cases hb:Nat.beq k h with
  |true=>rw[hb] at hk;cases hk
  | false=>
   rw[hb] at hk;simp only[cOb];rw[bBq (by simpa[sR] using hk)]
   simp[hb]
theorem bGy{h:Nat}:∀{c:List (Nat×Option VO)} {f g:Nat->Option VO},(aY h (sR c)=true\/f h=g h)->cOb c f h=cOb c g h
 | [],f,g,hk=>by
  rcases hk with hk|hk
  ·cases hk
  ·exact hk
 | (k,m)::c,f,g,hk=>by
  simp only[cOb];refine bGy ?_;simp only[sR,j3,aY] at hk;cases hb:Nat.beq k h with
  |true=>right;simp
  | false=>
   rw[hb] at hk
   rcases hk with hk|hk
   ·left;simpa[sR] using hk
   ·right;simpa using hk
def gC(l:List (Nat×VO)):Prop:=(l.map (·.1)).Nodup
theorem bOa{h:Nat}:∀{l:List (Nat×VO)},h∉l.map (·.1)->ob l h=none
 |[],_=>rfl
 | (k,x)::l,hk=>by
  simp only[j3,l4,not_or] at hk;have:Nat.beq k h=false:=by
   cases hb:Nat.beq k h with
   |false=>rfl
   |true=>exact absurd (f7 hb).symm hk.1
  simp only[ob,this,g6];exact bOa hk.2
theorem bOh{h k:Nat}{m:VO}:∀{l:List (Nat×VO)},ob (fB h m l) k=bif Nat.beq h k then some m else ob l k
 |[]=>by simp[fB,ob]
 | (j,x)::l=>by
  simp only[fB];cases hb:Nat.beq j h with
  | true=>
   have:=f7 hb;subst this;simp only[i7,ob];cases Nat.beq j k<;>rfl
  | false=>
   simp only[g6,ob,bOh (l:=l)];cases hc:Nat.beq j k with
   | true=>
    have:=f7 hc;subst this;have:Nat.beq h j=false:=by
     cases hd:Nat.beq h j with
     |false=>rfl
     |true=>have:=f7 hd;subst this;simp at hb
    simp[this]
   |false=>simp
theorem bEu{h:Nat}{m:VO}:∀{l:List (Nat×VO)},∀k∈(fB h m l).map (·.1),k=h\/k∈l.map (·.1)
 |[],k,hk=>by simp[fB] at hk;exact .inl hk
 | (j,x)::l,k,hk=>by
  simp only[fB] at hk;cases hb:Nat.beq j h with
  |true=>rw[hb] at hk;right;simpa using hk
  | false=>
   rw[hb] at hk;simp only[g6,j3,l4] at hk|-
   rcases hk with hk|hk
   ·exact .inr (.inl hk)
   ·rcases bEu k hk with h1|h1
    ·exact .inl h1
    ·exact .inr (.inr h1)
theorem bCs{h:Nat}{m:VO}:∀{l:List (Nat×VO)},gC l->gC (fB h m l)
 |[],_=>by simp[gC,fB]
 | (j,x)::l,hl=>by
  simp only[gC,j3,w6] at hl;simp only[fB];cases hb:Nat.beq j h with
  |true=>simpa[gC] using hl
  | false=>
   simp only[g6,gC,j3,w6];refine⟨λhj=>?_,bCs hl.2⟩
   rcases bEu j hj with h1|h1
   ·subst h1;simp at hb
   ·exact hl.1 h1
theorem bHo{h:Nat}:∀{l:List (Nat×VO)},((gF h l).map (·.1)).Sublist (l.map (·.1))
 |[]=>.slnil
 | (j,x)::l=>by
  simp only[gF];cases Nat.beq j h with
  |true=>simp
  |false=>simpa using bHo (l:=l)
theorem bNe{h:Nat}{l:List (Nat×VO)}(hl:gC l):gC (gF h l):=List.Nodup.sublist bHo hl
theorem bNd{h k:Nat}:∀{l:List (Nat×VO)},gC l->ob (gF h l) k=bif Nat.beq h k then none else ob l k
 |[],_=>by simp[gF,ob]
 | (j,x)::l,hl=>by
  simp only[gC,j3,w6] at hl;simp only[gF];cases hb:Nat.beq j h with
  | true=>
   have:=f7 hb;subst this;simp only[i7,ob];cases hc:Nat.beq j k with
   |true=>have:=f7 hc;subst this;simp[bOa hl.1]
   |false=>simp
  | false=>
   simp only[g6,ob,bNd (l:=l) hl.2];cases hc:Nat.beq j k with
   | true=>
    have:=f7 hc;subst this;have:Nat.beq h j=false:=by
     cases hd:Nat.beq h j with
     |false=>rfl
     |true=>have:=f7 hd;subst this;simp at hb
    simp[this]
   |false=>simp
theorem aBx:∀{c:List (Nat×Option VO)} {l:List (Nat×VO)},gC l->gC (chg c l)
 |[],_,h=>h
 |(_,some _)::c,_,h=>by simp only[chg];exact aBx (bCs h)
 |(_,none)::c,_,h=>by simp only[chg];exact aBx (bNe h)
theorem bHi:∀{c:List (Nat×Option VO)} {l:List (Nat×VO)},gC l->∀h,ob (chg c l) h=cOb c (ob l) h
 |[],_,_,_=>rfl
 | (k,some m)::c,l,hl,h=>by
  simp only[chg,cOb];rw[bHi (bCs hl) h];exact aA5 (λf=>cOb c f h) (funext λq=>bOh)
 | (k,none)::c,l,hl,h=>by
  simp only[chg,cOb];rw[bHi (bNe hl) h];exact aA5 (λf=>cOb c f h) (funext λq=>bNd hl)
theorem aLn{h:Nat}{m:VO}:∀{l:List (Nat×VO)},ob l h=some m->(h,m)∈l
 |[],h=>by cases h
 | (k,x)::l,hm=>by
  simp only[ob] at hm;cases hb:Nat.beq k h with
  |true=>rw[hb] at hm;have:=f7 hb;subst this;simp at hm;subst hm;simp
  |false=>rw[hb] at hm;exact j5 _ (aLn (by simpa using hm))
theorem bIu{h:Nat}{m:VO}:∀{l:List (Nat×VO)},gC l->(h,m)∈l->ob l h=some m
 | (k,x)::l,hl,hm=>by
  simp only[gC,j3,w6] at hl;simp only[ob]
  rcases l4.1 hm with e|hm
  ·cases e;simp
  ·have:Nat.beq k h=false:=by
    cases hb:Nat.beq k h with
    |false=>rfl
    |true=>have:=f7 hb;subst this;exact absurd (l5.2 ⟨_,hm,rfl⟩) hl.1
   simp only[this,g6];exact bIu hl.2 hm
theorem bRu{l l':List (Nat×VO)}(h:gC l)(h':gC l')(he:∀k,ob l k=ob l' k):l.Perm l':=by
 have nd:∀{l:List (Nat×VO)},gC l->l.Nodup:=by
  intro l
  induction l with
  |nil=>intro _;exact .nil
  | cons p l ih=>
   intro h;simp only[gC,j3,w6] at h;exact w6.2 ⟨λhm=>h.1 (l5.2 ⟨p,hm,rfl⟩),ih h.2⟩
 refine(List.perm_ext_iff_of_nodup (nd h) (nd h')).2 λ⟨k,m⟩=>⟨λhm=>aLn ((he k).symm.trans (bIu h hm)),λhm=>aLn ((he k).trans (bIu h' hm))⟩
def aDx[Mode](P:Program)(n:Nat)(ops:List Oper)(o:Oper)(S:VS)(e:Eff):Prop:=match o.guard with
 |none=>lN P n o S e
 |some (j,g)=>∃s,(ops[j]?).bind (·.dst)=some s/\s<n/\((∃c,lk S.env s=.b c/\((c=g/\lN P n o S e)\/(c=!g/\e=.p (.tup [])/\∃d,o.dst=some d/\d<n)))\/(lk S.env s=.tup []/\e=.p (.tup [])/\∃d,o.dst=some d/\d<n))
def uR[Mode](P:Program)(n:Nat)(ops:List Oper):List Oper->VS->List Eff->VS->Prop
 |[],S,[],S'=>S=S'
 |o::l,S,e::es,S'=>aDx P n ops o S e/\(∀h∈e.nw,lV h S=false/\Nat.ble 100000 h=false)/\uR P n ops l (S.app o.dst e) es S'
 |_,_,_,_=>False
def cNx:Operand->Option Nat
 | .tmp t=>some t
 |_=>none
def gdS(ops:List Oper)(o:Oper):List Nat:=match o.guard with
 |some (j,_)=>((ops[j]?).bind (·.dst)).toList
 |none=>[]
def rdO(ops:List Oper)(o:Oper):List Nat:=o.op.operands.toList.filterMap cNx++gdS ops o
theorem aYx[Mode]{P:Program}{n:Nat}{ops:List Oper}{o:Oper}{S S2:VS}{e:Eff}(h:aDx P n ops o S e)(he:∀k∈rdO ops o,lk S2.env k=lk S.env k)(ho:∀k∈e.us,ob S2.objs k=ob S.objs k):aDx P n ops o S2 e:=by
 have ev:∀x∈o.op.operands.toList,S2.ev x=S.ev x:=λx hx=>by
  cases x with
  |tmp t=>exact he t (i6.2 (.inl (List.mem_filterMap.2 ⟨.tmp t,hx,rfl⟩)))
  |_=>rfl
 have sem:lN P n o S e->lN P n o S2 e:=λh S' hA hn ρ=>h S' ⟨λx hx=>(hA.ev x hx).trans (ev x hx),λk hk=>(hA.ob k hk).trans (ho k hk)⟩ hn ρ;unfold aDx at h|-;split at h
 ·rename_i hg;exact sem h
 ·rename_i j g hg
  obtain⟨s,hs,hsn,h⟩:=h;have hk:lk S2.env s=lk S.env s:=he s (i6.2 (.inr (by simp[gdS,hg,hs])));refine⟨s,hs,hsn,?_⟩
  rcases h with⟨c,hc,h⟩|h
  ·left
   refine⟨c,hk.trans hc,?_⟩
   rcases h with⟨h1,h2⟩|h
   ·exact .inl ⟨h1,sem h2⟩
   ·exact .inr h
  ·right;exact⟨hk.trans h.1,h.2⟩
end Go.Am
end
section
namespace Go.Am
def stD(D:Nat->Bool):Nat->List Oper->List Eff->VS->VS
 |k,o::l,e::es,S=>stD D (k+1) l es (bif D k then S.app o.dst e else S)
 |_,_,_,S=>S
theorem zL{S:VS}{dst:Option Nat}{e:Eff}{q:Nat}:lk (S.app dst e).env q=match dst with|some d=>bif Nat.beq d q then e.v else lk S.env q|none=>lk S.env q:=by
 cases dst<;>rfl
theorem bAv{D D':Nat->Bool}{q:Nat}:∀{l:List Oper} {es:List Eff} {k:Nat} {S S':VS},(∀j o,l[j]?=some o->o.dst=some q->D (k+j)=D' (k+j))->lk S.env q=lk S'.env q->lk (stD D k l es S).env q=lk (stD D' k l es S').env q
 |[],_,_,_,_,_,h=>by simpa[stD] using h
 |_::_,[],_,_,_,_,h=>by simpa[stD] using h
 | o :: l,e::es,k,S,S',hD,h=>by
  simp only[stD];refine bAv (λj o' hj ho=>?_) ?_
  ·have:=hD (j+1) o' (by simpa using hj) ho
   rwa[show k+1+j=k+(j+1) by omega]
  ·by_cases hq:o.dst=some q
   ·have:=hD 0 o rfl hq;simp only[aE1] at this;rw[this];cases D' k with
    |true=>simp only[i7,zL,hq,aH6,i7]
    |false=>exact h
   ·have keep:∀S:VS,∀b:Bool,lk (bif b then S.app o.dst e else S).env q=lk S.env q:=λS b=>by
     cases b with
     |false=>rfl
     | true=>
      simp only[i7,zL];cases hd:o.dst with
      |none=>rfl
      | some d=>
       have:Nat.beq d q=false:=by
        cases hb:Nat.beq d q with
        |false=>rfl
        |true=>have:=f7 hb;subst this;exact absurd hd hq
       simp only[this,g6]
    rw[keep S,keep S'];exact h
theorem bOv{D:Nat->Bool}{q:Nat}:∀{l:List Oper} {es:List Eff} {k i:Nat} {S:VS} {o:Oper} {e:Eff},l[i]?=some o->es[i]?=some e->o.dst=some q->D (k+i)=true->(∀j o',j≠i->l[j]?=some o'->o'.dst≠some q)->lk (stD D k l es S).env q=e.v
 |[],_,_,i,_,_,_,h,_,_,_,_=>by simp at h
 |_::_,[],_,i,_,_,_,_,h,_,_,_=>by simp at h
 | o::l,e::es,k,0,S,o1,e1,h1,h2,hd,hD,hu=>by
  simp at h1 h2;subst h1;subst h2
  simp only[aE1] at hD;simp only[stD,hD,i7];have:=bAv (D:=D) (D':=λ_=>false) (q:=q) (l:=l) (es:=es) (k:=k+1) (S:=S.app o.dst e) (S':=S.app o.dst e) (λj o' hj ho=>absurd ho (hu (j+1) o' (by omega) (by simpa using hj))) rfl;rw[this];have e0:∀(l:List Oper) (es:List Eff) (k:Nat) (S:VS),stD (λ_=>false) k l es S=S:=by
   intro l
   induction l with
   |nil=>intros;simp[stD]
   |cons o l ih=>intro es k S;cases es<;>simp[stD,ih]
  rw[e0,zL,hd];simp
 | o::l,e::es,k,i+1,S,o1,e1,h1,h2,hd,hD,hu=>by
  simp only[stD];exact bOv (by simpa using h1) (by simpa using h2) hd (by rwa[show k+1+i=k+(i+1) by omega]) λj o' hj ho=>hu (j+1) o' (by omega) (by simpa using ho)
theorem bKp{D:Nat->Bool}:∀{l:List Oper} {es:List Eff} {k:Nat} {S:VS},gC S.objs->gC (stD D k l es S).objs
 |[],_,_,_,h=>by simpa[stD] using h
 |_::_,[],_,_,h=>by simpa[stD] using h
 | o::l,e::es,k,S,h=>by
  simp only[stD];refine bKp ?_;cases D k with
  |false=>exact h
  |true=>exact aBx h
theorem aRb{S:VS}{dst:Option Nat}{e:Eff}(h:gC S.objs)(q:Nat):ob (S.app dst e).objs q=cOb e.ch (ob S.objs) q:=bHi h q
theorem bAw{D D':Nat->Bool}{q:Nat}:∀{l:List Oper} {es:List Eff} {k:Nat} {S S':VS},gC S.objs->gC S'.objs->(∀j e,es[j]?=some e->aY q (sR e.ch)=true->D (k+j)=D' (k+j))->ob S.objs q=ob S'.objs q->ob (stD D k l es S).objs q=ob (stD D' k l es S').objs q
 |[],_,_,_,_,_,_,_,h=>by simpa[stD] using h
 |_::_,[],_,_,_,_,_,_,h=>by simpa[stD] using h
 | o ::l,e::es,k,S,S',h1,h2,hD,h=>by
  simp only[stD];refine bAw ?_ ?_ (λj e' hj ho=>?_) ?_
  ·cases D k with
   |false=>exact h1
   |true=>exact aBx h1
  ·cases D' k with
   |false=>exact h2
   |true=>exact aBx h2
  ·have:=hD (j+1) e' (by simpa using hj) ho
   rwa[show k+1+j=k+(j+1) by omega]
  ·cases hq:aY q (sR e.ch) with
   | true=>
    have:=hD 0 e rfl hq;simp only[aE1] at this;rw[this];cases D' k with
    |true=>simp only[i7];rw[aRb h1,aRb h2];exact bGy (.inl hq)
    |false=>exact h
   | false=>
    have keep:∀S:VS,gC S.objs->∀b:Bool,ob (bif b then S.app o.dst e else S).objs q=ob S.objs q:=λS hS b=>by
     cases b with
     |false=>rfl
     |true=>simp only[i7];rw[aRb hS];exact bBq hq
    rw[keep S h1,keep S' h2];exact h
theorem bCy(l:List Oper):∀(es:List Eff) (k:Nat) (S:VS),stD (λ_=>false) k l es S=S:=by
 induction l with
 |nil=>intros;simp[stD]
 |cons o l ih=>intro es k S;cases es<;>simp[stD,ih]
theorem bOu{D:Nat->Bool}{q:Nat}:∀{l:List Oper} {es:List Eff} {k i:Nat} {S:VS} {o:Oper} {e:Eff},gC S.objs->l[i]?=some o->es[i]?=some e->aY q (sR e.ch)=true->D (k+i)=true->(∀j e',i<j->es[j]?=some e'->aY q (sR e'.ch)=true->D (k+j)=false)->∀f,ob (stD D k l es S).objs q=cOb e.ch f q
 |[],_,_,i,_,_,_,_,h,_,_,_,_=>by simp at h
 |_::_,[],_,i,_,_,_,_,_,h,_,_,_=>by simp at h
 | o::l,e::es,k,0,S,o1,e1,hS,h1,h2,hq,hD,hu=>λf=>by
  simp at h1 h2;subst h1;subst h2
  simp only[aE1] at hD;simp only[stD,hD,i7];have:=bAw (D:=D) (D':=λ_=>false) (q:=q) (l:=l) (es:=es) (k:=k+1) (S:=S.app o.dst e) (S':=S.app o.dst e) (aBx hS) (aBx hS) (λj e' hj ho=>by
   have:=hu (j+1) e' (by omega) (by simpa using hj) ho
   rwa[show k+1+j=k+(j+1) by omega]) rfl
  rw[this,bCy,aRb hS];exact bGy (.inl hq)
 | o::l,e::es,k,i+1,S,o1,e1,hS,h1,h2,hq,hD,hu=>λf=>by
  simp only[stD];refine bOu ?_ (by simpa using h1) (by simpa using h2) hq (by rwa[show k+1+i=k+(i+1) by omega]) (λj e' hj he ho=>?_) f
  ·cases D k with
   |false=>exact hS
   |true=>exact aBx hS
  ·have:=hu (j+1) e' (by omega) (by simpa using he) ho
   rwa[show k+1+j=k+(j+1) by omega]
theorem bOt{D:Nat->Bool}{h:Nat}:∀{l:List Oper} {es:List Eff} {k:Nat} {S:VS},lV h S=false->(∀j e,es[j]?=some e->D (k+j)=true->aCo h e=false)->lV h (stD D k l es S)=false
 |[],_,_,_,h,_=>by simpa[stD] using h
 |_::_,[],_,_,h,_=>by simpa[stD] using h
 | o::l,e::es,k,S,hS,hD=>by
  simp only[stD];refine bOt ?_ λj e' hj hd=>hD (j+1) e' (by simpa using hj) (by rwa[show k+(j+1)=k+1+j by omega]);cases hk:D k with
  |false=>exact hS
  |true=>exact bBi hS (hD 0 e rfl (by simpa using hk))
theorem aTe{D D':Nat->Bool}:∀{l:List Oper} {es:List Eff} {k:Nat} {S:VS},(∀j,j<l.length->D (k+j)=D' (k+j))->stD D k l es S=stD D' k l es S
 |[],_,_,_,_=>by simp[stD]
 |_::_,[],_,_,_=>by simp[stD]
 | o::l,e::es,k,S,h=>by
  have:=h 0 (by simp);simp only[aE1] at this;simp only[stD,this];exact aTe λj hj=>by
   have:=h (j+1) (by simpa using hj)
   rwa[show k+(j+1)=k+1+j by omega] at this
theorem bDr[Mode]{P:Program}{n:Nat}{ops:List Oper}:∀{l:List Oper} {es:List Eff} {S S1:VS} {k:Nat},uR P n ops l S es S1->es.length=l.length/\S1=stD (λ_=>true) k l es S/\∀(i:Nat) (o:Oper) (e:Eff),l[i]?=some o->es[i]?=some e->aDx P n ops o (stD (λj=>Nat.blt j (k+i)) k l es S) e/\∀h∈e.nw,lV h (stD (λj=>Nat.blt j (k+i)) k l es S)=false/\Nat.ble 100000 h=false
 |[],[],S,S1,k,h=>⟨rfl,by simpa[uR,stD] using h.symm,λi o e hi=>by simp at hi⟩
 | o ::l,e::es,S,S1,k,h=>by
  obtain⟨h1,h2,h3⟩:=h;obtain⟨a,b,c⟩:=bDr (k:=k+1) h3;refine⟨by simp[a],by simp only[stD,i7];exact b,λi o' e' hi he=>?_⟩;cases i with
  | zero=>
   simp at hi he;subst hi;subst he
   have:stD (λj=>Nat.blt j (k+0)) k (o::l) (e::es) S=S:=by
    have:stD (λj=>Nat.blt j (k+0)) k (o::l) (e::es) S=stD (λ_=>false) k (o::l) (e::es) S:=aTe λj _=>by
     cases hb:Nat.blt (k+j) (k+0) with
     |false=>rfl
     |true=>have:=f5 hb;omega
    rw[this,bCy]
   rw[this];exact⟨h1,h2⟩
  | succ i=>
   have:=c i o' e' (by simpa using hi) (by simpa using he);simp only[stD,show Nat.blt k (k+(i+1))=true from aF4 (by omega),i7]
   rwa[show k+(i+1)=k+1+i by omega]
 |[],_::_,_,_,_,h=>h.elim
 |_::_,[],_,_,_,h=>h.elim
theorem aWw{l:List Oper}(hb:zE l=true):∀i,i<l.length->∀j,aY j ((cW l l.length).getD i [])=true->j<i:=by
 intro i
 induction i using Nat.strongRecOn with
 | _ i ih=>
  intro hi j hj;rw[iV,xV l _ i hi] at hj;obtain⟨e,he,hj⟩:=aVx hj;have hei:=bBl hb hi e he
  rcases hj with rfl|hj
  ·exact hei
  ·rw[xV l i e hei] at hj;have:=ih e hei (by omega) j (iV.2 (by rwa[xV l _ e (by omega)]))
   omega
theorem cJt[Mode]{P:Program}{n id:Nat}{β:lS}{l:List Oper}{S S1:VS}{es:List Eff}(hm:P.follows .mixedOrders=true)(hb:zE l=true)(hd:xJ n l=true)(hch:uR P n l l S es S1)(ho:gC S.objs)
  (H0:∀(i j:Nat) (o o':Oper) (q:Nat),i≠j->l[i]?=some o->l[j]?=some o'->o.dst=some q->o'.dst≠some q)
  (H1:∀(i j:Nat) (o o':Oper) (q:Nat),i≠j->l[i]?=some o->l[j]?=some o'->q∈rdO l o->o'.dst=some q->aY j ((cW l l.length).getD i [])=true\/aY i ((cW l l.length).getD j [])=true)
  (H2:∀(i j:Nat) (e e':Eff),i≠j->es[i]?=some e->es[j]?=some e'->aY j ((cW l l.length).getD i [])=false->aY i ((cW l l.length).getD j [])=false->∀h,aY h (sR e'.ch)=true->h∉e.us/\aY h (sR e.ch)=false)
  (H3:∀(i j:Nat) (e e':Eff),i≠j->es[i]?=some e->es[j]?=some e'->aY i ((cW l l.length).getD j [])=false->∀h∈e.nw,aCo h e'=false)
  (H4:∀(i:Nat) (e:Eff),es[i]?=some e->∀h∈e.nw,lV h S=false)(ρ:Rho)(hρ:ρ.β=β):Tr P n (.region id l.toArray true) (S.at ρ) λe st=>e=.normal/\∃ρ':Rho,ρ'.β=β/\Ent st (S1.at ρ'):=by
 obtain⟨hlen,hS1,hget⟩:=bDr (k:=0) hch;refine aPu l.length (λD st=>∃ρ':Rho,ρ'.β=β/\st=(stD D 0 l es S).at ρ') hm hb ?_ (aF4 (n5 _))
  ((List.range l.length).map λi=>((cW l l.length).getD i [],(List.range l.length).filter λj=>aY i ((cW l l.length).getD j []))) ?_ ⟨ρ,hρ,by rw[bCy]⟩ ?_ ?_ ?_
 ·simp only[vL,k6,u6];intro i hi;rw[show Nat.blt i l.length=true from aF4 hi];rfl
 ·simp only[aQa,k6,u6];intro i hi;have:((List.range l.length).map λi=>((cW l l.length).getD i [],(List.range l.length).filter λj=>aY i ((cW l l.length).getD j []))).getD i ([],[])=((cW l l.length).getD i [],(List.range l.length).filter λj=>aY i ((cW l l.length).getD j [])):=by
   simp[List.getD,hi]
  rw[this];simp only[f4,k6,z6,u6];exact⟨λj hj=>iV.2 hj,λj hj=>⟨aF4 hj.1,hj.2⟩⟩
 ·rintro D D' st' hD ⟨ρ',h1,rfl⟩;exact⟨ρ',h1,by rw[aTe (D:=D') (D':=D) λj hj=>by rw[s8];exact hD j hj]⟩
 ·rintro i o hi D st' ⟨ρ',hβ,rfl⟩ hDi hK;have hi':l[i]?=some o:=by rwa[aC4] at hi
  have hil:i<l.length:=(g7.1 hi').1;obtain⟨e,he⟩:∃e,es[i]?=some e:=⟨_,g9 (by omega)⟩;obtain⟨hg,hfr⟩:=hget i o e hi' he;simp only[s8] at hg hfr;have hyn:((List.range l.length).map λi=>((cW l l.length).getD i [],(List.range l.length).filter λj=>aY i ((cW l l.length).getD j []))).getD i ([],[])=((cW l l.length).getD i [],(List.range l.length).filter λj=>aY i ((cW l l.length).getD j [])):=by
   simp[List.getD,hil]
  rw [hyn] at hK;have hyes:∀j,aY j ((cW l l.length).getD i [])=true->D j=true:=hK.y;have hno:∀j,j<l.length->aY i ((cW l l.length).getD j [])=true->D j=false:=λj hj hm=>hK.n j (iV.2 (z6.2 ⟨u6.2 hj,hm⟩));have ord:∀j,j<l.length->j≠i->(aY j ((cW l l.length).getD i [])=true\/aY i ((cW l l.length).getD j [])=true)->D j=Nat.blt j i:=by
   intro j hj hji hor
   rcases hor with h|h
   ·rw[hyes j h,show Nat.blt j i=true from aF4 (aWw hb i hil j h)]
   ·rw[hno j hj h];have:=aWw hb j hj i h;cases hbl:Nat.blt j i with
    |false=>rfl
    |true=>have:=f5 hbl;omega
  have hbii:Nat.blt i i=false:=by
   cases hbl:Nat.blt i i with
   |false=>rfl
   |true=>have:=f5 hbl;omega
  have hesl:∀j (e':Eff),es[j]?=some e'->j<l.length:=λj e' h=>by have:=(g7.1 h).1;omega
  have hg':aDx P n l o (stD D 0 l es S) e:=by
   refine aYx hg (λq hq=>?_) λh hh=>?_
   ·refine bAv (λj o' hj hd'=>?_) rfl;rw[s8]
    by_cases hji:j=i
    ·subst hji;rw[hDi,hbii]
    ·exact ord j (g7.1 hj).1 hji (H1 i j o o' q (aF9 hji) hi' hj hq hd')
   ·refine bAw ho ho (λj e' hj hk=>?_) rfl;rw[s8]
    by_cases hji:j=i
    ·subst hji;rw[hDi,hbii]
    ·refine ord j (hesl j e' hj) hji ?_;cases h1:aY j ((cW l l.length).getD i []) with
     |true=>exact .inl rfl
     | false=>
      cases h2:aY i ((cW l l.length).getD j []) with
      |true=>exact .inr rfl
      |false=>exact absurd hh (H2 i j e e' (aF9 hji) he hj h1 h2 h hk).1
  have hfresh:∀h∈e.nw,lV h (stD D 0 l es S)=false/\Nat.ble 100000 h=false:=λh hh=>by
   refine⟨bOt (H4 i e he h hh) λj e' hj hDj=>?_,(hfr h hh).2⟩;rw[s8] at hDj;have hji:j≠i:=λe0=>by subst e0;rw[hDi] at hDj;cases hDj
   refine H3 i j e e' (aF9 hji) he hj ?_ h hh;cases h2:aY i ((cW l l.length).getD j []) with
   |false=>rfl
   |true=>rw[hno j (hesl j e' hj) h2] at hDj;cases hDj
  have after:∀ρ2:Rho,Ent (((stD D 0 l es S).app o.dst e).at ρ2) ((stD (λj=>Nat.beq j i||D j) 0 l es S).at ρ2):=by
   intro ρ2;have henv:∀q,lk ((stD D 0 l es S).app o.dst e).env q=lk (stD (λj=>Nat.beq j i||D j) 0 l es S).env q:=by
    intro q;rw[zL];have off:o.dst≠some q->lk (stD D 0 l es S).env q=lk (stD (λj=>Nat.beq j i||D j) 0 l es S).env q:=λhq=>by
     refine bAv (λj o' hj hd'=>?_) rfl;rw[s8];have hji:j≠i:=λe0=>by subst e0;rw[hi'] at hj;cases hj;exact hq hd'
     have:Nat.beq j i=false:=by
      cases hbj:Nat.beq j i with
      |false=>rfl
      |true=>exact absurd (f7 hbj) hji
     rw[this,aB0]
    cases hdst:o.dst with
    |none=>exact off (by rw[hdst];simp)
    | some d=>
     cases hbq:Nat.beq d q with
     | true=>
      have:=f7 hbq;subst this;simp only[hbq,i7];exact(bOv hi' he hdst (by simp) λj o' hj ho'=>H0 i j o o' d (aF9 hj) hi' ho' hdst).symm
     | false=>
      simp only[hbq,g6];exact off (by rw[hdst];intro e0;cases e0;simp at hbq)
   have hok1:gC (stD D 0 l es S).objs:=bKp ho;have hobj:((stD D 0 l es S).app o.dst e).objs.Perm (stD (λj=>Nat.beq j i||D j) 0 l es S).objs:=by
    refine bRu (aBx hok1) (bKp ho) λq=>?_;rw[aRb hok1];cases hq:aY q (sR e.ch) with
    | true=>
     refine(bOu ho hi' he hq (by simp) (λj e' hij hj hk=>?_) _).symm;rw[s8];have hji:j≠i:=by omega
     have:Nat.beq j i=false:=by
      cases hbj:Nat.beq j i with
      |false=>rfl
      |true=>exact absurd (f7 hbj) hji
     rw[this,aB0];have h1:aY j ((cW l l.length).getD i [])=false:=by
      cases h1:aY j ((cW l l.length).getD i []) with
      |false=>rfl
      |true=>have:=aWw hb i hil j h1;omega
     cases h2:aY i ((cW l l.length).getD j []) with
     |true=>exact hno j (hesl j e' hj) h2
     | false=>
      have:=(H2 i j e e' (aF9 hji) he hj h1 h2 q hk).2;rw[hq] at this;cases this
    | false=>
     rw[bBq hq];refine bAw ho ho (λj e' hj hk=>?_) rfl;rw[s8];have hji:j≠i:=λe0=>by subst e0;rw[he] at hj;cases hj;rw[hq] at hk;cases hk
     have:Nat.beq j i=false:=by
      cases hbj:Nat.beq j i with
      |false=>rfl
      |true=>exact absurd (f7 hbj) hji
     rw[this,aB0]
   have e1:(λq=>ρ2.av (lk ((stD D 0 l es S).app o.dst e).env q))=λq=>ρ2.av (lk (stD (λj=>Nat.beq j i||D j) 0 l es S).env q):=funext λq=>by rw[henv q]
   unfold VS.at;rw[e1];exact aEe (hobj.map _)
  have hdo:=aYl hd o (i8 hi');have run:lN P n o (stD D 0 l es S) e->Step P n o ((stD D 0 l es S).at ρ') (λs=>∃st3,(∃ρ'':Rho,ρ''.β=β/\st3=(stD (λj=>Nat.beq j i||D j) 0 l es S).at ρ'')/\Ent s st3):=λhs=>
   cM (hs _ ⟨λ_ _=>rfl,λ_ _=>rfl⟩ hfresh ρ') λs ⟨ρ2,h2,hent⟩=>⟨_,⟨ρ2,h2.trans hβ,rfl⟩,hent.trans (after ρ2)⟩
  have skip:e=.p (.tup [])->∀d,o.dst=some d->∃st3,(∃ρ'':Rho,ρ''.β=β/\st3=(stD (λj=>Nat.beq j i||D j) 0 l es S).at ρ'')/\Ent (((stD D 0 l es S).at ρ').set d (.tup [])) st3:=λhep d hdst=>by
   refine⟨_,⟨ρ',hβ,rfl⟩,?_⟩;have a:=after ρ';have e2:((stD D 0 l es S).at ρ').set d (.tup [])=((stD D 0 l es S).app o.dst e).at ρ':=by
    rw[hep,hdst];exact at_set _ d (.tup [])
   rw[e2];exact a
  unfold aDx at hg';split at hg'
  ·rename_i hgd
   exact .inl ⟨λ_ _ _ _ _ _=>by simp[Region.wanted,hgd],run hg'⟩
  ·rename_i j g hgd
   obtain⟨s,hs,hsn,hg'⟩:=hg';have hj:(l.toArray[j]?).bind (·.dst)=some s:=by simpa using hs
   rcases hg' with⟨c,hc,⟨hcg,h⟩|⟨hcg,hep,d,hdst,hdn⟩⟩|⟨hc,hep,d,hdst,hdn⟩
   ·subst hcg;exact .inl ⟨λA M w0 a w hR=>by simp[Region.wanted,hgd,yZ hR hj hsn (aCi hc)],run h⟩
   ·exact .inr ⟨λA M w0 a w hR=>by simp[Region.wanted,hgd,yZ hR hj hsn (aCi hc),hcg],d,hdst,hdn,skip hep d hdst⟩
   ·refine .inr ⟨λA M w0 a w hR=>?_,d,hdst,hdn,skip hep d hdst⟩;have h:=hR.env s;rw[aCi hc] at h;have hlt:s<a.tmps.size:=by rw[hR.size];exact hsn
    rw[Array.getD_eq_getD_getElem?,u1 hlt,u7] at h;have hy:yielded l.toArray a.tmps j=none:=by
     simp only[yielded,hj,c6,u1 hlt]
     generalize a.tmps[s]=u at h
     cases h;rfl
    simp[Region.wanted,hgd,hy]
 ·rintro st' ⟨ρ',hβ,rfl⟩;rw[List.drop_length];refine cIi ⟨rfl,ρ',hβ,?_⟩;rw[hS1];exact Ent.refl _
end Go.Am
end
end
