/- Walks by reckoning: the operations' reckoning is right. -/
import Derived.Test.YtiohgpipanopaaaGreatAmX3
namespace Go.Am
section
variable{P:Program}{T:TT P}{n:Nat}{ow:List Nat}{S:VS}{d:Nat}{ty:TypeId}{pos:String}{af:Array Edge}{gd:Option (Nat×Bool)}{K:Eff->Prop}
theorem evS{S':VS}{op:Op}{us:List Nat}{x:Operand}{v:AV}{ρ:Rho}(hA:Agr op S S' us)(hx:x∈op.operands.toList)(h:S.ev x=v):(S'.at ρ).eval x=ρ.av v:=by rw[bBz,hA.ev x hx,h]
theorem fI{op:Op}{v:AV}{us:List Nat}(hK:K (.r v us))(h:∀S',Agr op S S' us->∀ρ,bB P n ⟨some d,op,ty,pos,af,gd⟩ (S'.at ρ) ((S'.at ρ).set d (ρ.av v))):dH P n ⟨some d,op,ty,pos,af,gd⟩ S K:=⟨⟨_,hK,bUq h⟩⟩
theorem bZp{op:Op}{x:Operand}(hm:x∈op.operands.toList)(hop:∀(st:St) (v:AV),cT x=true->st.eval x=v->bB P n ⟨some d,op,ty,pos,af,gd⟩ st (st.set d v))(h:zE S x K):dH P n ⟨some d,op,ty,pos,af,gd⟩ S K:=by
 unfold zE at h;cases hk:cT x with
 |false=>rw[hk] at h;exact h.elim
 | true=>
  rw[hk] at h;exact fI (us:=[]) (zR (K:=λv=>K (.p v)) h) λS' hA ρ=>hop _ _ hk (evS hA hm rfl)
theorem bQz{t:Nat}{Q:Nat->Nat->Nat->Prop}(h:bDm T t Q):∃i e j td,T.ty.get t=some (i,.slice e)/\T.ty.get e=some (j,td)/\Q e j.size j.bytes:=by
 unfold bDm at h;split at h
 ·rename_i i e h1
  split at h
  ·rename_i j td h2
   exact⟨i,e,j,td,h1,h2,h⟩
  ·exact h.elim
 ·exact h.elim
theorem bJq{op:Op}{x:Operand}(hd:d<n)(hop:op=.move x\/op=.assign x)(h:bCg T ow S ⟨some d,op,ty,pos,af,gd⟩ d x K):dH P n ⟨some d,op,ty,pos,af,gd⟩ S K:=by
 have gen:zE S x K->dH P n ⟨some d,op,ty,pos,af,gd⟩ S K:=λh=>bZp (by rcases hop with rfl|rfl<;>simp[Op.operands]) (λst v hk hx=>by
  rcases hop with rfl|rfl
  ·exact aKr hd hx hk
  ·exact aHs hd hx hk) h
 unfold bCg at h;split at h
 ·obtain⟨i,e,j,td,h1,h2,h⟩:=bQz h;cases hm:bG d ow&&!(pI d S) with
  | true=>
   rw[hm] at h;exact⟨⟨_,h,aYx (us:=[]) λS' hA ρ=>kV (sR e j.size (op:=op) (by rcases hop with rfl|rfl;exact .inr rfl;exact .inl rfl) hd) λs hs=>⟨_,hs⟩⟩⟩
  | false=>
   rw[hm] at h;refine fI (us:=[]) h λS' hA ρ=>?_
   rcases hop with rfl|rfl
   ·exact bYz j.size hd
   ·exact aFu j.size hd
 ·exact gen h
theorem aKx{c x y:Operand}(hd:d<n)(h:aNi S c x y K):dH P n ⟨some d,.pick c x y,ty,pos,af,gd⟩ S K:=by
 unfold aNi at h;split at h
 ·rename_i b hc
  have h:=aYl h;have hcm:c∈(Op.pick c x y).operands.toList:=by simp[Op.operands]
  cases b with
  | true=>
   unfold zE at h;cases hk:cT x with
   |false=>rw[hk] at h;exact h.elim
   | true=>
    rw[hk] at h;exact fI (us:=[]) (zR (K:=λv=>K (.p v)) h) λS' hA ρ=>aUa hd (evS hA hcm hc) rfl (evS hA (by simp[Op.operands]) rfl) hk
  | false=>
   unfold zE at h;cases hk:cT y with
   |false=>simp only[hk] at h;exact h.elim
   | true=>
    simp only[hk] at h;exact fI (us:=[]) (zR (K:=λv=>K (.p v)) h) λS' hA ρ=>aTz hd (evS hA hcm hc) rfl (evS hA (by simp[Op.operands]) rfl) hk
 ·exact h.elim
theorem jF{b:Bool}{p:Prop}(h:bif b then p else False):b=true/\p:=by cases b with
 |true=>exact⟨rfl,h⟩
 |false=>exact h.elim
theorem bZk{op:BinOp}{x y:Operand}{t u:TypeId}{k k':IntKind}{p q:Int}(hd:d<n)(hx:S.ev x=.d (.lit (.int k p)))(hy:S.ev y=.d (.lit (.int k' q)))(h:bTw (P:=P) n S ⟨some d,.binOp op t x y u,ty,pos,af,gd⟩ op k k' p q K):
  dH P n ⟨some d,.binOp op t x y u,ty,pos,af,gd⟩ S K:=by
 have mx:∀op,x∈(Op.binOp op t x y u).operands.toList:=λ_=>by simp[Op.operands]
 have my:∀op,y∈(Op.binOp op t x y u).operands.toList:=λ_=>by simp[Op.operands]
 cases op<;>simp only[bTw] at h
 case add=>obtain⟨h1,g⟩:=jF h;have:=tZ h1;subst this;exact fI (us:=[]) g λS' hA ρ=>aDc hd (evS hA (mx _) hx) (evS hA (my _) hy) rfl
 case sub=>obtain⟨h1,g⟩:=jF h;have:=tZ h1;subst this;exact fI (us:=[]) g λS' hA ρ=>aDc hd (evS hA (mx _) hx) (evS hA (my _) hy) rfl
 case mul=>obtain⟨h1,g⟩:=jF h;have:=tZ h1;subst this;exact fI (us:=[]) g λS' hA ρ=>aDc hd (evS hA (mx _) hx) (evS hA (my _) hy) rfl
 case lss=>obtain⟨h1,g⟩:=jF h;have:=tZ h1;subst this;exact fI (us:=[]) g λS' hA ρ=>aFp hd (evS hA (mx _) hx) (evS hA (my _) hy) rfl
 case leq=>obtain⟨h1,g⟩:=jF h;have:=tZ h1;subst this;exact fI (us:=[]) g λS' hA ρ=>aFp hd (evS hA (mx _) hx) (evS hA (my _) hy) rfl
 case gtr=>obtain⟨h1,g⟩:=jF h;have:=tZ h1;subst this;exact fI (us:=[]) g λS' hA ρ=>aFp hd (evS hA (mx _) hx) (evS hA (my _) hy) rfl
 case geq=>obtain⟨h1,g⟩:=jF h;have:=tZ h1;subst this;exact fI (us:=[]) g λS' hA ρ=>aFp hd (evS hA (mx _) hx) (evS hA (my _) hy) rfl
 case eql=>obtain⟨h1,g⟩:=jF h;have:=tZ h1;subst this;exact fI (us:=[]) g λS' hA ρ=>aFp hd (evS hA (mx _) hx) (evS hA (my _) hy) rfl
 case neq=>obtain⟨h1,g⟩:=jF h;have:=tZ h1;subst this;exact fI (us:=[]) g λS' hA ρ=>aFp hd (evS hA (mx _) hx) (evS hA (my _) hy) rfl
 case quo=>obtain⟨h1,h0,g⟩:=jF h;have:=tZ h1;subst this;exact fI (us:=[]) g λS' hA ρ=>cAi hd (evS hA (mx _) hx) (evS hA (my _) hy) h0
 case rem=>obtain⟨h1,h0,g⟩:=jF h;have:=tZ h1;subst this;exact fI (us:=[]) g λS' hA ρ=>aWx hd (evS hA (mx _) hx) (evS hA (my _) hy) h0
 case shl=>obtain⟨h0,h⟩:=h;exact fI (us:=[]) h λS' hA ρ=>aWy hd (evS hA (mx _) hx) (evS hA (my _) hy) h0
 case shr=>obtain⟨h0,h⟩:=h;exact fI (us:=[]) h λS' hA ρ=>bCd hd (evS hA (mx _) hx) (evS hA (my _) hy) h0
 all_goals exact h
theorem bZg{op:BinOp}{x y:Operand}{t u:TypeId}(hd:d<n)(h:bTr (P:=P) n S ⟨some d,.binOp op t x y u,ty,pos,af,gd⟩ op t x y K):dH P n ⟨some d,.binOp op t x y u,ty,pos,af,gd⟩ S K:=by
 unfold bTr at h;split at h
 ·rename_i h1 h2;exact bZk hd h1 h2 h
 ·exact h
theorem cAl{op:UnOp}{x:Operand}{t:TypeId}(hd:d<n)(h:xun (P:=P) n S ⟨some d,.unOp op t x,ty,pos,af,gd⟩ op x K):dH P n ⟨some d,.unOp op t x,ty,pos,af,gd⟩ S K:=by
 have mx:∀op,x∈(Op.unOp op t x).operands.toList:=λ_=>by simp[Op.operands]
 unfold xun at h;split at h
 ·rename_i h1;exact fI (us:=[]) h λS' hA ρ=>bCc hd (evS hA (mx _) h1)
 ·rename_i h1;exact fI (us:=[]) h λS' hA ρ=>cAh hd (evS hA (mx _) h1)
 ·exact h
theorem DR.nohv{w:World}{X:bH}{x:D}{v:Value}(h:DR w X x v)(ρ:Rho):ρ.dd x=x:=by cases h<;>rfl
theorem DRs.nohv{w:World}{X:bH}(ρ:Rho):∀{ds:List D} {vs:List Value},DRs w X ds vs->ds.map ρ.dd=ds
 |[],[],_=>rfl
 |_::_,_::_,h=>by simp only[List.map_cons,h.1.nohv ρ,DRs.nohv ρ h.2]
theorem bJm{o:Oper}{st:St}{x:Operand}{ds:List D}{ρ:Rho}{Q:St->Prop}(hx:st.eval x=.cp ds)(h:ds.map ρ.dd=ds->Step P n o st Q):Step P n o st Q:=by
 intro A M w0 a w hR K R hK;have hk:cT x=true:=by cases x with|const u=>cases hx|_=>rfl
 have hv:=hR.eval' hk;rw[hx] at hv;have:ds.map ρ.dd=ds:=by
  generalize a.eval x=u at hv
  cases hv with|cp _ _ hds _ _=>exact hds.nohv ρ
 exact h this A M w0 a w hR K R hK
theorem bZi{t f:Nat}{x:Operand}(hd:d<n)(h:bTu T S t x f K):dH P n ⟨some d,.fieldAddr t x f,ty,pos,af,gd⟩ S K:=by
 have mx:x∈(Op.fieldAddr t x f).operands.toList:=by simp[Op.operands]
 unfold bTu at h;split at h
 ·rename_i i fs h1
  split at h
  ·rename_i fd h2
   rw[bIr] at h2;split at h
   ·rename_i j td h3
    obtain⟨h4,h⟩:=jF h;have hf:=bTn h1 h2 h3 h4;split at h
    ·rename_i hx;exact fI (us:=[]) h λS' hA ρ=>aBz hd (evS hA mx hx) hf
    ·rename_i ds hx
     obtain⟨hl,h⟩:=aCe (K:=λes=>K (.p (.cp es))) h;exact fI (us:=[]) h λS' hA ρ=>aFq hd (evS hA mx hx) hf (by rw[hl])
    ·rename_i hx;exact fI (us:=[]) h λS' hA ρ=>bLt hd (evS hA mx hx) hf
    ·exact h.elim
   ·exact h.elim
  ·exact h.elim
 ·exact h.elim
theorem bZn{x:Operand}(hd:d<n)(h:bTz (P:=P) n S ⟨some d,.nilCheck x,ty,pos,af,gd⟩ x K):dH P n ⟨some d,.nilCheck x,ty,pos,af,gd⟩ S K:=by
 have mx:x∈(Op.nilCheck x).operands.toList:=by simp[Op.operands]
 unfold bTz at h;split at h
 ·rename_i hx;exact fI (us:=[]) h λS' hA ρ=>eI hd (evS hA mx hx)
 ·rename_i hx;exact fI (us:=[]) h λS' hA ρ=>jL hd (evS hA mx hx)
 ·exact h
theorem aWd{es:List D}{K:D->Prop}(h:aJm es K):∃x,es=[x]/\K x:=by
 unfold aJm at h;split at h
 ·exact⟨_,rfl,h⟩
 ·exact h.elim
theorem aKh{S':VS}{op:Op}{us:List Nat}{h:Nat}{m:VO}(ρ:Rho)(hA:Agr op S S' us)(hu:h∈us)(hm:ob S.objs h=some m):∃i:Nat,(S'.at ρ).objs[i]?=some (ρ.mo h m):=by
 obtain⟨i,h1,_⟩:=aQu (ρ:=ρ) ((hA.ob h hu).trans hm);exact⟨i,h1⟩
theorem bCf{ds:List D}{j:Nat}{x:D}(h:(ds.drop j).take 1=[x]):ds[j]?=some x:=by
 have:=congrArg (·[0]?) h
 simpa using this
theorem aYf{α:Type}{f:α->α}:∀{l:List α},l.map f=l->∀x∈l,f x=x
 |[],_,_,h=>by cases h
 | y::l,h,x,hx=>by
  simp only[List.map_cons,List.cons.injEq] at h
  rcases List.mem_cons.1 hx with rfl|hx
  ·exact h.1
  ·exact aYf h.2 x hx
theorem aYa{α:Type}{f:α->α}:∀{l:List α},(∀x∈l,f x=x)->l.map f=l
 |[],_=>rfl
 |y::l,h=>by rw[List.map_cons,h y (by simp),aYa λx hx=>h x (List.mem_cons_of_mem _ hx)]
theorem aVo{w:World}{X:bH}{e k:Nat}{v:Value}{rows:List (List D)}(h:(MO.arr v e k rows).holds w X)(ρ:Rho){i:Nat}{ds:List D}(hi:rows[i]?=some ds):ds.map ρ.dd=ds:=by
 obtain⟨xs,hxs,_,hr⟩:=h;exact aYa λx hx=>aYf (hxs.nohv ρ) x (List.mem_flatten.2 ⟨ds,List.mem_of_getElem? hi,hx⟩)
theorem bGc{o:Oper}{st:St}{i:Nat}{m:MO}{Q:St->Prop}(hm:st.objs[i]?=some m)(h:(∃w X,m.holds w X)->Step P n o st Q):Step P n o st Q:=
 λA M w0 a w hR=>h ⟨w,_,hR.inv.holds m (List.mem_of_getElem? hm)⟩ A M w0 a w hR
theorem aTm{f:D->D}{ds:List D}{j m:Nat}:((ds.map f).drop j).take m=((ds.drop j).take m).map f:=by simp[List.map_drop,List.map_take]
theorem bXh{t:TypeId}{x:Operand}(hd:d<n)(h:bMm T n S ⟨some d,.load t x,ty,pos,af,gd⟩ t x K):dH P n ⟨some d,.load t x,ty,pos,af,gd⟩ S K:=by
 have mx:x∈(Op.load t x).operands.toList:=by simp[Op.operands]
 unfold bMm at h;split at h
 ·rename_i i td ht
  split at h
  ·rename_i ds hx
   cases ha:aGh td with
   | true=>
    rw[ha] at h;obtain⟨hl,h⟩:=aCe (K:=λes=>K (.p (.agg es))) h;refine fI (us:=[]) h λS' hA ρ=>bJm (ρ:=ρ) (evS hA mx hx) λhn=>?_;have he:ρ.av (.agg ((ds.drop 0).take i.size))=.agg (ds.take i.size):=by
     show AV.agg _=_;rw[List.drop_zero,List.map_take,hn]
    rw[he];exact aFt hd (evS hA mx hx) (aNd ht ha rfl) rfl (by simpa using hl)
   | false=>
    rw[ha] at h;obtain⟨h1,h⟩:=jF h;obtain⟨hl,h⟩:=aCe (K:=λes=>aJm es λx=>K (.p (.d x))) h;obtain⟨d0,he,h⟩:=aWd (K:=λx=>K (.p (.d x))) h;have h0:=bCf he;refine fI (us:=[]) h λS' hA ρ=>bJm (ρ:=ρ) (evS hA mx hx) λhn=>?_;cases ds with
    |nil=>simp at h0
    | cons y ds=>
     simp at h0;subst h0
     have:ρ.dd y=y:=by have:=congrArg (·[0]?) hn;simpa using this
     have he:ρ.av (.d y)=.d y:=by show AV.d _=_;rw[this]
     rw[he];exact aIw hd (evS hA mx hx) (aNe ht ha (Nat.eq_of_beq_eq_true h1))
  ·rename_i hh o j hx
   split at h
   ·rename_i ds hm
    cases ha:aGh td with
    | true=>
     rw[ha] at h;obtain⟨hl,h⟩:=aCe (K:=λes=>K (.r (.agg es) [hh])) h;refine fI h λS' hA ρ=>?_;obtain⟨p,hp⟩:=aKh ρ hA (by simp) hm;exact aFs hd (evS hA mx hx) hp (aNd ht ha rfl) aTm (by simpa using hl)
    | false=>
     rw[ha] at h;obtain⟨h1,h⟩:=jF h;obtain⟨hl,h⟩:=aCe (K:=λes=>aJm es λx=>K (.r (.d x) [hh])) h;obtain⟨d0,he,h⟩:=aWd (K:=λx=>K (.r (.d x) [hh])) h;refine fI h λS' hA ρ=>?_;obtain⟨p,hp⟩:=aKh ρ hA (by simp) hm;exact aAo hd (evS hA mx hx) hp (by rw[List.getElem?_map,bCf he];rfl) (aNe ht ha (Nat.eq_of_beq_eq_true h1))
   ·exact h
  ·rename_i hh kk r c hx
   split at h
   ·rename_i e k rows hm
    obtain⟨hk,ds,hr,h⟩:=h;have hk:=Nat.eq_of_beq_eq_true hk;subst hk;cases ha:aGh td with
    | true=>
     rw[ha] at h;obtain⟨hl,h⟩:=aCe (K:=λes=>K (.r (.agg es) [hh])) h;refine fI h λS' hA ρ=>?_;obtain⟨p,hp⟩:=aKh ρ hA (by simp) hm;refine bGc hp λ⟨w,X,hh⟩=>?_;have hn:=aVo hh ρ hr;have he:ρ.av (.agg ((ds.drop c).take i.size))=.agg ((ds.drop c).take i.size):=by
      show AV.agg _=_;rw[<-aTm,hn]
     rw[he];exact bLx hd (evS hA mx hx) hp hr (aNd ht ha rfl) rfl (by simpa using hl)
    | false=>
     rw[ha] at h;obtain⟨h1,h⟩:=jF h;obtain⟨hl,h⟩:=aCe (K:=λes=>aJm es λx=>K (.r (.d x) [hh])) h;obtain⟨d0,he,h⟩:=aWd (K:=λx=>K (.r (.d x) [hh])) h;have h0:=bCf he;refine fI h λS' hA ρ=>?_;obtain⟨p,hp⟩:=aKh ρ hA (by simp) hm;refine bGc hp λ⟨w,X,hh⟩=>?_;have hn:=aVo hh ρ hr;have he:ρ.av (.d d0)=.d d0:=by
      show AV.d _=_;rw[aYf hn d0 (List.mem_of_getElem? h0)]
     rw[he];exact sQ hd (evS hA mx hx) hp hr h0 (aNe ht ha (Nat.eq_of_beq_eq_true h1))
   ·exact h
  ·exact h
 ·exact h.elim
theorem aGl{v:AV}{es:List D}(ρ:Rho)(h:v.cells=some es):(ρ.av v).cells=some (es.map ρ.dd):=by
 cases v with
 |d x=>simp[AV.cells] at h;subst h;rfl
 |agg xs=>simp[AV.cells] at h;subst h;rfl
 |_=>simp[AV.cells] at h
theorem bAo{f:D->D}{ds es:List D}{j:Nat}:(gD ds j es).map f=gD (ds.map f) j (es.map f):=by simp[gD,List.map_take,List.map_drop]
theorem lt1{m:Nat}(h:Nat.ble 1 m=true):0<m:=Nat.le_of_ble_eq_true h
theorem aHb(ρ:Rho):∀{es:List D},es.any hvD=false->es.map ρ.dd=es
 |[],_=>rfl
 | x::l,h=>by
  simp only[List.any_cons,Bool.or_eq_false_iff] at h;rw[List.map_cons,aHb ρ h.2];cases x with
  |hv=>simp[hvD] at h
  |_=>rfl
theorem bUc{t:TypeId}{x y:Operand}(h:bGq T n S ⟨none,.store t x y,ty,pos,af,gd⟩ t x y K):dH P n ⟨none,.store t x y,ty,pos,af,gd⟩ S K:=by
 have mx:x∈(Op.store t x y).operands.toList:=by simp[Op.operands]
 have my:y∈(Op.store t x y).operands.toList:=by simp[Op.operands]
 unfold bGq at h;split at h
 ·rename_i i td ht
  obtain⟨hk,h⟩:=jF h;split at h
  ·rename_i es hes
   obtain⟨hb,h⟩:=jF h;simp only[Bool.and_eq_true] at hb;split at h
   ·rename_i hh o j hx
    split at h
    ·rename_i ds hm
     obtain⟨hj,h⟩:=jF h;obtain⟨hle,h⟩:=bLo (K:=λds'=>K ⟨.any,[(hh,some (.box ds'))],[hh],[]⟩) (Nat.le_of_ble_eq_true hj) h;refine⟨⟨_,h,bJd hm (by simp) λS' hA ρ p hp=>?_⟩⟩;exact vG (evS hA mx hx) hp (evS hA my rfl) hk (aGl ρ hes) (λw=>aDh ht w) (by simpa using Nat.eq_of_beq_eq_true hb.1) (lt1 hb.2) (by simpa using hle) bAo.symm
    ·exact h
   ·rename_i hh kk r c hx
    split at h
    ·rename_i e k rows hm
     cases hv:es.any hvD with
     |true=>rw[hv] at h;exact h.elim
     | false=>
      rw[hv] at h;obtain⟨hkk,ds,rows',hr,hle,hrows,h⟩:=h;have hkk:=Nat.eq_of_beq_eq_true hkk;subst hkk;refine⟨⟨_,h,bJd hm (by simp) λS' hA ρ p hp=>?_⟩⟩;have hc:=aGl ρ hes;rw[aHb ρ hv] at hc;exact vH (evS hA mx hx) hp hr (evS hA my rfl) hk hc (λw=>aDh ht w) (Nat.eq_of_beq_eq_true hb.1) (lt1 hb.2) hle hrows
    ·exact h
   ·exact h
  ·exact h.elim
 ·exact h.elim
theorem cnf{b:Bool}{p:Prop}(h:bif b then False else p):b=false/\p:=by cases b with
 |true=>exact h.elim
 |false=>exact⟨rfl,h⟩
theorem aDi{ρ:Rho}:∀{zs:List D},zOK zs=true->zs.map ρ.dd=zs
 |[],_=>rfl
 | .lit v::l,h=>by simp only[zOK,Bool.and_eq_true] at h;rw[List.map_cons,aDi h.2];rfl
 | .sl _ []::l,h=>by simp only[zOK] at h;rw[List.map_cons,aDi h];rfl
 | .sl _ (_::_)::l,h=>by simp[zOK] at h
 | .sn _ _::l,h=>by simp[zOK] at h
 | .mp _ _::l,h=>by simp[zOK] at h
 | .pt _::l,h=>by simp[zOK] at h
 | .hv .. ::l,h=>by simp[zOK] at h
theorem bNs{x:Option D}(h:bKu x=true):x=some (.lit (.slice none 0 0)):=by
 unfold bKu at h;split at h
 ·rfl
 ·cases h
theorem bFb:∀{zs:List D} {j:Nat},(aPu ow d j zs).map bA=zs.map bA
 |[],_=>rfl
 | x::l,j=>by
  simp only[aPu,List.map_cons,bFb (zs:=l)]
  congr 1
  cases bG (100000*(j+1)+d) ow with
  |true=>simp only[cond_true];split<;>rfl
  |false=>rfl
theorem aAn:∀{zs:List D} {j:Nat},zOK zs=true->zOK (aPu ow d j zs)=true
 |[],_,h=>h
 | x ::l,j,h=>by
  simp only[aPu];cases bG (100000*(j+1)+d) ow with
  | false=>
   simp only[cond_false];cases x with
   |lit v=>simp only[zOK,Bool.and_eq_true] at h|-;exact⟨h.1,aAn h.2⟩
   | sl k r=>cases r with
    |nil=>exact aAn (zs:=l) h
    |cons=>simp[zOK] at h
   |_=>simp[zOK] at h
  | true=>
   simp only[cond_true];cases x with
   |lit v=>simp only[zOK,Bool.and_eq_true] at h|-;exact⟨h.1,aAn h.2⟩
   | sl k r=>cases r with
    |nil=>simp only[zOK,Bool.and_eq_true];exact⟨rfl,aAn (zs:=l) h⟩
    |cons=>simp[zOK] at h
   |_=>simp[zOK] at h
theorem bOu{op:Op}:∀{c:List (Nat×Nat×Nat)} {zs:List D} {ch:List (Nat×Option VO)} {nw:List Nat},pO P n ⟨some d,op,ty,pos,af,gd⟩ S ⟨.bp d 0 0,ch++[(d,some (.box zs))],[],nw⟩->bLi d c zs ch nw K->dH P n ⟨some d,op,ty,pos,af,gd⟩ S K
 |[],zs,ch,nw,hs,h=>⟨⟨_,h,hs⟩⟩
 | (j,k,e)::c,zs,ch,nw,hs,h=>by
  simp only[bLi] at h;obtain⟨hb,h⟩:=jF h;simp only[Bool.and_eq_true,Bool.not_eq_true'] at hb;refine bOu (c:=c) ?_ h;have:=bTf (e:=e) (k:=k) (bNs hb.1) hb.2 hs;rw[List.append_assoc];exact this
theorem bTq{t:TypeId}(hd:d<n)(h:bGn T ow d t K):dH P n ⟨some d,.alloc t,ty,pos,af,gd⟩ S K:=by
 unfold bGn at h;split at h
 ·rename_i zs hz
  cases how:bG (d+30000) ow with
  | true=>
   rw[how] at h;simp only[cond_true] at h;obtain⟨hf,h⟩:=cnf h;obtain⟨z,h1,h2,h3⟩:=Tr'.ok hz;refine bOu (ch:=[]) ?_ h;refine aYy (us:=[]) hf λS' hA ρ=>?_;rw[aDi (aAn h3)];exact dG hd h1 (by rw[bFb];exact h2) (aAn h3)
  |false=>
  rw[how] at h;simp only[cond_false] at h;obtain⟨hf,h⟩:=cnf h;obtain⟨z,h1,h2,h3⟩:=Tr'.ok hz;refine⟨⟨_,h,aYy (us:=[]) hf λS' hA ρ=>?_⟩⟩;rw[aDi h3];exact dG hd h1 h2 h3
 ·exact h.elim
theorem bXi{t:TypeId}{x y:Operand}(hd:d<n)(h:bMn T S d t x y K):dH P n ⟨some d,.makeSlice t x y,ty,pos,af,gd⟩ S K:=by
 have mx:x∈(Op.makeSlice t x y).operands.toList:=by simp[Op.operands]
 have my:y∈(Op.makeSlice t x y).operands.toList:=by simp[Op.operands]
 unfold bMn at h;split at h
 ·rename_i i e h1
  split at h
  ·rename_i j td zs h2 h3
   obtain⟨hb,h⟩:=jF h;simp only[Bool.and_eq_true] at hb;split at h
   ·rename_i k1 m k2 m' hx hy
    obtain⟨he,rows,hm,hK⟩:=h.h;subst he;obtain⟨z,hz⟩:=aNf h1 h2 rfl hb.1;obtain⟨z',g1,g2,g3⟩:=Tr'.ok h3;refine⟨⟨_,hK,aYx (us:=[]) λS' hA ρ A M w0 a w hR=>?_⟩⟩;have ez:z=z':=by
     have a1:=hz.zero w;rw[g1 w] at a1;injection a1 with a1 _
     exact a1.symm
    subst ez;exact bFw hd hz (evS hA mx hx) (evS hA my hy) g2 g3 hm (Nat.le_of_ble_eq_true hb.2) A M w0 a w hR
   ·exact h.elim
  ·exact h.elim
 ·exact h.elim
theorem bZh{t:TypeId}{x:Operand}(hd:d<n)(h:bTs S d x K):dH P n ⟨some d,.box t x,ty,pos,af,gd⟩ S K:=by
 have mx:x∈(Op.box t x).operands.toList:=by simp[Op.operands]
 unfold bTs at h;obtain⟨hk,h⟩:=jF h;split at h
 ·rename_i ds hc
  have h:=bDx (K:=λds=>bif ds.any (aHe d) then False else K ⟨.bp d 0 0,[(d,some (.box ds))],[],[d]⟩) h;obtain⟨hf,h⟩:=cnf h;exact⟨⟨_,h,aYy (us:=[]) hf λS' hA ρ=>lC hd (evS hA mx rfl) hk (aGl ρ hc)⟩⟩
 ·exact h.elim
theorem bDs(ρ:Rho){v:AV}(h:aFi v=true):ρ.a1 v=ρ.av v:=by
 cases v<;>first|rfl|simp[aFi] at h
theorem bXg{x:Operand}{i:Nat}(hd:d<n)(h:bMl (P:=P) n S ⟨some d,.extract x i,ty,pos,af,gd⟩ x i K):dH P n ⟨some d,.extract x i,ty,pos,af,gd⟩ S K:=by
 have mx:x∈(Op.extract x i).operands.toList:=by simp[Op.operands]
 unfold bMl at h;split at h
 ·rename_i vs hx
  split at h
  ·rename_i v hv
   obtain⟨hf,h⟩:=jF h;refine fI (us:=[]) (zR (K:=λv=>K (.p v)) h) λS' hA ρ=>?_;refine aIv (vs:=vs.map ρ.a1) hd (evS hA mx hx) ?_;rw[bIq] at hv;rw[List.getElem?_map,hv,<-bDs ρ hf]
   rfl
  ·exact h.elim
 ·exact h
theorem aTr{S S':VS}(ρ:Rho):∀{l:List (Nat×Operand)},(∀p∈l,S'.ev p.2=S.ev p.2)->(S'.at ρ).parts l=(St.parts ⟨λk=>lk S.env k,[]⟩ l).map λp=>(p.1,ρ.av p.2)
 |[],_=>rfl
 | (i,x)::l,h=>by
  have h1:(S'.at ρ).eval x=ρ.av (St.eval ⟨λk=>lk S.env k,[]⟩ x):=by
   rw[bBz,h (i,x) (by simp)];cases x<;>rfl
  simp only[St.parts,List.map_cons,h1,aTr ρ λp hp=>h p (List.mem_cons_of_mem _ hp)]
theorem bDp{place:Nat->Option (Nat×Nat)}(ρ:Rho):∀{ps:List (Nat×AV)} {ds es:List D},aBg place ds ps=some es->aBg place (ds.map ρ.dd) (ps.map λp=>(p.1,ρ.av p.2))=some (es.map ρ.dd)
 |[],ds,es,h=>by simp only[aBg,Option.some.injEq] at h;subst h;rfl
 | (i,x)::ps,ds,es,h=>by
  simp only[aBg] at h;split at h
  ·rename_i off size es' h1 h2
   split at h
   ·rename_i hc
    simp only[List.map_cons,aBg,h1,aGl ρ h2];rw[if_pos (by simpa using hc),<-bAo];exact bDp ρ h
   ·cases h
  ·cases h
theorem bOw:∀{l:List Field} {pl:List (Nat×Nat)},bFe T l=some pl->∀w,(l.mapM λf=>Prod.mk f.offset <$> sizeOf f.type).run P w=.ok pl w
 |[],pl,h,w=>by simp only[bFe,Option.some.injEq] at h;subst h;rfl
 | f::l,pl,h,w=>by
  simp only[bFe] at h;split at h
  ·rename_i j td r h1 h2
   cases h;have:=bOw h2 w
   simp[List.mapM_cons,aDh h1,this]
  ·cases h
theorem bOv{op:Op}:∀{c:List (Nat×Nat×Nat)} {xs:List D} {ch:List (Nat×Option VO)} {nw:List Nat},pO P n ⟨some d,op,ty,pos,af,gd⟩ S ⟨.agg xs,ch,[],nw⟩->bFa d c xs ch nw K->dH P n ⟨some d,op,ty,pos,af,gd⟩ S K
 |[],xs,ch,nw,hs,h=>⟨⟨_,h,hs⟩⟩
 | (j,k,e)::c,xs,ch,nw,hs,h=>by
  simp only[bFa] at h;obtain⟨hb,h⟩:=jF h;simp only[Bool.and_eq_true,Bool.not_eq_true'] at hb;exact bOv (c:=c) (bPl (e:=e) (k:=k) (bNs hb.1) hb.2 hs) h
theorem bTt{t:TypeId}{l:List (Nat×Operand)}(hd:d<n)(h:bGo T n ow S ⟨some d,.build t l.toArray,ty,pos,af,gd⟩ d t l K):dH P n ⟨some d,.build t l.toArray,ty,pos,af,gd⟩ S K:=by
 unfold bGo at h;split at h
 ·rename_i i fs zs ht hz
  split at h
  ·rename_i pl hpl
   obtain⟨hok,h⟩:=jF h;split at h
   ·rename_i es he
    have h:=bDx (K:=λes=>bif bG (d+30000) ow then bFa d (aYn ow d (bDl T t) 0 zs) es [] [] K else K (.p (.agg es))) h;obtain⟨z,h1,h2,h3⟩:=Tr'.ok hz;have key:pO P n ⟨some d,.build t l.toArray,ty,pos,af,gd⟩ S ⟨.agg es,[],[],[]⟩:=by
     refine bUq (us:=[]) λS' hA ρ=>?_;have hst:qW P t z pl:=⟨h1,fs,λw=>run_underlying (Tr'.ok ht).2 w,λw=>by
      have:=bOw hpl w;rw[Array.mapM_eq_mapM_toList]
      simp[this]⟩
     have hps:=aTr (S:=S) (S':=S') ρ (l:=l) λp hp=>hA.ev _ (by simp[Op.operands];exact⟨_,hp⟩);have hf:=bDp ρ he;cases how:bG (d+30000) ow with
     | true=>
      rw[how] at hf;simp only[cond_true] at hf;rw[aDi (aAn h3)] at hf;exact jT hd hst (by rw[bFb];exact h2) (aAn h3) hok hps hf
     | false=>
      rw[how] at hf;simp only[cond_false] at hf;rw[aDi h3] at hf;exact jT hd hst h2 h3 hok hps hf
    cases how:bG (d+30000) ow with
    |true=>rw[how] at h;exact bOv key h
    |false=>rw[how] at h;exact⟨⟨_,h,key⟩⟩
   ·exact h.elim
  ·exact h.elim
 ·exact h
theorem bAy(ρ:Rho):∀{ps:List (Nat×AV)} {k:Nat} {rows:List (List D)},rJ k ps=some rows->rJ k (ps.map λp=>(p.1,ρ.av p.2))=some (rows.map (·.map ρ.dd))
 |[],k,rows,h=>by simp only[rJ,Option.some.injEq] at h;subst h;rfl
 | (i,x)::ps,k,rows,h=>by
  simp only[rJ] at h;split at h
  ·rename_i ds rows' h1 h2
   split at h
   ·rename_i hik
    cases h;simp only[List.map_cons,rJ,aGl ρ h1,bAy ρ h2,if_pos hik]
   ·cases h
  ·cases h
theorem aLe{k:Nat}(ρ:Rho):∀{rows:List (List D)},aOh k rows=true->(∀r∈rows,r.length=k)/\rows.map (·.map ρ.dd)=rows
 |[],_=>⟨by simp,rfl⟩
 | r::l,h=>by
  simp only[aOh,Bool.and_eq_true,Bool.not_eq_true'] at h;obtain⟨h1,h2⟩:=aLe ρ h.2.2;refine⟨λx hx=>?_,?_⟩
  ·rcases List.mem_cons.1 hx with rfl|hx
   ·exact Nat.eq_of_beq_eq_true h.1
   ·exact h1 x hx
  ·rw[List.map_cons,h2,aHb ρ h.2.1]
theorem bZm{t len:Nat}{l:List (Nat×Operand)}(hd:d<n)(h:bTy T ow S d t len l K):dH P n ⟨some d,.buildSlice t len l.toArray,ty,pos,af,gd⟩ S K:=by
 unfold bTy at h;split at h
 ·rename_i i e ht
  split at h
  ·rename_i j td he
   obtain⟨hb,h⟩:=jF h;simp only[Bool.and_eq_true] at hb;obtain⟨z,hty⟩:=aNf ht he rfl hb.1;split at h
   ·rename_i rows hr
    obtain⟨hc,h⟩:=jF h;simp only[Bool.and_eq_true] at hc;have hr':∀S',Agr (.buildSlice t len l.toArray) S S' []->∀ρ,rJ 0 ((S'.at ρ).parts l)=some rows:=λS' hA ρ=>by
     rw[aTr (S:=S) (S':=S') ρ (l:=l) λp hp=>hA.ev _ (by simp[Op.operands];exact⟨_,hp⟩),bAy ρ hr,(aLe ρ hc.1).2]
    have hlen:=λρ=>(aLe ρ hc.1).1;cases hm:bG d ow with
    | true=>
     rw[hm] at h;exact⟨⟨_,h,aYx (us:=[]) λS' hA ρ=>aQb hd hty hb.2.1 rfl (hr' S' hA ρ) (hlen ρ) (Nat.eq_of_beq_eq_true hc.2) (Nat.le_of_ble_eq_true hb.2.2)⟩⟩
    | false=>
     rw[hm] at h;simp only[cond_false] at h;cases hfl:bG (d+10000) ow with
     | true=>
      rw[hfl] at h;exact fI (us:=[]) h λS' hA ρ=>aTy hd hty hb.2.1 rfl (hr' S' hA ρ) (hlen ρ) (Nat.eq_of_beq_eq_true hc.2) (Nat.le_of_ble_eq_true hb.2.2)
     |false=>
     rw[hfl] at h;exact fI (us:=[]) h λS' hA ρ=>qG hd hty hb.2.1 rfl (hr' S' hA ρ) (hlen ρ) (Nat.eq_of_beq_eq_true hc.2) (Nat.le_of_ble_eq_true hb.2.2)
   ·exact h.elim
  ·exact h.elim
 ·exact h.elim
theorem aEn{t:Nat}{Q:Nat->Nat->Prop}(h:aDf T t Q):∃e k,gU P t e k/\Q e k:=by
 unfold aDf at h;split at h
 ·rename_i i e h1
  split at h
  ·rename_i j td h2
   exact⟨e,j.size,⟨λw=>run_underlying (Tr'.ok h1).2 w,λw=>aDh h2 w⟩,h⟩
  ·exact h.elim
 ·exact h.elim
theorem bZj{t:Nat}{x y:Operand}(hd:d<n)(h:bTv T n S ⟨some d,.indexAddr t x y,ty,pos,af,gd⟩ t x y K):dH P n ⟨some d,.indexAddr t x y,ty,pos,af,gd⟩ S K:=by
 have mx:x∈(Op.indexAddr t x y).operands.toList:=by simp[Op.operands]
 have my:y∈(Op.indexAddr t x y).operands.toList:=by simp[Op.operands]
 unfold bTv at h;split at h
 ·rename_i hx hy
  obtain⟨e,k',hs,h⟩:=aEn h;obtain⟨hk,⟨ds,hp,g⟩⟩:=jF h;have hk:=Nat.eq_of_beq_eq_true hk;subst hk;exact fI (us:=[]) g λS' hA ρ=>aFr hd (evS hA mx hx) (evS hA my hy) hs hp
 ·rename_i hx hy
  split at h
  ·rename_i hm
   obtain⟨e,k',hs,h⟩:=aEn h;obtain⟨hk,⟨ds,hp,g⟩⟩:=jF h;have hk:=Nat.eq_of_beq_eq_true hk;subst hk;refine fI g λS' hA ρ=>?_;obtain⟨i,hi⟩:=aKh ρ hA (by simp) hm;exact mK hd (evS hA mx hx) hi (evS hA my hy) hs hp
  ·exact h
 ·exact h
theorem bZl{t:Nat}{x:Operand}(hd:d<n)(h:bTx T n S ⟨some d,.call {callee:=.builtin .len,args:= #[x],argTypes:= #[t]},ty,pos,af,gd⟩ x t K):dH P n ⟨some d,.call {callee:=.builtin .len,args:= #[x],argTypes:= #[t]},ty,pos,af,gd⟩ S K:=by
 have mx:x∈(Op.call {callee:=.builtin .len,args:= #[x],argTypes:= #[t]}).operands.toList:=by simp[Op.operands,Call.operands]
 unfold bTx at h;split at h
 ·rename_i hx
  obtain⟨e,k',hs,⟨m,rfl,h⟩⟩:=aEn h;exact fI (us:=[]) h λS' hA ρ=>bFu hd (evS hA mx hx) hs
 ·rename_i hx
  split at h
  ·rename_i hm
   obtain⟨e,k',hs,⟨m,rfl,h⟩⟩:=aEn h;refine fI h λS' hA ρ=>?_;obtain⟨i,hi⟩:=aKh ρ hA (by simp) hm;exact bBa hd (evS hA mx hx) hi hs
  ·exact h
 ·exact h
theorem bQc{t:Nat}{x y:Operand}(hd:d<n)(h:aZe T n ow S ⟨some d,.call {callee:=.builtin .append,args:= #[x,y],argTypes:= #[t,t]},ty,pos,af,gd⟩ d x y t K):dH P n ⟨some d,.call {callee:=.builtin .append,args:= #[x,y],argTypes:= #[t,t]},ty,pos,af,gd⟩ S K:=by
 have mx:x∈(Op.call {callee:=.builtin .append,args:= #[x,y],argTypes:= #[t,t]}).operands.toList:=by simp[Op.operands,Call.operands]
 have my:y∈(Op.call {callee:=.builtin .append,args:= #[x,y],argTypes:= #[t,t]}).operands.toList:=by simp[Op.operands,Call.operands]
 unfold aZe at h;split at h
 ·rename_i hx hy
  split at h
  ·rename_i hm
   split at h
   ·rename_i ht
    split at h
    ·rename_i he
     obtain⟨hb,⟨zs,hz1,hl,g⟩⟩:=jF h
     clear h
     simp only[Bool.and_eq_true] at hb;have hk1:=Nat.eq_of_beq_eq_true hb.2.2.1;have hk2:=Nat.eq_of_beq_eq_true hb.2.2.2.1;have hk3:=Nat.eq_of_beq_eq_true hb.2.2.2.2;subst hk1;subst hk2;subst hk3;obtain⟨hle,rfl⟩:=aGi hz1;obtain⟨z,hty⟩:=aNf ht he rfl hb.1;cases hlt:bG (d+20000) ow with
     | true=>
      rw[hlt] at g;refine⟨⟨_,g,bPk hm (by simp) λS' hA ρ i hi=>?_⟩⟩;exact aTx hd hty (evS hA mx hx) hi (evS hA my hy) hl hle (Nat.le_of_ble_eq_true hb.2.1)
     |false=>
     rw[hlt] at g;refine⟨⟨_,g,bTe hm (by simp) λS' hA ρ i hi=>?_⟩⟩;exact aTx hd hty (evS hA mx hx) hi (evS hA my hy) hl hle (Nat.le_of_ble_eq_true hb.2.1)
    ·exact h.elim
   ·exact h.elim
  ·exact h
 ·rename_i nn k' rows k rows2 hx hy
  split at h
  ·rename_i ht
   split at h
   ·rename_i he
    obtain⟨hb,⟨zs,hz1,hl,g⟩⟩:=jF h
    clear h
    simp only[Bool.and_eq_true] at hb;have hk1:=Nat.eq_of_beq_eq_true hb.2.2.1;have hk2:=Nat.eq_of_beq_eq_true hb.2.2.2.1;subst hk2;subst hk1;obtain⟨hle,rfl⟩:=aGi hz1;obtain⟨z,hty⟩:=aNf ht he rfl hb.1;refine fI (us:=[]) g λS' hA ρ=>?_;have h1:=aSe (st:=S'.at ρ) hd hty (evS hA mx hx) (evS hA my hy) (aLe ρ hb.2.2.2.2).1 hl hle (Nat.le_of_ble_eq_true hb.2.1) (ty:=ty) (pos:=pos) (af:=af) (gd:=gd);cases nn with
    |true=>exact bFy (.d (.weak _ _)) h1
    |false=>exact h1
   ·exact h.elim
  ·exact h.elim
 ·exact h
theorem bUb{t:Nat}{x:Operand}{lo hi:Option Operand}(hd:d<n)(h:bGp T n S ⟨some d,.slice t x lo hi none,ty,pos,af,gd⟩ t x lo hi K):dH P n ⟨some d,.slice t x lo hi none,ty,pos,af,gd⟩ S K:=by
 have mx:x∈(Op.slice t x lo hi none).operands.toList:=by simp[Op.operands]
 unfold bGp at h;split at h
 ·rename_i hx
  obtain⟨e,k',hs,h⟩:=aEn h;obtain⟨hk,g⟩:=jF h
  clear h
  have hk:=Nat.eq_of_beq_eq_true hk;subst hk;split at g
  ·obtain⟨m,rfl,⟨es,hsub,g⟩⟩:=g;exact fI (us:=[]) g λS' hA ρ=>aFv hd hs (evS hA mx hx) rfl rfl hsub
  ·rename_i a
   split at g
   ·rename_i ha
    obtain⟨m,rfl,⟨es,hsub,g⟩⟩:=g;exact fI (us:=[]) g λS' hA ρ=>aFv hd hs (evS hA mx hx) (bo (evS hA (by simp[Op.operands]) ha)) rfl hsub
   ·exact g.elim
  ·rename_i b
   split at g
   ·rename_i hb
    obtain⟨es,hsub,g⟩:=g;exact fI (us:=[]) g λS' hA ρ=>aFv hd hs (evS hA mx hx) rfl (bo (evS hA (by simp[Op.operands]) hb)) hsub
   ·exact g.elim
  ·rename_i a b
   split at g
   ·rename_i ha hb
    obtain⟨es,hsub,g⟩:=g;exact fI (us:=[]) g λS' hA ρ=>aFv hd hs (evS hA mx hx) (bo (evS hA (by simp[Op.operands]) ha)) (bo (evS hA (by simp[Op.operands]) hb)) hsub
   ·exact g.elim
 ·exact h
theorem bUe:∀{l:List Operand} {Q:List AV->Prop},evL S l Q->Q (l.map S.ev)
 |[],_,h=>h
 |x::l,Q,h=>bUe (Q:=λvs=>Q (S.ev x::vs)) (zR (K:=λv=>evL S l λvs=>Q (v::vs)) h)
theorem aLu{S S':VS}(ρ:Rho):∀{l:List Operand},(∀x∈l,S'.ev x=S.ev x)->(S'.at ρ).evals l=(l.map S.ev).map ρ.av
 |[],_=>rfl
 |x::l,h=>by simp only[St.evals,List.map_cons,bBz,h x (by simp),aLu ρ λy hy=>h y (List.mem_cons_of_mem _ hy)]
theorem bCu(ρ:Rho):∀{l:List AV},aOf l=true->l.map ρ.av=l.map ρ.a1
 |[],_=>rfl
 |v::l,h=>by simp only[aOf,Bool.and_eq_true] at h;rw[List.map_cons,List.map_cons,bDs ρ h.1,bCu ρ h.2]
theorem cAk{f:Go.Fn}{first caps:List Operand}(hd:d<n)(h:xfn (P:=P) n S ⟨some d,.makeFunc f first.toArray caps.toArray,ty,pos,af,gd⟩ f first caps K):dH P n ⟨some d,.makeFunc f first.toArray caps.toArray,ty,pos,af,gd⟩ S K:=by
 unfold xfn at h;split at h
 ·obtain⟨hok,h⟩:=jF h;have h:=bUe (Q:=λvs=>bif aOf vs then K (.p (.fn _ vs)) else dH P n _ S K) h;cases hf:aOf (caps.map S.ev) with
  |false=>rw[hf] at h;exact h
  | true=>
   rw[hf] at h;refine fI (us:=[]) h λS' hA ρ=>?_;have:=aLu (S:=S) (S':=S') ρ (l:=caps) λx hx=>hA.ev x (by simp[Op.operands,hx]);rw[bCu ρ hf] at this;exact aQa hd this hok
 ·exact h
theorem bXf{t u:Nat}{x:Operand}(hd:d<n)(h:bMk T n S ⟨some d,.convert t u x,ty,pos,af,gd⟩ t u x K):dH P n ⟨some d,.convert t u x,ty,pos,af,gd⟩ S K:=by
 have mx:x∈(Op.convert t u x).operands.toList:=by simp[Op.operands]
 unfold bMk at h;split at h
 ·rename_i p i k' k p' h1 h2 hx
  exact fI (us:=[]) h λS' hA ρ=>bFs hd (evS hA mx hx) (λw=>run_underlying (Tr'.ok h1).2 w) (λw=>run_underlying (Tr'.ok h2).2 w)
 ·exact h
theorem bKi{α:Type}{a:Array α}{l:List α}(h:a.toList=l):a=l.toArray:=by subst h;simp
theorem bCh{o:Oper}(hd:∀d,o.dst=some d->d<n)(h:xop T n ow S o K):dH P n o S K:=by
 obtain⟨dst,op,ty,pos,af,gd⟩:=o;unfold xop at h;cases dst with
 | some d=>
  have hd1:=hd d rfl
  clear hd
  simp only at h;unfold bZo at h;split at h
  ·exact bJq hd1 (.inl rfl) h
  ·exact bJq hd1 (.inr rfl) h
  ·exact aKx hd1 h
  ·exact bZg hd1 h
  ·exact cAl hd1 h
  ·exact bZi hd1 h
  ·exact bZn hd1 h
  ·exact bXh hd1 h
  ·exact bTq hd1 h
  ·exact bZh hd1 h
  ·exact bXg hd1 h
  ·rename_i l;obtain⟨l⟩:=l;exact bTt hd1 h
  ·rename_i l;obtain⟨l⟩:=l;exact bZm hd1 h
  ·exact bZj hd1 h
  ·exact bUb hd1 h
  ·rename_i f a b;obtain⟨a⟩:=a;obtain⟨b⟩:=b;exact cAk hd1 h
  ·exact bXf hd1 h
  ·exact bXi hd1 h
  ·rename_i c
   split at h
   ·rename_i b hb
    obtain⟨callee,args,ts⟩:=c;simp only at hb h;subst hb;unfold bQd at h;split at h
    ·rename_i ha ht
     have ha:=bKi ha;have ht:=bKi ht;subst ha;subst ht;exact bZl hd1 h
    ·rename_i ha ht
     have ha:=bKi ha;have ht:=bKi ht;subst ha;subst ht
     rename_i t u
     cases htu:Nat.beq t u with
     | true=>
      rw[htu] at h;have:=Nat.eq_of_beq_eq_true htu;subst this;exact bQc hd1 h
     |false=>rw[htu] at h;exact h
    ·exact h
   ·exact h
  ·exact h
 | none=>
  simp only at h;split at h
  ·exact bUc h
  ·exact h
end
end Go.Am
