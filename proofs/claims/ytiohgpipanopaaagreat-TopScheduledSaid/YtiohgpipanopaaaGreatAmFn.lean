/- The program logic 'Am': calls of functions and closures, loops over states, functions. -/
import Derived.Test.YtiohgpipanopaaaGreatAmCall
namespace Go.Am
def Fn(P:Program)(f:FuncId)(args:List AV)(r:AV):Prop:=dX P f args [] λr' o=>r'=r/\o=[]
def AV.one:AV->Bool
 | .d (.lit _)=>true
 |_=>false
theorem AV.one_spec{x:AV}(h:x.one=true):∃v,x=.d (.lit v):=by
 cases x with
 | d y=>cases y with
  |lit v=>exact⟨v,rfl⟩
  |sl=>simp[AV.one] at h
  |sn=>simp[AV.one] at h
  |mp=>simp[AV.one] at h
  |pt=>simp[AV.one] at h
  |hv=>simp[AV.one] at h
 |_=>simp[AV.one] at h
def AV.isLit:AV->Bool
 | .d (.lit _)=>true
 | .tup vs=>vs.all AV.one
 |_=>false
theorem VR.lit'{w w':World}{X X':bH}{v u:Value}(h:VR w X (.d (.lit v)) u):VR w' X' (.d (.lit v)) u:=by
 have e:=h.lit;subst e;cases h with
 |d h=>exact .d (.lit u h.oneCell)
theorem VR.isLit{w w':World}{X X':bH}{x:AV}{v:Value}(hl:x.isLit=true)(h:VR w X x v):VR w' X' x v:=by
 cases x with
 | d y=>cases y with
  |lit v=>exact h.lit'
  |sl=>simp[AV.isLit] at hl
  |sn=>simp[AV.isLit] at hl
  |mp=>simp[AV.isLit] at hl
  |pt=>simp[AV.isLit] at hl
  |hv=>simp[AV.isLit] at hl
 | tup vs=>
  cases h with
  | tup hl' h=>
   refine .tup hl' λi hi=>?_;have h1:=h i hi;have h2:(vs.getD i .any)∈vs:=by simp[List.getD,List.getElem?_eq_getElem hi]
   simp only[AV.isLit,List.all_eq_true] at hl;obtain⟨q,hq⟩:=AV.one_spec (hl _ h2);rw[hq] at h1|-;exact h1.lit'
 |_=>simp[AV.isLit] at hl
def St.evals(st:St):List Operand->List AV
 |[]=>[]
 |x::l=>st.eval x::St.evals st l
def mW:List Operand->Bool
 |[]=>true
 |x::l=>cT x&&mW l
theorem aAi{A M:bH}{w0:W0}{n:Nat}{st:St}{a:Act}{w:World}(hR:R A M w0 n st a w):∀{l:List Operand},mW l=true->VRs w (bF A st.objs) (st.evals l) (l.map a.eval)
 |[],_=>trivial
 | x::l,h=>by
  simp only[mW,Bool.and_eq_true] at h;exact⟨hR.eval' h.1,aAi hR h.2⟩
inductive BVs(fs:List MO):List AV->List AV->Prop where
 |nil:BVs fs [] []
 |cons {x y:AV} {xs ys:List AV} (h:BV fs x y) (hs:BVs fs xs ys):BVs fs (x::xs) (y::ys)
theorem BVs.refl(fs:List MO):∀xs:List AV,BVs fs xs xs
 |[]=>.nil
 |x::xs=>.cons (.same x) (BVs.refl fs xs)
theorem BVs.sound{w:World}{X X':bH}{fs:List MO}(hh:∀m∈fs,m.holds w X)(hs:∀b o,X' b o->X b o)(ha:∀m∈fs,∀b o,m.foot b o->¬X' b o){xs ys:List AV}(h:BVs fs xs ys):
  ∀{vs:List Value},VRs w X xs vs->VRs w X' ys vs:=by
 induction h with
 | nil=>intro vs h;cases vs with
  |nil=>trivial
  |cons=>exact h.elim
 | cons h _ ih=>intro vs hv;cases vs with
  |nil=>exact hv.elim
  |cons v vs=>exact⟨h.sound hh hs ha hv.1,ih hv.2⟩
theorem vT{A:bH}{l l':List MO}(b o:Nat):bF A (l++l') b o↔bF (bF A l') l b o:=by
 unfold bF;rw[qN]
 constructor
 ·rintro(h|h|h)
  ·exact .inl (.inl h)
  ·exact .inr h
  ·exact .inl (.inr h)
 ·rintro((h|h)|h)
  ·exact .inl h
  ·exact .inr (.inr h)
  ·exact .inr (.inl h)
theorem R.called{A M:bH}{w0:W0}{n:Nat}{st:St}{a:Act}{w w':World}(h:R A M w0 n st a w)(hk:Keeps (fC []) w w'):R A M w0 n st a w':=by
 have hk':Keeps (λ_ _=>False) w w':=hk.mono λb o ⟨m,hm,_⟩=>by simp at hm
 exact h.change hk' (λ_ _ h=>h.elim) (λ_ _ _ h=>h) h.inv.sep λhm m hmm=>bY (h.inv.holds m hmm) hk' (λ_ _ _ h=>h) hm
section
variable{P:Program}{n d:Nat}{st:St}{o:Oper}
inductive rY(P:Program)(st:St):Callee->List Operand->FuncId->List AV->Prop where
 |func (f:FuncId) (l:List Operand) (h:∀args w,(callFunc f args).run P w=.ok (.enter f args) w):rY P st (.value (.func f)) l f (st.evals l)
 | clo (t:Nat) (f:FuncId) (caps:List AV) (l:List Operand) (h:∀args w,(callFunc f args).run P w=.ok (.enter f args) w) (ht:st.env t=.fn f caps):
   rY P st (.value (.tmp t)) l f (st.evals l++caps)
theorem yM{w:World}{X:bH}:∀{caps:List AV} {us:List Value},us.length=caps.length->(∀i,i<caps.length->VR w X (caps.getD i .any) (us.getD i undef))->VRs w X caps us
 |[],[],_,_=>trivial
 |c::caps,u::us,hl,h=>⟨by simpa using h 0 (by simp),yM (by simpa using hl) λi hi=>by simpa using h (i+1) (by simpa using hi)⟩
 |[],_::_,hl,_=>by simp at hl
 |_::_,[],hl,_=>by simp at hl
theorem aFo{A M:bH}{w0:W0}{a:Act}{w:World}{c:Callee}{l:List Operand}{f:FuncId}{args:List AV}{ts:Array TypeId}{ty:TypeId}{pos:String}{af:Array Edge}{gd:Option (Nat×Bool)}
  (hR:R A M w0 n st a w)(hc:rY P st c l f args)(hok:mW l=true):
  ∃vs,(execOp a.eval ⟨some d,.call {callee:=c,args:=l.toArray,argTypes:=ts},ty,pos,af,gd⟩).run P w=.ok (.enter f vs.toArray) w/\VRs w (bF A st.objs) args vs:=by
 have hl:=aAi hR hok;cases hc with
 | func f l h=>
  refine⟨l.map a.eval,?_,hl⟩
  simp[execOp,resolve,Act.eval,Deferred.ofValue,invoke,h]
 | clo t f caps l h ht=>
  have hv:=hR.env t;rw[ht] at hv
  generalize hu:a.tmps.getD t undef=u at hv
  cases hv with
  | fn hl' hcap=>
   rename_i us
   refine⟨l.map a.eval++us,?_,hl.append (yM hl' hcap)⟩;have he:a.eval (.tmp t)=.func (.func f) #[] us.toArray:=hu
   simp[execOp,resolve,he,Deferred.ofValue,invoke,h]
theorem fZ{c:Callee}{l:List Operand}{f:FuncId}{args args':List AV}{r:AV}{ts:Array TypeId}{ty:TypeId}{pos:String}{af:Array Edge}{gd:Option (Nat×Bool)}(hd:d<n)
  {a0:List AV}(hc:rY P st c l f a0)(ha:a0=args)(hok:mW l=true)(hb:BVs st.objs args args')(hf:Fn P f args' r)(hr:r.isLit=true):
  bB P n ⟨some d,.call {callee:=c,args:=l.toArray,argTypes:=ts},ty,pos,af,gd⟩ st (st.set d r):=by
 replace ha:=ha.symm;subst ha
 intro A M w0 a w hR K Q hK;obtain⟨vs,hrun,hvs⟩:=aFo (d:=d) (ts:=ts) (ty:=ty) (pos:=pos) (af:=af) (gd:=gd) hR hc hok;unfold Oper.wp;rw[hrun,Oper.upon_enter];have hvs':VRs w (bF A []) args' vs:=hb.sound hR.inv.holds (λb o h=>h.imp id λ⟨m,hm,_⟩=>by simp at hm) (λm hm b o hf hx=>by
  rcases hx with hx|⟨m',hm',_⟩
  ·exact hR.inv.apart m hm b o hf hx
  ·simp at hm') hvs
 have hs0:=hR.keeps.size;refine(hf A w vs ⟨by simp[Sep],by simp,by simp⟩ (λb o h=>Nat.lt_of_lt_of_le (hR.old b o h) hs0) hvs').mono ?_;rintro e w' ⟨v,r',objs',rfl,hk,hinv,hv,hnew,rfl,rfl⟩;exact hK _ _ _ rfl ((hR.called hk).put (o:=⟨some d,.call {callee:=c,args:=l.toArray,argTypes:=ts},ty,pos,af,gd⟩) rfl hd (hv.isLit hr))
theorem vV{c:Callee}{l:List Operand}{f:FuncId}{args:List AV}{Qc:AV->List MO->Prop}{ts:Array TypeId}{ty:TypeId}{pos:String}{af:Array Edge}{gd:Option (Nat×Bool)}(hd:d<n)
  {a0:List AV}(hc:rY P st c l f a0)(ha:a0=args)(hok:mW l=true)(hf:dX P f args [] Qc):
  Step P n ⟨some d,.call {callee:=c,args:=l.toArray,argTypes:=ts},ty,pos,af,gd⟩ st (λs=>∃r objs',Qc r objs'/\s=⟨upd st.env d r,st.objs++objs'⟩):=by
 replace ha:=ha.symm;subst ha
 intro A M w0 a w hR K Q hK;obtain⟨vs,hrun,hvs⟩:=aFo (d:=d) (ts:=ts) (ty:=ty) (pos:=pos) (af:=af) (gd:=gd) hR hc hok;unfold Oper.wp;rw[hrun,Oper.upon_enter];have hs0:=hR.keeps.size;have hlt:∀b o,bF A st.objs b o->b<w.heap.size:=by
  rintro b o (h|⟨m,hm,hf⟩)
  ·exact Nat.lt_of_lt_of_le (hR.old b o h) hs0
  ·exact oK (hR.inv.holds m hm) hf
 have hvs':VRs w (bF (bF A st.objs) []) args vs:=by
  refine hvs.mono (Mono.sub λb o h=>?_)
  rcases h with h|⟨m,hm,_⟩
  ·exact h
  ·simp at hm
 refine(hf (bF A st.objs) w vs ⟨by simp[Sep],by simp,by simp⟩ hlt hvs').mono ?_;rintro e w' ⟨v,r,objs',rfl,hk,hinv,hv,hnew,hq⟩;refine hK _ _ _ ⟨r,objs',hq,rfl⟩ ?_;have hR1:=hR.called hk;have hk':Keeps (λ_ _=>False) w w':=hk.mono λb o ⟨m,hm,_⟩=>by simp at hm
 have hnew':∀m∈objs',∀b o,m.foot b o->w.heap.size<=b:=λm hm b o hf=>(hnew m hm b o hf).resolve_left λ⟨m',hm',_⟩=>by simp at hm'
 have hR2:R A M w0 n ⟨st.env,st.objs++objs'⟩ a w':=by
  refine hR.change hk' (λ_ _ h=>h.elim) (λb o hb hx=>?_) ?_ λhm m hmm=>?_
  ·rcases qN.1 hx with h|⟨m,hm,hf⟩
   ·exact h
   ·have:=hnew' m hm b o hf;omega
  ·refine List.pairwise_append.2 ⟨hR.inv.sep,hinv.sep,λx hx y hy b o h1 h2=>?_⟩;have:=oK (hR.inv.holds x hx) h1;have:=hnew' y hy b o h2
   omega
  ·rcases List.mem_append.1 hmm with h|h
   ·exact bY (hR.inv.holds m h) hk' (λ_ _ _ h=>h) hm
   ·have:=hinv.holds m h;refine bY this (Keeps.refl (λ_ _=>False) w') (λ_ _ _ h=>h) (Mono.sub λb o h'=>?_)
    rcases h' with h'|h'
    ·exact .inl (.inl h')
    ·rcases qN.1 h' with h'|h'
     ·exact .inl (.inr h')
     ·exact .inr h'
 refine R.put (o:=⟨some d,.call {callee:=c,args:=l.toArray,argTypes:=ts},ty,pos,af,gd⟩) hR2 rfl hd (hv.mono (Mono.sub λb o h'=>?_))
 rcases h' with h'|h'
 ·exact .inl (.inl h')
 ·rcases qN.1 h' with h'|h'
  ·exact .inl (.inr h')
  ·exact .inr h'
theorem nH{c:Callee}{l:List Operand}{f:FuncId}{args:List AV}{r:AV}{ts:Array TypeId}{ty:TypeId}{pos:String}{af:Array Edge}{gd:Option (Nat×Bool)}(hd:d<n)
  {a0:List AV}(hc:rY P st c l f a0)(ha:a0=args)(hok:mW l=true)(hf:Fn P f args r):
  bB P n ⟨some d,.call {callee:=c,args:=l.toArray,argTypes:=ts},ty,pos,af,gd⟩ st (st.set d r):=by
 intro A M w0 a w hR K Q hK;refine vV hd hc ha hok hf A M w0 a w hR K Q ?_;rintro st' a' w' ⟨r',objs',⟨rfl,rfl⟩,rfl⟩ hR';simp only[List.append_nil] at hR';exact hK _ _ _ rfl hR'
theorem oN{c:Callee}{l:List Operand}{f:FuncId}{args:List AV}{Qc:AV->List MO->Prop}{passed rest:List MO}{ts:Array TypeId}{ty:TypeId}{pos:String}{af:Array Edge}{gd:Option (Nat×Bool)}(hd:d<n)
  (ho:st.objs=passed++rest){a0:List AV}(hc:rY P st c l f a0)(ha:a0=args)(hok:mW l=true)(hf:dX P f args passed Qc):
  Step P n ⟨some d,.call {callee:=c,args:=l.toArray,argTypes:=ts},ty,pos,af,gd⟩ st (λs=>∃r objs',Qc r objs'/\s=⟨upd st.env d r,objs'++rest⟩):=by
 replace ha:=ha.symm;subst ha
 intro A M w0 a w hR K Q hK;obtain⟨vs,hrun,hvs⟩:=aFo (d:=d) (ts:=ts) (ty:=ty) (pos:=pos) (af:=af) (gd:=gd) hR hc hok;unfold Oper.wp;rw[hrun,Oper.upon_enter];have hs0:=hR.keeps.size;have hsep:=hR.inv.sep;rw[ho] at hsep;have hsp:=List.pairwise_append.1 hsep;have hlive:∀b o,bF A st.objs b o↔bF (bF A rest) passed b o:=by intro b o;rw[ho];exact vT b o
 have hlt:∀b o,bF A rest b o->b<w.heap.size:=by
  rintro b o (h|⟨m,hm,hf⟩)
  ·exact Nat.lt_of_lt_of_le (hR.old b o h) hs0
  ·exact oK (hR.inv.holds m (by rw[ho];exact List.mem_append.2 (.inr hm))) hf
 have hmo:Mono w (bF A st.objs) w (bF (bF A rest) passed):=Mono.sub λb o h=>(hlive b o).2 h;have hinv0:Inv w (bF A rest) passed:=by
  refine⟨hsp.1,λm hm b o hf hx=>?_,λm hm=>bY (hR.inv.holds m (by rw[ho];exact List.mem_append.2 (.inl hm))) (Keeps.refl (λ_ _=>False) w) (λ_ _ _ h=>h) hmo⟩
  rcases hx with hx|⟨m',hm',hf'⟩
  ·exact hR.inv.apart m (by rw[ho];exact List.mem_append.2 (.inl hm)) b o hf hx
  ·exact hsp.2.2 m hm m' hm' b o hf hf'
 refine(hf (bF A rest) w vs hinv0 hlt (hvs.mono hmo)).mono ?_;rintro e w' ⟨v,r,objs',rfl,hk,hinv,hv,hnew,hq⟩;refine hK _ _ _ ⟨r,objs',hq,rfl⟩ ?_;have hback:Mono w' (bF (bF A rest) objs') w' (bF A (objs'++rest)):=Mono.sub λb o h=>(vT b o).1 h;have hR2:R A M w0 n ⟨st.env,objs'++rest⟩ a w':=by
  refine hR.change hk (λb o ⟨m,hm,hf⟩=>⟨m,by rw[ho];exact List.mem_append.2 (.inl hm),hf⟩) (λb o hb hx=>?_) ?_ λhm m hmm=>?_
  ·rcases qN.1 hx with⟨m,hm,hf⟩|⟨m,hm,hf⟩
   ·rcases hnew m hm b o hf with⟨m',hm',hf'⟩|h
    ·exact⟨m',by rw[ho];exact List.mem_append.2 (.inl hm'),hf'⟩
    ·omega
   ·exact⟨m,by rw[ho];exact List.mem_append.2 (.inr hm),hf⟩
  ·refine List.pairwise_append.2 ⟨hinv.sep,hsp.2.1,λx hx y hy b o h1 h2=>?_⟩;exact hinv.apart x hx b o h1 (.inr ⟨y,hy,h2⟩)
  ·rcases List.mem_append.1 hmm with h|h
   ·exact bY (hinv.holds m h) (Keeps.refl (λ_ _=>False) w') (λ_ _ _ h=>h) hback
   ·exact bY (hR.inv.holds m (by rw[ho];exact List.mem_append.2 (.inr h))) hk (λb o hf ⟨m',hm',hf'⟩=>hsp.2.2 m' hm' m h b o hf' hf) hm
 exact R.put (o:=⟨some d,.call {callee:=c,args:=l.toArray,argTypes:=ts},ty,pos,af,gd⟩) hR2 rfl hd (hv.mono hback)
theorem aQa{f:FuncId}{caps:List Operand}{cs:List AV}{ty:TypeId}{pos:String}{af:Array Edge}{gd:Option (Nat×Bool)}(hd:d<n)(hc:st.evals caps=cs)(hok:mW caps=true):
  bB P n ⟨some d,.makeFunc (.func f) #[] caps.toArray,ty,pos,af,gd⟩ st (st.set d (.fn f cs)):=
 cO rfl hd λA M w0 a w hR=>by
  have h:=aAi hR hok;rw[hc] at h;refine⟨.func (.func f) #[] (caps.map a.eval).toArray,by simp[execOp,Instr.makeFunc],.fn h.length λi _=>h.getD i⟩
end
theorem Fn.of_tr{P:Program}{f:FuncId}{fn:Func}{c:Code}{args:List AV}{r:AV}(hf:P.funcs[f]?=some fn)(hb:fn.body=some c){rs:List ResultVar}(hr:fn.results=rs.toArray){n:Nat}(hn:fn.ntmps=n)(ha:args.length<=n)
  (h:Tr P n c ⟨entry args,[]⟩ (λe st=>e=.ret/\∃r',aLb st rs r'/\r'=r/\st.objs=[])):Fn P f args r:=by
 subst hn;exact aGg hf hb hr ha (pY h λe s ⟨h1,r',h2,h3,h4⟩=>⟨.inl h1,r',h2,h3,h4⟩)
section
variable{P:Program}{n:Nat}{st st':St}{Q:Exit->St->Prop}{ops:Array Oper}{o:Oper}{rest:List Oper}
theorem yV{A M:bH}{w0:W0}{a:Act}{w:World}(hR:R A M w0 n st a w){j s:Nat}{b:Bool}(hj:(ops[j]?).bind (·.dst)=some s)(hs:s<n)(hb:st.env s=.d (.lit (.bool b))):yielded ops a.tmps j=some b:=by
 have h:=hR.env s;rw[hb] at h;have h:=h.lit;have hlt:s<a.tmps.size:=by rw[hR.size];exact hs
 rw[Array.getD_eq_getD_getElem?,Array.getElem?_eq_getElem hlt,Option.getD_some] at h
 simp[yielded,hj,Array.getElem?_eq_getElem hlt,h]
theorem aZb{j s:Nat}{b:Bool}{Post:St->Prop}(hg:o.guard=some (j,b))(hj:(ops[j]?).bind (·.dst)=some s)(hs:s<n){c:Bool}(hb:st.env s=.d (.lit (.bool c)))(hc:c=b)(h:Step P n o st Post)
  (hr:∀st',Post st'->TrL P n ops rest st' Q):TrL P n ops (o::rest) st Q:=
 λA M w0 a w hR=>wpListIn_step λK hK=>by
  subst hc;rw[if_pos (by simp[Region.wanted,hg,yV hR hj hs hb])];exact h.x A M w0 a w hR K _ λst' a' w' hp hR'=>hK _ _ (hr st' hp A M w0 a' w' hR')
theorem bGl{j s:Nat}{b:Bool}(hg:o.guard=some (j,b))(hj:(ops[j]?).bind (·.dst)=some s)(hs:s<n){c:Bool}(hb:st.env s=.d (.lit (.bool c)))(hc:c=b)(h:bB P n o st st')
  (hr:TrL P n ops rest st' Q):TrL P n ops (o::rest) st Q:=
 aZb hg hj hs hb hc h λ_ e=>e▸hr
theorem aNh(w:World)(X:bH):VR w X (.tup []) undef:=.tup (us:=[]) rfl λi hi=>by simp at hi
theorem bJo{j s d:Nat}{b:Bool}(hg:o.guard=some (j,b))(ho:o.dst=some d)(hd:d<n)(hj:(ops[j]?).bind (·.dst)=some s)(hs:s<n){c:Bool}(hb:st.env s=.d (.lit (.bool c)))(hc:c=!b)
  (hr:TrL P n ops rest (st.set d (.tup [])) Q):TrL P n ops (o::rest) st Q:=
 λA M w0 a w hR=>wpListIn_step λK hK=>by
  rw[if_neg (by simp[Region.wanted,hg,yV hR hj hs hb,hc])];exact⟨λ_ _=>trivial,hK _ _ (hr A M w0 _ w (hR.put ho hd (aNh _ _)))⟩
theorem bGi{j s d:Nat}{b:Bool}(hg:o.guard=some (j,b))(ho:o.dst=some d)(hd:d<n)(hj:(ops[j]?).bind (·.dst)=some s)(hs:s<n)(hb:st.env s=.tup [])
  (hr:TrL P n ops rest (st.set d (.tup [])) Q):TrL P n ops (o::rest) st Q:=
 λA M w0 a w hR=>wpListIn_step λK hK=>by
  have h:=hR.env s;rw[hb] at h;have hlt:s<a.tmps.size:=by rw[hR.size];exact hs
  rw[Array.getD_eq_getD_getElem?,Array.getElem?_eq_getElem hlt,Option.getD_some] at h;have hy:yielded ops a.tmps j=none:=by
   simp only[yielded,hj,Option.bind_some,Array.getElem?_eq_getElem hlt]
   generalize a.tmps[s]=u at h
   cases h;rfl
  rw[if_neg (by simp[Region.wanted,hg,hy])];exact⟨λ_ _=>trivial,hK _ _ (hr A M w0 _ w (hR.put ho hd (aNh _ _)))⟩
theorem bTl (m : Nat){l:List Oper}(mid:St)(h:TrL P n ops (l.take m) st (jO (λs=>Ent s mid) (λ_ _=>False)))(h2:TrL P n ops (l.drop m) mid Q):TrL P n ops l st Q:=by
  have key : ∀ (F :Fence) (l:List Oper) (m:Nat) (a:Act) (w:World) (Q1 Q2:Exit->Act->World->Prop),wpListIn F 0 P ops Q1 (l.take m) a w->(∀a' w',Q1 .normal a' w'->wpListIn F 0 P ops Q2 (l.drop m) a' w')->(∀e a w,e≠.normal->¬Q1 e a w)->wpListIn F 0 P ops Q2 l a w:=by
    intro F l
    induction l with
    |nil=>intro m a w Q1 Q2 h1 h2 _;simp at h1 h2;exact h2 a w h1
    | cons o l ih =>
      intro m a w Q1 Q2 h1 h2 h3;cases m with
      |zero=>exact h2 a w h1
      | succ m =>
        simp only[List.take_succ_cons,List.drop_succ_cons,wpListIn] at h1 h2|-
        split
        · rename_i hw
          rw[if_pos hw] at h1;unfold Oper.wpIn at h1|-;refine⟨h1.1,?_⟩;have h1:=h1.2
          generalize(o.semAt F.round a.eval).run P w=r at h1
          cases r with
          | ok x w'=>
            cases x<;>simp only[Oper.uponIn] at h1⊢<;>first
              |exact ih m _ _ Q1 Q2 h1 h2 h3
              | (refine⟨h1.1,h1.2.mono ?_⟩
                 intro e w'' he;cases e with
                 |returned v=>exact ih m _ _ Q1 Q2 he h2 h3
                 |panicked ch=>exact absurd he (h3 _ _ _ (by simp))
                 |outgrown=>obtain⟨a',w',hq⟩:=he;exact absurd hq (h3 _ _ _ (by simp)))
              |exact⟨h1.1,RowsIn.mono h1.2 λ_ _ he=>ih m _ _ Q1 Q2 he h2 h3⟩
              |exact h1.elim
          |halt x w'=>cases x<;>simp only[Oper.uponIn] at h1⊢<;>first|exact absurd h1 (h3 _ _ _ (by simp))|exact h1.elim
        · rename_i hw
          rw[if_neg hw] at h1;exact⟨h1.1,ih m _ _ Q1 Q2 h1.2 h2 h3⟩
  intro A M w0 a w hR;refine key _ l m a w _ _ (h A M w0 a w hR) (λa' w' ⟨s,hs,hR'⟩=>h2 A M w0 a' w' (hs A M w0 n a' w' hR')) λe a w he hq=>?_;obtain⟨s,hs,_⟩:=hq;cases e<;>first|exact he rfl|exact hs
def zD(e:Nat->AV):List (Nat×AV)->Nat->AV
 |[]=>e
 |(k,v)::l=>upd (zD e l) k v
def AllEq(e e':Nat->AV):List Nat->Prop
 |[]=>True
 |k::l=>e k=e' k/\AllEq e e' l
theorem AllEq.get{e e':Nat->AV}:∀{l:List Nat},AllEq e e' l->∀{k:Nat},bG k l=true->e k=e' k
 |[],_,k,h=>by simp[bG] at h
 | j::l,h,k,hk=>by
  simp only[bG] at hk;cases hb:Nat.beq j k with
  |true=>have:=Nat.eq_of_beq_eq_true hb;subst this;exact h.1
  |false=>rw[hb] at hk;exact AllEq.get h.2 (by simpa using hk)
def Le(e e':Nat->AV):Prop:=∀k,e' k=.any\/e' k=e k
theorem aR{e e0:Nat->AV}{l:List Nat}(h:AllEq e e0 l):Le e (keep l e0):=by
 intro k;unfold keep;cases hm:bG k l with
 |false=>simp
 |true=>exact .inr (h.get hm).symm
theorem aL{e e':Nat->AV}{k:Nat}{v:AV}(hv:e k=v)(h:Le e e'):Le e (upd e' k v):=by
 intro j
 by_cases hj:k=j
 ·subst hj;rw[lK];exact .inr hv.symm
 ·rw[uH _ _ hj];exact h j
def pick(objs:List MO):List Nat->Option (List MO)
 |[]=>some []
 | i::l=>match objs[i]?,pick objs l with
  |some m,some r=>some (m::r)
  |_,_=>none
def apart:List Nat->Bool
 |[]=>true
 |i::l=>bif bG i l then false else apart l
theorem jK{n:Nat}:∀{l:List Nat},bG n l=true↔n∈l
 |[]=>by simp[bG]
 | k::l=>by
  simp only[bG];cases hb:Nat.beq k n with
  |true=>have:=Nat.eq_of_beq_eq_true hb;subst this;simp
  | false=>
   have hne:n≠k:=λe=>by subst e;simp at hb
   simp[hne,jK (l:=l)]
theorem aTs{objs:List MO}:∀{l:List Nat} {r:List MO},pick objs l=some r->∀m∈r,∃i∈l,objs[i]?=some m
 |[],r,h,m,hm=>by simp only[pick,Option.some.injEq] at h;subst h;simp at hm
 | i::l,r,h,m,hm=>by
  simp only[pick] at h;split at h
  ·rename_i m0 r0 h1 h2
   cases h
   rcases List.mem_cons.1 hm with rfl|hm
   ·exact⟨i,by simp,h1⟩
   ·obtain⟨j,hj,hjo⟩:=aTs h2 m hm;exact⟨j,by simp[hj],hjo⟩
  ·cases h
theorem bFd{objs:List MO}(hs:Sep objs):∀{l:List Nat} {r:List MO},apart l=true->pick objs l=some r->Sep r
 |[],r,_,h=>by simp only[pick,Option.some.injEq] at h;subst h;exact .nil
 | i ::l,r,ha,h=>by
  simp only[pick] at h;split at h
  ·rename_i m0 r0 h1 h2
   cases h;simp only[apart] at ha;cases hm:bG i l with
   |true=>rw[hm] at ha;simp at ha
   | false=>
    rw[hm] at ha;refine List.pairwise_cons.2 ⟨λm hmr b o hf hf'=>?_,bFd hs (by simpa using ha) h2⟩;obtain⟨j,hj,hjo⟩:=aTs h2 m hmr;have hij:i≠j:=λe=>by subst e;rw[jK.2 hj] at hm;cases hm
    have hil:=(List.getElem?_eq_some_iff.1 h1);have hjl:=(List.getElem?_eq_some_iff.1 hjo);have hp:=List.pairwise_iff_getElem.1 hs
    rcases Nat.lt_or_gt_of_ne hij with h3|h3
    ·exact hp i j hil.1 hjl.1 h3 b o (hil.2▸hf) (hjl.2▸hf')
    ·exact hp j i hjl.1 hil.1 h3 b o (hjl.2▸hf') (hil.2▸hf)
  ·cases h
theorem aO{env env':Nat->AV}{objs objs':List MO}(l:List Nat)(ha:apart l=true)(ho:pick objs l=some objs')(he:Le env env'):Ent ⟨env,objs⟩ ⟨env',objs'⟩:=by
 intro A M w0 n a w hR;have hmem:∀m∈objs',m∈objs:=λm hm=>by
  obtain⟨i,_,hi⟩:=aTs ho m hm;exact List.mem_of_getElem? hi
 have hsub:∀b o,bF A objs' b o->bF A objs b o:=λb o h=>h.imp id λ⟨m,hm,hf⟩=>⟨m,hmem m hm,hf⟩;have hmono:Mono w (bF A objs) w (bF A objs'):=Mono.sub hsub;refine⟨hR.size,hR.defers.sub hsub,λk=>?_,⟨bFd hR.inv.sep ha ho,λm hm=>hR.inv.apart m (hmem m hm),
  λm hm=>bY (hR.inv.holds m (hmem m hm)) (Keeps.refl (λ_ _=>False) w) (λ_ _ _ h=>h) hmono⟩,hR.keeps,λm hm=>hR.own m (hmem m hm),hR.old⟩
 rcases he k with h|h
 ·show VR _ _ (env' k) _;rw[h];exact .any _
 ·show VR _ _ (env' k) _;rw[h];exact(hR.env k).mono hmono
theorem cP{env env':Nat->AV}{objs:List MO}(he:Le env env'):Ent ⟨env,objs⟩ ⟨env',objs⟩:=aQn he
def BLe(fs:List MO)(e e':Nat->AV):Prop:=∀k,BV fs (e k) (e' k)
theorem bVd{fs:List MO}{e:Nat->AV}:BLe fs e emp:=λ_=>.any _
theorem tK{fs:List MO}{e e':Nat->AV}{k:Nat}{v:AV}(hv:BV fs (e k) v)(h:BLe fs e e'):BLe fs e (upd e' k v):=by
 intro j
 by_cases hj:k=j
 ·subst hj;rw[lK];exact hv
 ·rw[uH _ _ hj];exact h j
theorem oB{fs:List MO}{e e0:Nat->AV}{l:List Nat}(h:AllEq e e0 l):BLe fs e (keep l e0):=by
 intro k
 rcases aR h k with h|h
 ·rw[h];exact .any _
 ·rw[h];exact .same _
theorem mS{env env':Nat->AV}{objs:List MO}(h:BLe objs env env'):Ent ⟨env,objs⟩ ⟨env',[]⟩:=oS (keepers:=[]) (gone:=objs) (by simp) h
theorem pE{fs:List MO}{v:Value}{e k:Nat}{rows:List (List D)}(i:Nat)(hm:fs[i]?=some (.arr v e k rows))(hk:∀r∈rows,r.length=k):DV fs (.lit v) (.sl k rows):=
 .arr v e k rows rows (List.mem_of_getElem? hm) rfl hk λ_ _ _ _=>.same _
theorem dT{α:Type}{f:α->List D}{k:Nat}(h:∀x,(f x).length=k){xs:List α}:∀r∈xs.map f,r.length=k:=by
 intro r hr;obtain⟨x,_,rfl⟩:=List.mem_map.1 hr;exact h x
theorem bZd{c rest:Code}(mid:St)(h:Tr P n c st (jO (λs=>Ent s mid) Q))(h2:Tr P n rest mid Q):Tr P n c st (jO (λs=>Tr P n rest s Q) Q):=
 pY h λe s hq=>by
  cases e with
  |normal=>exact eW hq h2
  |_=>exact hq
theorem bWy{c rest:Code}(l:List Nat)(us:List (Nat×AV))(objs:List MO)(h:Tr P n c st (jO (λs=>Ent s ⟨zD (keep l st.env) us,objs⟩) Q))(h2:Tr P n rest ⟨zD (keep l st.env) us,objs⟩ Q):Tr P n c st (jO (λs=>Tr P n rest s Q) Q):=
 bZd _ h h2
theorem lJ{l:List Oper}(m:Nat)(ks:List Nat)(t:Nat)(b:Bool)(h:TrL P n ops (l.take m) st (jO (λs=>Ent s ⟨upd (keep ks st.env) t (.b b),st.objs⟩) (λ_ _=>False)))
  (h2:TrL P n ops (l.drop m) ⟨upd (keep ks st.env) t (.b b),st.objs⟩ Q):TrL P n ops l st Q:=bTl m _ h h2
theorem aKw{id:Nat}{c:Code}{N:St->Prop}(h:Tr P n c st (xA id N (jO N Q))):Tr P n (.block id c) st (jO N Q):=aUc h λ_ h=>h
theorem iO{id:Nat}{N:St->Prop}(h:N st):Tr P n .skip st (xA id N Q):=λ_ _ _ _ _ hR _=>wpIn_skip ⟨st,h,hR⟩
theorem aUo{p:Prop}(c:Bool)(h1:c=true->p)(h2:c=false->p):p:=by
 cases c
 ·exact h2 rfl
 ·exact h1 rfl
theorem bind_some{α β:Type}{x:Option α}{f:α->Option β}{r:β}(h:x.bind f=some r):∃a,x=some a/\f a=some r:=Option.bind_eq_some_iff.1 h
theorem aCq{α:Type}{c:Bool}{x y:Option α}{r:α}(hc:c=true)(h:(bif c then x else y)=some r):x=some r:=by subst hc;exact h
theorem aJy{α:Type}{c:Bool}{x y:Option α}{r:α}(hc:c=false)(h:(bif c then x else y)=some r):y=some r:=by subst hc;exact h
theorem aE{a b:Nat}(h:Nat.blt a b=true):a<b:=by
 have:=Nat.le_of_ble_eq_true h
 omega
end
def BIG:Nat:=2^64
end Go.Am
