/- Several texts, one behind the other. -/
import Derived.Test.YtejdennodgdfhaaGreatDoorAmCall
section
namespace Go.Am
def Fn[Mode](P:Program)(f:FuncId)(args:List AV)(r:AV):Prop:=bI P f args [] λr' o=>r'=r/\o=[]
abbrev aGu:Mode:=⟨True⟩
abbrev FnS(P:Program)(f:FuncId)(args:List AV)(r:AV):Prop:= @Fn aGu P f args r
theorem Keeps.to{m m':Mode}{M:bE}{w w':World}(h: @Keeps m M w w')(hd:m'.dr->m.dr): @Keeps m' M w w':=by
 cases h with|mk a b c d e f g i=>exact @Keeps.mk m' _ _ _ a b c d e f g λx=>i (hd x)
theorem Inv.to{m m':Mode}{w:World}{A:bE}(h: @Inv m w A []): @Inv m' w A []:=by
 cases h with|mk a b c d=>exact @Inv.mk m' _ _ _ a b (λx hx=>by simp at hx) d
theorem FnS.any{m:Mode}{P:Program}{f:FuncId}{args:List AV}{r:AV}(h:FnS P f args r): @Fn m P f args r:=by
 intro A w vs hi hA hv;refine(h A w vs hi.to hA hv).mono ?_;rintro e w' ⟨v,r',o,rfl,hk,hinv,hv,hnew,rfl,rfl⟩;exact⟨v,_,[],rfl,hk.to λ_=>trivial,hinv.to,hv,hnew,rfl,rfl⟩
def AV.one:AV->Bool
 | .d (.lit _)=>true
 |_=>false
def D.isLit:D->Bool
 | .lit _=>true
 |_=>false
theorem D.isLit_spec{x:D}(h:x.isLit=true):∃v,x=.lit v:=by
 cases x with
 |lit v=>exact⟨v,rfl⟩
 |_=>simp[D.isLit] at h
def AV.one1:AV->Bool
 | .d x=>x.isLit
 | .agg xs=>xs.all D.isLit
 |_=>false
def AV.isLit:AV->Bool
 | .tup vs=>vs.all AV.one1
 |x=>x.one1
theorem DR.isLit{w w':World}{X X':bE}{x:D}{v:Value}(hl:x.isLit=true)(h:DR w X x v):DR w' X' x v:=by
 obtain⟨u,rfl⟩:=D.isLit_spec hl;cases h with
 |lit _ h=>exact .lit _ h
theorem DRs.isLit{w w':World}{X X':bE}:∀{xs:List D} {vs:List Value},xs.all D.isLit=true->DRs w X xs vs->DRs w' X' xs vs
 |[],[],_,_=>trivial
 | x::xs,v::vs,hl,h=>by
  simp only[List.all_cons,Bool.and_eq_true] at hl;exact⟨h.1.isLit hl.1,DRs.isLit hl.2 h.2⟩
 |[],_::_,_,h=>h.elim
 |_::_,[],_,h=>h.elim
theorem VR.one1{w w':World}{X X':bE}{x:AV}{v:Value}(hl:x.one1=true)(h:VR w X x v):VR w' X' x v:=by
 cases x with
 | d y=>
  cases h with
  |d h=>exact .d (h.isLit hl)
 | agg xs=>
  cases h with
  |agg h=>exact .agg (h.isLit hl)
 |_=>simp[AV.one1] at hl
theorem VR.isLit{w w':World}{X X':bE}{x:AV}{v:Value}(hl:x.isLit=true)(h:VR w X x v):VR w' X' x v:=by
 cases x with
 | tup vs=>
  cases h with
  | tup hl' h=>
   refine .tup hl' λi hi=>?_;have h2:(vs.getD i .any)∈vs:=by simp[List.getD,List.getElem?_eq_getElem hi]
   simp only[AV.isLit,List.all_eq_true] at hl;exact(h i hi).one1 (hl _ h2)
 |_=>exact h.one1 hl
def St.evals(st:St):List Operand->List AV
 |[]=>[]
 |x::l=>st.eval x::St.evals st l
def iE:List Operand->Bool
 |[]=>true
 |x::l=>cJ x&&iE l
theorem tG[Mode]{A M:bE}{w0:W0}{n:Nat}{st:St}{a:Act}{w:World}(hR:R A M w0 n st a w):∀{l:List Operand},iE l=true->VRs w (aV A st.objs) (st.evals l) (l.map a.eval)
 |[],_=>trivial
 | x::l,h=>by
  simp only[iE,Bool.and_eq_true] at h;exact⟨hR.eval' h.1,tG hR h.2⟩
inductive BVs(fs:List MO):List AV->List AV->Prop where
 |nil:BVs fs [] []
 |cons {x y:AV} {xs ys:List AV} (h:BV fs x y) (hs:BVs fs xs ys):BVs fs (x::xs) (y::ys)
theorem BVs.refl(fs:List MO):∀xs:List AV,BVs fs xs xs
 |[]=>.nil
 |x::xs=>.cons (.same x) (BVs.refl fs xs)
theorem BVs.sound[Mode]{w:World}{X X':bE}{fs:List MO}(hh:∀m∈fs,m.holds w X)(hs:∀b o,X' b o->X b o)(ha:∀m∈fs,∀b o,m.foot b o->¬X' b o){xs ys:List AV}(h:BVs fs xs ys):
  ∀{vs:List Value},VRs w X xs vs->VRs w X' ys vs:=by
 induction h with
 | nil=>intro vs h;cases vs with
  |nil=>trivial
  |cons=>exact h.elim
 | cons h _ ih=>intro vs hv;cases vs with
  |nil=>exact hv.elim
  |cons v vs=>exact⟨h.sound hh hs ha hv.1,ih hv.2⟩
theorem nN{A:bE}{l l':List MO}(b o:Nat):aV A (l++l') b o↔aV (aV A l') l b o:=by
 unfold aV;rw[lW]
 constructor
 ·rintro(h|h|h)
  ·exact .inl (.inl h)
  ·exact .inr h
  ·exact .inl (.inr h)
 ·rintro((h|h)|h)
  ·exact .inl h
  ·exact .inr (.inr h)
  ·exact .inr (.inl h)
theorem Inv.none[Mode]{w:World}{A:bE}{objs:List MO}(h:Inv w A objs):Inv w A []:=⟨by simp[Sep],by simp,by simp,h.amb.on (Mono.sub λb o h=>h.imp id λ⟨m,hm,_⟩=>by simp at hm)⟩
theorem Inv.all[Mode]{w:World}{A:bE}{objs:List MO}(h:Inv w A objs):Inv w (aV A objs) []:=⟨by simp[Sep],by simp,by simp,h.amb.on (Mono.sub λb o h=>h.elim id λ⟨m,hm,_⟩=>by simp at hm)⟩
theorem R.called[Mode]{A M:bE}{w0:W0}{n:Nat}{st:St}{a:Act}{w w':World}(h:R A M w0 n st a w)(hk:Keeps (dR []) w w'):R A M w0 n st a w':=by
 have hk':Keeps (λ_ _=>False) w w':=hk.mono λb o ⟨m,hm,_⟩=>by simp at hm
 exact h.change hk' (λ_ _ h=>h.elim) (λ_ _ _ h=>h) h.inv.sep λhm m hmm=>bV (h.inv.holds m hmm) hk' (λ_ _ _ h=>h) hm
section
variable{P:Program}{n d:Nat}{st:St}{o:Oper}
inductive kL(P:Program)(st:St):Callee->List Operand->FuncId->List AV->Prop where
 |func (f:FuncId) (l:List Operand) (h:∀args w,(callFunc f args).run P w=.ok (.enter f args) w):kL P st (.value (.func f)) l f (st.evals l)
 | clo (t:Nat) (f:FuncId) (caps:List AV) (l:List Operand) (h:∀args w,(callFunc f args).run P w=.ok (.enter f args) w) (ht:st.env t=.fn f caps):
   kL P st (.value (.tmp t)) l f (st.evals l++caps)
 | fc (t:Nat) (f:FuncId) (m:Bool) (xs:List D) (l:List Operand) (h:∀args w,(callFunc f args).run P w=.ok (.enter f args) w) (ht:st.env t=.d (.fc m f xs)):
   kL P st (.value (.tmp t)) l f (bif m then xs.map .d++st.evals l else st.evals l++xs.map .d)
theorem aVt{w:World}{X:bE}:∀{xs:List D} {us:List Value},us.length=xs.length->(∀(j:Nat) (d:D),xs[j]?=some d->DR w X d (us.getD j undef))->VRs w X (xs.map .d) us
 |[],[],_,_=>trivial
 |c::xs,u::us,hl,h=>⟨.d (by simpa using h 0 c rfl),aVt (by simpa using hl) λj d hj=>by simpa using h (j+1) d (by simpa using hj)⟩
 |[],_::_,hl,_=>by simp at hl
 |_::_,[],hl,_=>by simp at hl
theorem qR{w:World}{X:bE}:∀{caps:List AV} {us:List Value},us.length=caps.length->(∀i,i<caps.length->VR w X (caps.getD i .any) (us.getD i undef))->VRs w X caps us
 |[],[],_,_=>trivial
 |c::caps,u::us,hl,h=>⟨by simpa using h 0 (by simp),qR (by simpa using hl) λi hi=>by simpa using h (i+1) (by simpa using hi)⟩
 |[],_::_,hl,_=>by simp at hl
 |_::_,[],hl,_=>by simp at hl
theorem aCc[Mode]{A M:bE}{w0:W0}{a:Act}{w:World}{c:Callee}{l:List Operand}{f:FuncId}{args:List AV}{ts:Array TypeId}{ty:TypeId}{pos:String}{af:Array Edge}{gd:Option (Nat×Bool)}
  (hR:R A M w0 n st a w)(hc:kL P st c l f args)(hok:iE l=true):
  ∃vs,(execOp a.eval ⟨some d,.call {callee:=c,args:=l.toArray,argTypes:=ts},ty,pos,af,gd⟩).run P w=.ok (.enter f vs.toArray) w/\VRs w (aV A st.objs) args vs:=by
 have hl:=tG hR hok;cases hc with
 | func f l h=>
  refine⟨l.map a.eval,?_,hl⟩
  simp[execOp,resolve,Act.eval,Deferred.ofValue,invoke,h]
 | clo t f caps l h ht=>
  have hv:=hR.env t;rw[ht] at hv
  generalize hu:a.tmps.getD t undef=u at hv
  cases hv with
  | fn hl' hcap=>
   rename_i us
   refine⟨l.map a.eval++us,?_,hl.append (qR hl' hcap)⟩;have he:a.eval (.tmp t)=.func (.func f) #[] us.toArray:=hu
   simp[execOp,resolve,he,Deferred.ofValue,invoke,h]
 | fc t f m xs l h ht=>
  have hv:=hR.env t;rw[ht] at hv
  generalize hu:a.tmps.getD t undef=u at hv
  cases hv with
  | d hv=>
   cases hv with
   | fc _ _ _ us hl' hr=>
    have hx:=aVt hl' hr;have he:a.eval (.tmp t)=.func (.func f) (bif m then us.toArray else #[]) (bif m then #[] else us.toArray):=hu;cases m with
    |true=>exact⟨us++l.map a.eval,by simp[execOp,resolve,he,Deferred.ofValue,invoke,h],hx.append hl⟩
    |false=>exact⟨l.map a.eval++us,by simp[execOp,resolve,he,Deferred.ofValue,invoke,h],hl.append hx⟩
theorem fV[Mode]{c:Callee}{l:List Operand}{f:FuncId}{args args':List AV}{r:AV}{ts:Array TypeId}{ty:TypeId}{pos:String}{af:Array Edge}{gd:Option (Nat×Bool)}(hd:d<n)
  {a0:List AV}(hc:kL P st c l f a0)(ha:a0=args)(hok:iE l=true)(hb:BVs st.objs args args')(hf:Fn P f args' r)(hr:r.isLit=true):
  aY P n ⟨some d,.call {callee:=c,args:=l.toArray,argTypes:=ts},ty,pos,af,gd⟩ st (st.set d r):=by
 replace ha:=ha.symm;subst ha
 intro A M w0 a w hR K Q hK;obtain⟨vs,hrun,hvs⟩:=aCc (d:=d) (ts:=ts) (ty:=ty) (pos:=pos) (af:=af) (gd:=gd) hR hc hok;unfold Oper.wp;rw[hrun,Oper.upon_enter];have hvs':VRs w (aV A []) args' vs:=hb.sound hR.inv.holds (λb o h=>h.imp id λ⟨m,hm,_⟩=>by simp at hm) (λm hm b o hf hx=>by
  rcases hx with hx|⟨m',hm',_⟩
  ·exact hR.inv.apart m hm b o hf hx
  ·simp at hm') hvs
 have hs0:=hR.keeps.size;refine(hf A w vs hR.inv.none (λb o h=>Nat.lt_of_lt_of_le (hR.old b o h) hs0) hvs').mono ?_;rintro e w' ⟨v,r',objs',rfl,hk,hinv,hv,hnew,rfl,rfl⟩;exact hK _ _ _ rfl ((hR.called hk).put (o:=⟨some d,.call {callee:=c,args:=l.toArray,argTypes:=ts},ty,pos,af,gd⟩) rfl hd (hv.isLit hr))
theorem nT[Mode]{c:Callee}{l:List Operand}{f:FuncId}{args:List AV}{Qc:AV->List MO->Prop}{ts:Array TypeId}{ty:TypeId}{pos:String}{af:Array Edge}{gd:Option (Nat×Bool)}(hd:d<n)
  {a0:List AV}(hc:kL P st c l f a0)(ha:a0=args)(hok:iE l=true)(hf:bI P f args [] Qc):
  Step P n ⟨some d,.call {callee:=c,args:=l.toArray,argTypes:=ts},ty,pos,af,gd⟩ st (λs=>∃r objs',Qc r objs'/\s=⟨upd st.env d r,st.objs++objs'⟩):=by
 replace ha:=ha.symm;subst ha
 intro A M w0 a w hR K Q hK;obtain⟨vs,hrun,hvs⟩:=aCc (d:=d) (ts:=ts) (ty:=ty) (pos:=pos) (af:=af) (gd:=gd) hR hc hok;unfold Oper.wp;rw[hrun,Oper.upon_enter];have hs0:=hR.keeps.size;have hlt:∀b o,aV A st.objs b o->b<w.heap.size:=by
  rintro b o (h|⟨m,hm,hf⟩)
  ·exact Nat.lt_of_lt_of_le (hR.old b o h) hs0
  ·exact kH (hR.inv.holds m hm) hf
 have hvs':VRs w (aV (aV A st.objs) []) args vs:=by
  refine hvs.mono (Mono.sub λb o h=>?_)
  rcases h with h|⟨m,hm,_⟩
  ·exact h
  ·simp at hm
 refine(hf (aV A st.objs) w vs hR.inv.all hlt hvs').mono ?_;rintro e w' ⟨v,r,objs',rfl,hk,hinv,hv,hnew,hq⟩;refine hK _ _ _ ⟨r,objs',hq,rfl⟩ ?_;have hR1:=hR.called hk;have hk':Keeps (λ_ _=>False) w w':=hk.mono λb o ⟨m,hm,_⟩=>by simp at hm
 have hnew':∀m∈objs',∀b o,m.foot b o->w.heap.size<=b:=λm hm b o hf=>(hnew m hm b o hf).resolve_left λ⟨m',hm',_⟩=>by simp at hm'
 have hR2:R A M w0 n ⟨st.env,st.objs++objs'⟩ a w':=by
  refine hR.change hk' (λ_ _ h=>h.elim) (λb o hb hx=>?_) ?_ λhm m hmm=>?_
  ·rcases lW.1 hx with h|⟨m,hm,hf⟩
   ·exact h
   ·have:=hnew' m hm b o hf;omega
  ·refine List.pairwise_append.2 ⟨hR.inv.sep,hinv.sep,λx hx y hy b o h1 h2=>?_⟩;have:=kH (hR.inv.holds x hx) h1;have:=hnew' y hy b o h2
   omega
  ·rcases List.mem_append.1 hmm with h|h
   ·exact bV (hR.inv.holds m h) hk' (λ_ _ _ h=>h) hm
   ·have:=hinv.holds m h;refine bV this (Keeps.refl (λ_ _=>False) w') (λ_ _ _ h=>h) (Mono.sub λb o h'=>?_)
    rcases h' with h'|h'
    ·exact .inl (.inl h')
    ·rcases lW.1 h' with h'|h'
     ·exact .inl (.inr h')
     ·exact .inr h'
 refine R.put (o:=⟨some d,.call {callee:=c,args:=l.toArray,argTypes:=ts},ty,pos,af,gd⟩) hR2 rfl hd (hv.mono (Mono.sub λb o h'=>?_))
 rcases h' with h'|h'
 ·exact .inl (.inl h')
 ·rcases lW.1 h' with h'|h'
  ·exact .inl (.inr h')
  ·exact .inr h'
theorem oS[Mode]{c:Callee}{l:List Operand}{f:FuncId}{args:List AV}{r:AV}{ts:Array TypeId}{ty:TypeId}{pos:String}{af:Array Edge}{gd:Option (Nat×Bool)}(hd:d<n)
  {a0:List AV}(hc:kL P st c l f a0)(ha:a0=args)(hok:iE l=true)(hf:Fn P f args r):
  aY P n ⟨some d,.call {callee:=c,args:=l.toArray,argTypes:=ts},ty,pos,af,gd⟩ st (st.set d r):=by
 intro A M w0 a w hR K Q hK;refine nT hd hc ha hok hf A M w0 a w hR K Q ?_;rintro st' a' w' ⟨r',objs',⟨rfl,rfl⟩,rfl⟩ hR';simp only[List.append_nil] at hR';exact hK _ _ _ rfl hR'
theorem gM[Mode]{c:Callee}{l:List Operand}{f:FuncId}{args:List AV}{Qc:AV->List MO->Prop}{passed rest:List MO}{ts:Array TypeId}{ty:TypeId}{pos:String}{af:Array Edge}{gd:Option (Nat×Bool)}(hd:d<n)
  (ho:st.objs=passed++rest){a0:List AV}(hc:kL P st c l f a0)(ha:a0=args)(hok:iE l=true)(hf:bI P f args passed Qc):
  Step P n ⟨some d,.call {callee:=c,args:=l.toArray,argTypes:=ts},ty,pos,af,gd⟩ st (λs=>∃r objs',Qc r objs'/\s=⟨upd st.env d r,objs'++rest⟩):=by
 replace ha:=ha.symm;subst ha
 intro A M w0 a w hR K Q hK;obtain⟨vs,hrun,hvs⟩:=aCc (d:=d) (ts:=ts) (ty:=ty) (pos:=pos) (af:=af) (gd:=gd) hR hc hok;unfold Oper.wp;rw[hrun,Oper.upon_enter];have hs0:=hR.keeps.size;have hsep:=hR.inv.sep;rw[ho] at hsep;have hsp:=List.pairwise_append.1 hsep;have hlive:∀b o,aV A st.objs b o↔aV (aV A rest) passed b o:=by intro b o;rw[ho];exact nN b o
 have hlt:∀b o,aV A rest b o->b<w.heap.size:=by
  rintro b o (h|⟨m,hm,hf⟩)
  ·exact Nat.lt_of_lt_of_le (hR.old b o h) hs0
  ·exact kH (hR.inv.holds m (by rw[ho];exact List.mem_append.2 (.inr hm))) hf
 have hmo:Mono w (aV A st.objs) w (aV (aV A rest) passed):=Mono.sub λb o h=>(hlive b o).2 h;have hinv0:Inv w (aV A rest) passed:=by
  refine⟨hsp.1,λm hm b o hf hx=>?_,λm hm=>bV (hR.inv.holds m (by rw[ho];exact List.mem_append.2 (.inl hm))) (Keeps.refl (λ_ _=>False) w) (λ_ _ _ h=>h) hmo,hR.inv.amb.on hmo⟩
  rcases hx with hx|⟨m',hm',hf'⟩
  ·exact hR.inv.apart m (by rw[ho];exact List.mem_append.2 (.inl hm)) b o hf hx
  ·exact hsp.2.2 m hm m' hm' b o hf hf'
 refine(hf (aV A rest) w vs hinv0 hlt (hvs.mono hmo)).mono ?_;rintro e w' ⟨v,r,objs',rfl,hk,hinv,hv,hnew,hq⟩;refine hK _ _ _ ⟨r,objs',hq,rfl⟩ ?_;have hback:Mono w' (aV (aV A rest) objs') w' (aV A (objs'++rest)):=Mono.sub λb o h=>(nN b o).1 h;have hR2:R A M w0 n ⟨st.env,objs'++rest⟩ a w':=by
  refine hR.change hk (λb o ⟨m,hm,hf⟩=>⟨m,by rw[ho];exact List.mem_append.2 (.inl hm),hf⟩) (λb o hb hx=>?_) ?_ λhm m hmm=>?_
  ·rcases lW.1 hx with⟨m,hm,hf⟩|⟨m,hm,hf⟩
   ·rcases hnew m hm b o hf with⟨m',hm',hf'⟩|h
    ·exact⟨m',by rw[ho];exact List.mem_append.2 (.inl hm'),hf'⟩
    ·omega
   ·exact⟨m,by rw[ho];exact List.mem_append.2 (.inr hm),hf⟩
  ·refine List.pairwise_append.2 ⟨hinv.sep,hsp.2.1,λx hx y hy b o h1 h2=>?_⟩;exact hinv.apart x hx b o h1 (.inr ⟨y,hy,h2⟩)
  ·rcases List.mem_append.1 hmm with h|h
   ·exact bV (hinv.holds m h) (Keeps.refl (λ_ _=>False) w') (λ_ _ _ h=>h) hback
   ·exact bV (hR.inv.holds m (by rw[ho];exact List.mem_append.2 (.inr h))) hk (λb o hf ⟨m',hm',hf'⟩=>hsp.2.2 m' hm' m h b o hf' hf) hm
 exact R.put (o:=⟨some d,.call {callee:=c,args:=l.toArray,argTypes:=ts},ty,pos,af,gd⟩) hR2 rfl hd (hv.mono hback)
theorem eG[Mode]{f:FuncId}{first caps:List Operand}{m:Bool}{cs:List AV}{xs:List D}{ty:TypeId}{pos:String}{af:Array Edge}{gd:Option (Nat×Bool)}(hd:d<n)(hm:(bif m then caps else first)=[])(hc:st.evals (bif m then first else caps)=cs)
  (hok:iE (bif m then first else caps)=true)(hl:xs.length=cs.length)(hx:∀i,i<cs.length->AD (cs.getD i .any) (xs.getD i (.lit undef))):
  aY P n ⟨some d,.makeFunc (.func f) first.toArray caps.toArray,ty,pos,af,gd⟩ st (st.set d (.d (.fc m f xs))):=
 cA rfl hd λA M w0 a w hR=>by
  have h:=tG hR hok;rw[hc] at h;have hll:=h.length;cases m with
  | true=>
   simp only[cond_true] at hm h hll;subst hm;refine⟨.func (.func f) (first.map a.eval).toArray #[],by simp[execOp,Instr.makeFunc],.d (.fc true f xs (first.map a.eval) (by omega) λj e hj=>?_)⟩;have hj':j<xs.length:=(List.getElem?_eq_some_iff.1 hj).1;have:=(hx j (by omega)).sound (h.getD j)
   rwa[show xs.getD j (.lit undef)=e by simp[List.getD,hj]] at this
  | false=>
   simp only[cond_false] at hm h hll;subst hm;refine⟨.func (.func f) #[] (caps.map a.eval).toArray,by simp[execOp,Instr.makeFunc],.d (.fc false f xs (caps.map a.eval) (by omega) λj e hj=>?_)⟩;have hj':j<xs.length:=(List.getElem?_eq_some_iff.1 hj).1;have:=(hx j (by omega)).sound (h.getD j)
   rwa[show xs.getD j (.lit undef)=e by simp[List.getD,hj]] at this
theorem aLp[Mode]{f:FuncId}{caps:List Operand}{cs:List AV}{ty:TypeId}{pos:String}{af:Array Edge}{gd:Option (Nat×Bool)}(hd:d<n)(hc:st.evals caps=cs)(hok:iE caps=true):
  aY P n ⟨some d,.makeFunc (.func f) #[] caps.toArray,ty,pos,af,gd⟩ st (st.set d (.fn f cs)):=
 cA rfl hd λA M w0 a w hR=>by
  have h:=tG hR hok;rw[hc] at h;refine⟨.func (.func f) #[] (caps.map a.eval).toArray,by simp[execOp,Instr.makeFunc],.fn h.length λi _=>h.getD i⟩
end
theorem Fn.of_tr[Mode]{P:Program}{f:FuncId}{fn:Func}{c:Code}{args:List AV}{r:AV}(hf:P.funcs[f]?=some fn)(hb:fn.body=some c){rs:List ResultVar}(hr:fn.results=rs.toArray){n:Nat}(hn:fn.ntmps=n)(ha:args.length<=n)
  (h:Tr P n c ⟨entry args,[]⟩ (λe st=>e=.ret/\∃r',aNz st rs r'/\r'=r/\st.objs=[])):Fn P f args r:=by
 subst hn;exact aXa hf hb hr ha (oU h λe s ⟨h1,r',h2,h3,h4⟩=>⟨.inl h1,r',h2,h3,h4⟩)
section
variable{P:Program}{n:Nat}{st st':St}{Q:Exit->St->Prop}{ops:Array Oper}{o:Oper}{rest:List Oper}
theorem uE[Mode]{A M:bE}{w0:W0}{a:Act}{w:World}(hR:R A M w0 n st a w){j s:Nat}{b:Bool}(hj:(ops[j]?).bind (·.dst)=some s)(hs:s<n)(hb:st.env s=.d (.lit (.bool b))):yielded ops a.tmps j=some b:=by
 have h:=hR.env s;rw[hb] at h;have h:=h.lit;have hlt:s<a.tmps.size:=by rw[hR.size];exact hs
 rw[Array.getD_eq_getD_getElem?,Array.getElem?_eq_getElem hlt,Option.getD_some] at h
 simp[yielded,hj,Array.getElem?_eq_getElem hlt,h]
theorem aTu[Mode]{j s:Nat}{b:Bool}{Post:St->Prop}(hg:o.guard=some (j,b))(hj:(ops[j]?).bind (·.dst)=some s)(hs:s<n){c:Bool}(hb:st.env s=.d (.lit (.bool c)))(hc:c=b)(h:Step P n o st Post)
  (hr:∀st',Post st'->TrL P n ops rest st' Q):TrL P n ops (o::rest) st Q:=
 λA M w0 a w hR=>wpListIn_step λK hK=>by
  subst hc;rw[if_pos (by simp[Region.wanted,hg,uE hR hj hs hb])];exact h.x A M w0 a w hR K _ λst' a' w' hp hR'=>hK _ _ (hr st' hp A M w0 a' w' hR')
theorem fR[Mode]{j s:Nat}{b:Bool}(hg:o.guard=some (j,b))(hj:(ops[j]?).bind (·.dst)=some s)(hs:s<n){c:Bool}(hb:st.env s=.d (.lit (.bool c)))(hc:c=b)(h:aY P n o st st')
  (hr:TrL P n ops rest st' Q):TrL P n ops (o::rest) st Q:=
 aTu hg hj hs hb hc h λ_ e=>e▸hr
theorem aIz(w:World)(X:bE):VR w X (.tup []) undef:=.tup (us:=[]) rfl λi hi=>by simp at hi
theorem lR[Mode]{j s d:Nat}{b:Bool}(hg:o.guard=some (j,b))(ho:o.dst=some d)(hd:d<n)(hj:(ops[j]?).bind (·.dst)=some s)(hs:s<n){c:Bool}(hb:st.env s=.d (.lit (.bool c)))(hc:c=!b)
  (hr:TrL P n ops rest (st.set d (.tup [])) Q):TrL P n ops (o::rest) st Q:=
 λA M w0 a w hR=>wpListIn_step λK hK=>by
  rw[if_neg (by simp[Region.wanted,hg,uE hR hj hs hb,hc])];exact⟨λ_ _=>trivial,hK _ _ (hr A M w0 _ w (hR.put ho hd (aIz _ _)))⟩
theorem bAk[Mode]{j s d:Nat}{b:Bool}(hg:o.guard=some (j,b))(ho:o.dst=some d)(hd:d<n)(hj:(ops[j]?).bind (·.dst)=some s)(hs:s<n)(hb:st.env s=.tup [])
  (hr:TrL P n ops rest (st.set d (.tup [])) Q):TrL P n ops (o::rest) st Q:=
 λA M w0 a w hR=>wpListIn_step λK hK=>by
  have h:=hR.env s;rw[hb] at h;have hlt:s<a.tmps.size:=by rw[hR.size];exact hs
  rw[Array.getD_eq_getD_getElem?,Array.getElem?_eq_getElem hlt,Option.getD_some] at h;have hy:yielded ops a.tmps j=none:=by
   simp only[yielded,hj,Option.bind_some,Array.getElem?_eq_getElem hlt]
   generalize a.tmps[s]=u at h
   cases h;rfl
  rw[if_neg (by simp[Region.wanted,hg,hy])];exact⟨λ_ _=>trivial,hK _ _ (hr A M w0 _ w (hR.put ho hd (aIz _ _)))⟩
theorem bNe [Mode](m:Nat){l:List Oper}(mid:St)(h:TrL P n ops (l.take m) st (jI (λs=>Ent s mid) (λ_ _=>False)))(h2:TrL P n ops (l.drop m) mid Q):TrL P n ops l st Q:=by
  have key : ∀ (F :Fence) (l:List Oper) (m:Nat) (a:Act) (w:World) (Q1 Q2:Exit->Act->World->Prop),wpListIn F 0 P ops Q1 (l.take m) a w->(∀a' w',Q1 .normal a' w'->wpListIn F 0 P ops Q2 (l.drop m) a' w')->(∀e a w,e≠.normal->¬Q1 e a w)->wpListIn F 0 P ops Q2 l a w:=by
    intro F l
    induction l with
    |nil=>intro m a w Q1 Q2 h1 h2 _;simp at h1 h2;exact h2 a w h1
    | cons o l ih =>
      intro m a w Q1 Q2 h1 h2 h3;cases m with
      |zero=>exact h2 a w h1
      | succ m =>
        simp only[List.take_succ_cons,List.drop_succ_cons,wpListIn] at h1 h2|-
        split
        · rename_i hw
          rw[if_pos hw] at h1;unfold Oper.wpIn at h1|-;refine⟨h1.1,?_⟩;have h1:=h1.2
          generalize(o.semAt F.round a.eval).run P w=r at h1
          cases r with
          | ok x w'=>
            cases x<;>simp only[Oper.uponIn] at h1⊢<;>first
              |exact ih m _ _ Q1 Q2 h1 h2 h3
              | (refine⟨h1.1,h1.2.mono ?_⟩
                 intro e w'' he;cases e with
                 |returned v=>exact ih m _ _ Q1 Q2 he h2 h3
                 |panicked ch=>exact absurd he (h3 _ _ _ (by simp))
                 |outgrown=>obtain⟨a',w',hq⟩:=he;exact absurd hq (h3 _ _ _ (by simp)))
              |exact⟨h1.1,RowsIn.mono h1.2 λ_ _ he=>ih m _ _ Q1 Q2 he h2 h3⟩
              |exact h1.elim
          |halt x w'=>cases x<;>simp only[Oper.uponIn] at h1⊢<;>first|exact absurd h1 (h3 _ _ _ (by simp))|exact h1.elim
        · rename_i hw
          rw[if_neg hw] at h1;exact⟨h1.1,ih m _ _ Q1 Q2 h1.2 h2 h3⟩
  intro A M w0 a w hR;refine key _ l m a w _ _ (h A M w0 a w hR) (λa' w' ⟨s,hs,hR'⟩=>h2 A M w0 a' w' (hs A M w0 n a' w' hR')) λe a w he hq=>?_;obtain⟨s,hs,_⟩:=hq;cases e<;>first|exact he rfl|exact hs
def xU(e:Nat->AV):List (Nat×AV)->Nat->AV
 |[]=>e
 |(k,v)::l=>upd (xU e l) k v
def AllEq(e e':Nat->AV):List Nat->Prop
 |[]=>True
 |k::l=>e k=e' k/\AllEq e e' l
theorem AllEq.get{e e':Nat->AV}:∀{l:List Nat},AllEq e e' l->∀{k:Nat},bF k l=true->e k=e' k
 |[],_,k,h=>by simp[bF] at h
 | j::l,h,k,hk=>by
  simp only[bF] at hk;cases hb:Nat.beq j k with
  |true=>have:=Nat.eq_of_beq_eq_true hb;subst this;exact h.1
  |false=>rw[hb] at hk;exact AllEq.get h.2 (by simpa using hk)
def Le(e e':Nat->AV):Prop:=∀k,e' k=.any\/e' k=e k
theorem bA{e e0:Nat->AV}{l:List Nat}(h:AllEq e e0 l):Le e (keep l e0):=by
 intro k;unfold keep;cases hm:bF k l with
 |false=>simp
 |true=>exact .inr (h.get hm).symm
theorem aQ{e e':Nat->AV}{k:Nat}{v:AV}(hv:e k=v)(h:Le e e'):Le e (upd e' k v):=by
 intro j
 by_cases hj:k=j
 ·subst hj;rw[fS];exact .inr hv.symm
 ·rw[mJ _ _ hj];exact h j
def pick(objs:List MO):List Nat->Option (List MO)
 |[]=>some []
 | i::l=>match objs[i]?,pick objs l with
  |some m,some r=>some (m::r)
  |_,_=>none
def apart:List Nat->Bool
 |[]=>true
 |i::l=>bif bF i l then false else apart l
theorem gG{n:Nat}:∀{l:List Nat},bF n l=true↔n∈l
 |[]=>by simp[bF]
 | k::l=>by
  simp only[bF];cases hb:Nat.beq k n with
  |true=>have:=Nat.eq_of_beq_eq_true hb;subst this;simp
  | false=>
   have hne:n≠k:=λe=>by subst e;simp at hb
   simp[hne,gG (l:=l)]
theorem aOy{objs:List MO}:∀{l:List Nat} {r:List MO},pick objs l=some r->∀m∈r,∃i∈l,objs[i]?=some m
 |[],r,h,m,hm=>by simp only[pick,Option.some.injEq] at h;subst h;simp at hm
 | i::l,r,h,m,hm=>by
  simp only[pick] at h;split at h
  ·rename_i m0 r0 h1 h2
   cases h
   rcases List.mem_cons.1 hm with rfl|hm
   ·exact⟨i,by simp,h1⟩
   ·obtain⟨j,hj,hjo⟩:=aOy h2 m hm;exact⟨j,by simp[hj],hjo⟩
  ·cases h
theorem aZl{objs:List MO}(hs:Sep objs):∀{l:List Nat} {r:List MO},apart l=true->pick objs l=some r->Sep r
 |[],r,_,h=>by simp only[pick,Option.some.injEq] at h;subst h;exact .nil
 | i ::l,r,ha,h=>by
  simp only[pick] at h;split at h
  ·rename_i m0 r0 h1 h2
   cases h;simp only[apart] at ha;cases hm:bF i l with
   |true=>rw[hm] at ha;simp at ha
   | false=>
    rw[hm] at ha;refine List.pairwise_cons.2 ⟨λm hmr b o hf hf'=>?_,aZl hs (by simpa using ha) h2⟩;obtain⟨j,hj,hjo⟩:=aOy h2 m hmr;have hij:i≠j:=λe=>by subst e;rw[gG.2 hj] at hm;cases hm
    have hil:=(List.getElem?_eq_some_iff.1 h1);have hjl:=(List.getElem?_eq_some_iff.1 hjo);have hp:=List.pairwise_iff_getElem.1 hs
    rcases Nat.lt_or_gt_of_ne hij with h3|h3
    ·exact hp i j hil.1 hjl.1 h3 b o (hil.2▸hf) (hjl.2▸hf')
    ·exact hp j i hjl.1 hil.1 h3 b o (hjl.2▸hf') (hil.2▸hf)
  ·cases h
theorem aW[Mode]{env env':Nat->AV}{objs objs':List MO}(l:List Nat)(ha:apart l=true)(ho:pick objs l=some objs')(he:Le env env'):Ent ⟨env,objs⟩ ⟨env',objs'⟩:=by
 intro A M w0 n a w hR;have hmem:∀m∈objs',m∈objs:=λm hm=>by
  obtain⟨i,_,hi⟩:=aOy ho m hm;exact List.mem_of_getElem? hi
 have hsub:∀b o,aV A objs' b o->aV A objs b o:=λb o h=>h.imp id λ⟨m,hm,hf⟩=>⟨m,hmem m hm,hf⟩;have hmono:Mono w (aV A objs) w (aV A objs'):=Mono.sub hsub;refine⟨hR.size,hR.defers.sub hsub,λk=>?_,⟨aZl hR.inv.sep ha ho,λm hm=>hR.inv.apart m (hmem m hm),
  λm hm=>bV (hR.inv.holds m (hmem m hm)) (Keeps.refl (λ_ _=>False) w) (λ_ _ _ h=>h) hmono,hR.inv.amb.on hmono⟩,hR.keeps,λm hm=>hR.own m (hmem m hm),hR.old⟩
 rcases he k with h|h
 ·show VR _ _ (env' k) _;rw[h];exact .any _
 ·show VR _ _ (env' k) _;rw[h];exact(hR.env k).mono hmono
theorem cP[Mode]{env env':Nat->AV}{objs:List MO}(he:Le env env'):Ent ⟨env,objs⟩ ⟨env',objs⟩:=aMf he
def BLe(fs:List MO)(e e':Nat->AV):Prop:=∀k,BV fs (e k) (e' k)
theorem bBu{fs:List MO}{e:Nat->AV}:BLe fs e emp:=λ_=>.any _
theorem kN{fs:List MO}{e e':Nat->AV}{k:Nat}{v:AV}(hv:BV fs (e k) v)(h:BLe fs e e'):BLe fs e (upd e' k v):=by
 intro j
 by_cases hj:k=j
 ·subst hj;rw[fS];exact hv
 ·rw[mJ _ _ hj];exact h j
theorem kA{fs:List MO}{e e0:Nat->AV}{l:List Nat}(h:AllEq e e0 l):BLe fs e (keep l e0):=by
 intro k
 rcases bA h k with h|h
 ·rw[h];exact .any _
 ·rw[h];exact .same _
theorem jM[Mode]{env env':Nat->AV}{objs:List MO}(h:BLe objs env env'):Ent ⟨env,objs⟩ ⟨env',[]⟩:=kD (keepers:=[]) (gone:=objs) (by simp) h
theorem cI{fs:List MO}{v:Value}{e k:Nat}{rows:List (List D)}(i:Nat)(hm:fs[i]?=some (.arr v e k rows))(hk:∀r∈rows,r.length=k):DV fs (.lit v) (.sl k rows):=
 .arr v e k rows rows (List.mem_of_getElem? hm) rfl hk λ_ _ _ _=>.same _
theorem bN{α:Type}{f:α->List D}{k:Nat}(h:∀x,(f x).length=k){xs:List α}:∀r∈xs.map f,r.length=k:=by
 intro r hr;obtain⟨x,_,rfl⟩:=List.mem_map.1 hr;exact h x
theorem eD[Mode]{l:List Oper}(m:Nat)(ks:List Nat)(t:Nat)(b:Bool)(h:TrL P n ops (l.take m) st (jI (λs=>Ent s ⟨upd (keep ks st.env) t (.b b),st.objs⟩) (λ_ _=>False)))
  (h2:TrL P n ops (l.drop m) ⟨upd (keep ks st.env) t (.b b),st.objs⟩ Q):TrL P n ops l st Q:=bNe m _ h h2
theorem qQ[Mode]{id:Nat}{c:Code}{N:St->Prop}(h:Tr P n c st (uS id N (jI N Q))):Tr P n (.block id c) st (jI N Q):=aPe h λ_ h=>h
theorem gW[Mode]{id:Nat}{N:St->Prop}(h:N st):Tr P n .skip st (uS id N Q):=λ_ _ _ _ _ hR _=>wpIn_skip ⟨st,h,hR⟩
theorem aHf{p:Prop}(c:Bool)(h1:c=true->p)(h2:c=false->p):p:=by
 cases c
 ·exact h2 rfl
 ·exact h1 rfl
theorem bind_some{α β:Type}{x:Option α}{f:α->Option β}{r:β}(h:x.bind f=some r):∃a,x=some a/\f a=some r:=Option.bind_eq_some_iff.1 h
theorem yK{α:Type}{c:Bool}{x y:Option α}{r:α}(hc:c=true)(h:(bif c then x else y)=some r):x=some r:=by subst hc;exact h
theorem vT{α:Type}{c:Bool}{x y:Option α}{r:α}(hc:c=false)(h:(bif c then x else y)=some r):y=some r:=by subst hc;exact h
theorem aA{a b:Nat}(h:Nat.blt a b=true):a<b:=by
 have:=Nat.le_of_ble_eq_true h
 omega
end
def BIG:Nat:=2^64
end Go.Am
end
section
namespace Go.Am
def aE(n:Int):List D:=[.lit (.int .i64 n)]
def gT(b:Bool):List D:=[.lit (.bool b)]
abbrev Str:=List UInt8
def sv(s:Str):Value:=.string ⟨s.toArray⟩
def iI(s:Str):List D:=[.lit (.string ⟨s.toArray⟩)]
def aXi(a b:Int):Int:=IntKind.i64.wrap ((BitVec.ofInt IntKind.i64.bits a^^^BitVec.ofInt IntKind.i64.bits b).toNat)
def chk(b:Bool):Option Unit:=bif b then some () else none
theorem aCr{b:Bool}{u:Unit}(h:chk b=some u):b=true:=by cases b<;>simp[chk] at h|-
def app{α:Type}(bytes:Nat)(xs ys:List α):Option (List α):=if(xs.length+ys.length)*bytes<=140737488355328 then some (xs++ys) else none
theorem aHc{α:Type}{bytes:Nat}{xs ys zs:List α}(h:app bytes xs ys=some zs):(xs.length+ys.length)*bytes<=140737488355328/\zs=xs++ys:=by
 unfold app at h;split at h
 ·rename_i hc;cases h;exact⟨hc,rfl⟩
 ·cases h
theorem bQg{α:Type}(f:α->List D)(xs:List α)(i:Nat)(y:α){ds:List D}(h:ds=f y):(xs.map f).set i ds=(xs.set i y).map f:=by
 subst h;exact List.map_set.symm
theorem aDp{α:Type}(f:α->List D){xs:List α}{p:Int}{x:α}(h:idx xs p=some x):(xs.map f)[p.toNat]?=some (f x):=(aCz (dI f h)).2.2
section
variable{P:Program}{n d:Nat}{st st':St}{o:Oper}{Q:Exit->St->Prop}{N:St->Prop}{ops:Array Oper}
theorem aDr[Mode]{α:Type}{x:Operand}{k:Nat}{f:α->List D}{xs:List α}{t ty:TypeId}{pos:String}{af:Array Edge}{gd:Option (Nat×Bool)}(hd:d<n)
  (hx:st.eval x=.d (.sl k (xs.map f))){e kk:Nat}(ht:iL P t e kk):aY P n ⟨some d,.call {callee:=.builtin .len,args:= #[x],argTypes:= #[t]},ty,pos,af,gd⟩ st (st.set d (.i xs.length)):=by
 have:=aZy (ty:=ty) (pos:=pos) (af:=af) (gd:=gd) hd hx ht
 rwa[List.length_map] at this
theorem nG[Mode]{α:Type}{x:Operand}{v:Value}{e k m:Nat}{f:α->List D}{xs:List α}{t ty:TypeId}{pos:String}{af:Array Edge}{gd:Option (Nat×Bool)}(hd:d<n)
  (hx:st.eval x=.d (.lit v))(ho:st.objs[m]?=some (.arr v e k (xs.map f))){e' kk:Nat}(ht:iL P t e' kk):aY P n ⟨some d,.call {callee:=.builtin .len,args:= #[x],argTypes:= #[t]},ty,pos,af,gd⟩ st (st.set d (.i xs.length)):=by
 have:=aVl (ty:=ty) (pos:=pos) (af:=af) (gd:=gd) hd hx ho ht
 rwa[List.length_map] at this
theorem iW[Mode]{α:Type}{t e k bytes i:Nat}{z v:Value}{x y:Operand}{f:α->List D}{xs ys zs:List α}{ty:TypeId}{pos:String}{af:Array Edge}{gd:Option (Nat×Bool)}(hd:d<n)(ht:SliceTy P t e k bytes z)
  (hx:st.eval x=.d (.lit v))(ho:st.objs[i]?=some (.arr v e k (xs.map f)))(hy:st.eval y=.d (.sl k (ys.map f)))(hk:∀x,(f x).length=k)
  (h:app bytes xs ys=some zs)(hby:Nat.blt 0 bytes=true):
  Step P n ⟨some d,.call {callee:=.builtin .append,args:= #[x,y],argTypes:= #[t,t]},ty,pos,af,gd⟩ st
   (λs=>∃v',s=(st.setput d (.d (.lit v')) i (.arr v' e k (zs.map f)))):=by
 obtain⟨h1,rfl⟩:=aHc h;have:=aPc (ty:=ty) (pos:=pos) (af:=af) (gd:=gd) hd ht hx ho hy (bN hk) (by simpa using h1) (aA hby)
 simpa using this
theorem bTw[Mode]{x y:Operand}{k:IntKind}{p q:Int}{ts:Array TypeId}{ty:TypeId}{pos:String}{af:Array Edge}{gd:Option (Nat×Bool)}(hd:d<n)
  (hx:st.eval x=.d (.lit (.int k p)))(hy:st.eval y=.d (.lit (.int k q))):
  aY P n ⟨some d,.call {callee:=.builtin .max,args:= #[x,y],argTypes:=ts},ty,pos,af,gd⟩ st (st.set d (.d (.lit (.int k (max p q))))):=
 fQ rfl hd rfl λA M w0 a w hR=>by
  have:(if q>p then q else p)=max p q:=by simp only[Int.max_def];split<;>split<;>omega
  simp[execOp,resolve,hR.lit hx,hR.lit hy,invoke,builtin,Builtin.max_,Builtin.max2,this]
theorem bTx[Mode]{x y:Operand}{k:IntKind}{p q:Int}{ts:Array TypeId}{ty:TypeId}{pos:String}{af:Array Edge}{gd:Option (Nat×Bool)}(hd:d<n)
  (hx:st.eval x=.d (.lit (.int k p)))(hy:st.eval y=.d (.lit (.int k q))):
  aY P n ⟨some d,.call {callee:=.builtin .min,args:= #[x,y],argTypes:=ts},ty,pos,af,gd⟩ st (st.set d (.d (.lit (.int k (min p q))))):=
 fQ rfl hd rfl λA M w0 a w hR=>by
  have:(if q<p then q else p)=min p q:=by simp only[Int.min_def];split<;>split<;>omega
  simp[execOp,resolve,hR.lit hx,hR.lit hy,invoke,builtin,Builtin.min_,Builtin.min2,this]
theorem aGr[Mode]{x:Operand}{k k':IntKind}{p:Int}{t u ty:TypeId}{td:TypeDesc}{pos:String}{af:Array Edge}{gd:Option (Nat×Bool)}(hd:d<n)
  (hx:st.eval x=.d (.lit (.int k p)))(ht:∀w,(underlying t).run P w=.ok td w)(hu:∀w,(underlying u).run P w=.ok (.int k') w):
  aY P n ⟨some d,.convert t u x,ty,pos,af,gd⟩ st (st.set d (.d (.lit (.int k' (k'.wrap p))))):=
 fQ rfl hd rfl λA M w0 a w hR=>by simp[execOp,hR.lit hx,convert,ht,hu,Conv.intToInt]
theorem bX[Mode]{ks:List Nat}{t:Nat}{v:AV}{s:St}(ho:s.objs=st.objs)(he:AllEq s.env st.env ks)(hv:s.env t=v):Ent s ⟨upd (keep ks st.env) t v,st.objs⟩:=by
 rw[<-ho];exact cP (aQ hv (bA he))
theorem eQ[Mode]{S T:Type}(l:List Nat)(us:S->List (Nat×AV))(objs:S->List MO)(F:Nat->S->Option T){r:T}{c:Code}(hz:∀s,F 0 s=none){k0:Nat}(s0:S)(h0:F k0 s0=some r)
  (he:Ent st ⟨xU (keep l st.env) (us s0),objs s0⟩)
  (body:∀k s,F (k+1) s=some r->Tr P n c ⟨xU (keep l st.env) (us s),objs s⟩ (jI (λst'=>∃s',F k s'=some r/\Ent st' ⟨xU (keep l st.env) (us s'),objs s'⟩) Q)):Tr P n (.loop c) st Q:=
 dA he (bDk (λs=>⟨xU (keep l st.env) (us s),objs s⟩) F r hz body k0 s0 h0)
theorem bQs[Mode](h:Q .normal st):TrL P n ops [] st Q:=λ_ _ _ _ _ hR=>wpListIn_nil ⟨st,h,hR⟩
theorem bDj[Mode]{id id':Nat}{c:Code}(h:Tr P n c st (uS id N (uS id' N Q))):Tr P n (.block id c) st (uS id' N Q):=aPe h λ_ h=>h
end
def okS(s:Str):Prop:=s.length<=maxLen
def okL{α:Type}(ok:α->Prop)(xs:List α):Prop:=xs.length<=maxLen/\∀x∈xs,ok x
end Go.Am
end
