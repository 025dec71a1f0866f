/- The program logic 'Am': states, the relation to the machine, triples for operations, regions, code and calls. -/
import Derived.Test.YtiohgpipanopaaaGreatAmCore
namespace Go.Am
structure St where
 env:Nat->AV
 objs:List MO
def upd(e:Nat->AV)(k:Nat)(v:AV):Nat->AV:=λn=>bif Nat.beq k n then v else e n
def emp:Nat->AV:=λ_=>.any
def bG(n:Nat):List Nat->Bool
 |[]=>false
 |k::l=>bif Nat.beq k n then true else bG n l
def keep(l:List Nat)(e:Nat->AV):Nat->AV:=λn=>bif bG n l then e n else .any
def St.set(st:St)(k:Nat)(v:AV):St:=⟨upd st.env k v,st.objs⟩
def St.keep(st:St)(l:List Nat):St:=⟨Am.keep l st.env,st.objs⟩
def St.put1(st:St)(i:Nat)(m:MO):St:=⟨st.env,st.objs.set i m⟩
def St.setput(st:St)(d:Nat)(v:AV)(i:Nat)(m:MO):St:=⟨upd st.env d v,st.objs.set i m⟩
def St.setadd(st:St)(d:Nat)(v:AV)(m:MO):St:=⟨upd st.env d v,st.objs++[m]⟩
theorem lK(e:Nat->AV)(k:Nat)(v:AV):upd e k v k=v:=by simp[upd]
theorem uH(e:Nat->AV){k n:Nat}(v:AV)(h:k≠n):upd e k v n=e n:=by
 have:Nat.beq k n=false:=by
  cases hb:Nat.beq k n with
  |false=>rfl
  |true=>exact absurd (Nat.eq_of_beq_eq_true hb) h
 simp[upd,this]
structure W0 where
 w:World
 ds:List Deferred
 ro:Option Nat
def Marks(X:bH)(w0:W0)(ds:List Deferred)(w:World):Prop:=
 ∃Ds:List Nat,ds=Ds.map (λD=>⟨.collected D, #[]⟩)++w0.ds/\Ds.Nodup/\∀D∈Ds,w.heap[D]?=some (.deferred (some []))/\w0.w.heap.size<=D/\∀o,¬X D o
theorem Marks.nil(X:bH)(w0:W0)(w:World):Marks X w0 w0.ds w:=⟨[],rfl,List.nodup_nil,λD h=>by simp at h⟩
theorem Marks.step{X X' Z:bH}{w0:W0}{ds:List Deferred}{w w':World}(h:Marks X w0 ds w)(hk:Keeps Z w w')(hz:∀b o,Z b o->X b o)(hx:∀b o,b<w.heap.size->X' b o->X b o):Marks X' w0 ds w':=by
 obtain⟨Ds,h1,h2,h3⟩:=h;refine⟨Ds,h1,h2,λD hD=>?_⟩;obtain⟨a,b,c⟩:=h3 D hD;have hlt:=(Array.getElem?_eq_some_iff.1 a).1;exact⟨(hk.block D hlt λo ho=>c o (hz _ _ ho)).trans a,b,λo ho=>c o (hx _ _ hlt ho)⟩
theorem Marks.sub{X X':bH}{w0:W0}{ds:List Deferred}{w:World}(h:Marks X w0 ds w)(hx:∀b o,X' b o->X b o):Marks X' w0 ds w:=
 h.step (Keeps.refl (λ_ _=>False) w) (λ_ _ h=>h.elim) λb o _ h=>hx b o h
structure R(A M:bH)(w0:W0)(n:Nat)(st:St)(a:Act)(w:World):Prop where
 size:a.tmps.size=n
 defers:Marks (bF A st.objs) w0 a.defers w
 env:∀k,VR w (bF A st.objs) (st.env k) (a.tmps.getD k undef)
 inv:Inv w A st.objs
 keeps:Keeps M w0.w w
 own:∀m∈st.objs,∀b o,m.foot b o->M b o\/w0.w.heap.size<=b
 old:∀b o,A b o->b<w0.w.heap.size
theorem nJ{A Z:bH}{w w':World}{objs objs':List MO}(hk:Keeps Z w w')(hz:∀b o,Z b o->bF A objs b o)
  (hl:∀b o,b<w.heap.size->bF A objs' b o->bF A objs b o):Mono w (bF A objs) w' (bF A objs'):=by
 refine⟨λb o v hc hx=>?_,λr ms c hc hx=>?_⟩
 ·have hlt:b<w.heap.size:=block_lt_of_cell hc;exact⟨by rw[hk.cell b o hlt λh=>hx (hz _ _ h)];exact hc,λh=>hx (hl _ _ hlt h)⟩
 ·have hlt:r<w.heap.size:=(Array.getElem?_eq_some_iff.1 hc).1;exact⟨by rw[hk.block r hlt λo h=>hx o (hz _ _ h)];exact hc,λo h=>hx o (hl _ _ hlt h)⟩
theorem bIf{w:World}{X:bH}{env:Nat->AV}{tmps:Array Value}{n d:Nat}(hs:tmps.size=n)(hd:d<n){x:AV}{v:Value}
  (he:∀k,VR w X (env k) (tmps.getD k undef))(hv:VR w X x v):∀k,VR w X (upd env d x k) ((tmps.setIfInBounds d v).getD k undef):=by
 intro k
 by_cases hk:d=k
 ·subst hk;rw[lK,Array.getD_eq_getD_getElem?,Array.getElem?_setIfInBounds_self_of_lt (by omega)];exact hv
 ·rw[uH _ _ hk,Array.getD_eq_getD_getElem?,Array.getElem?_setIfInBounds_ne hk,<-Array.getD_eq_getD_getElem?];exact he k
theorem R.put{A M:bH}{w0:W0}{n:Nat}{st:St}{a:Act}{w:World}(h:R A M w0 n st a w){o:Oper}{d:Nat}(ho:o.dst=some d)(hd:d<n){x:AV}{u:Value}
  (hv:VR w (bF A st.objs) x u):R A M w0 n (st.set d x) (a.put o.dst u) w:=by
 rw[ho];exact⟨by simp[Act.put,h.size],h.defers,bIf h.size hd h.env hv,h.inv,h.keeps,h.own,h.old⟩
theorem R.put_none{A M:bH}{w0:W0}{n:Nat}{st:St}{a:Act}{w:World}(h:R A M w0 n st a w){o:Oper}(ho:o.dst=none){u:Value}:R A M w0 n st (a.put o.dst u) w:=by
 rw[ho];exact h
def Step(P:Program)(n:Nat)(o:Oper)(st:St)(Post:St->Prop):Prop:=
 ∀A M w0 a w,R A M w0 n st a w->∀K Q,(∀st' a' w',Post st'->R A M w0 n st' a' w'->K a' w')->o.wp P a w K Q
abbrev bB(P:Program)(n:Nat)(o:Oper)(st st':St):Prop:=Step P n o st (λs=>s=st')
theorem cO{P:Program}{n:Nat}{o:Oper}{st:St}{d:Nat}{x:AV}(ho:o.dst=some d)(hd:d<n)
  (h:∀(A M:bH) (w0:W0) (a:Act) (w:World),R A M w0 n st a w->∃u,(execOp a.eval o).run P w=.ok (.value u) w/\VR w (bF A st.objs) x u):
  bB P n o st (st.set d x):=by
 intro A M w0 a w hR K Q hK;obtain⟨u,hrun,hv⟩:=h A M w0 a w hR;unfold Oper.wp;rw[hrun,Oper.upon_value];refine hK _ _ _ rfl ?_;exact hR.put ho hd hv
def St.eval(st:St):Operand->AV
 | .tmp t=>st.env t
 | .const v=>.d (.lit v)
 | .global _=>.any
 | .func f=>.fn f []
theorem R.eval{A M:bH}{w0:W0}{n:Nat}{st:St}{a:Act}{w:World}(h:R A M w0 n st a w)(t:Nat):
  VR w (bF A st.objs) (st.eval (.tmp t)) (a.eval (.tmp t)):=h.env t
def cT:Operand->Bool
 | .const v=>v.oneCell'
 |_=>true
theorem R.eval'{A M:bH}{w0:W0}{n:Nat}{st:St}{a:Act}{w:World}(h:R A M w0 n st a w){x:Operand}(hx:cT x=true):
  VR w (bF A st.objs) (st.eval x) (a.eval x):=by
 cases x with
 |tmp t=>exact h.env t
 |const v=>exact .d (.lit v hx)
 |global g=>exact .any _
 |func f=>exact .fn (us:=[]) rfl (λi hi=>by simp at hi)
theorem VR.lit{w:World}{X:bH}{v u:Value}(h:VR w X (.d (.lit v)) u):u=v:=by
 cases h with
 |d h=>cases h;rfl
def fen(ro:Option Nat):Fence:={Fence.wide with round:=ro}
def bBy(P:Program)(n:Nat)(o:Oper)(st:St)(Post:St->Prop):Prop:=
 ∀A M w0 a w,R A M w0 n st a w->∀K Q,(∀st' a' w',Post st'->R A M w0 n st' a' w'->K a' w')->o.wpIn (fen w0.ro) 0 P a w K Q
theorem bFp{ρ:Operand->Value}{c:Call}{ty:TypeId}{P:Program}{w w':World}{d:Deferred}(h:(resolve ρ c ty).run P w=.ok d w'):∀D,d.target≠.collected D:=by
 unfold resolve at h;split at h
 ·simp[go_sem] at h
  rw[<-h.1];intro D hD;cases hD
 ·simp[go_sem] at h
  rw[<-h.1];intro D hD;cases hD
 ·unfold Deferred.ofValue at h;split at h<;>simp[go_sem] at h<;>(rw[<-h.1];intro D hD;cases hD)
theorem bWa{o:Oper}{P:Program}{a:Act}{w:World}{c:Call}(ho:o.op=.defer c)(h:o.wp P a w (λa' _=>∃Ds:List Nat,a'.defers=Ds.map (λD=>⟨.collected D, #[]⟩)++a.defers) (λ_ _ _=>False)):False:=by
 unfold Oper.wp at h;have e:(execOp a.eval o)=(do pure (.defer (<-resolve a.eval c o.type))):=by simp[execOp,ho]
 rw[e] at h;simp only[Sem.run_bind] at h;cases hr:(resolve a.eval c o.type).run P w with
 | ok d w'=>
  rw[hr] at h;simp only[Result.andThen] at h;have:(pure (Next.defer d):Sem Next).run P w'=.ok (.defer d) w':=rfl;rw[this] at h;simp only[Oper.upon] at h;obtain⟨Ds,hDs⟩:=h;have h2:d::a.defers=Ds.map (λD=>⟨.collected D, #[]⟩)++a.defers:=by
   rw[<-hDs];cases hd:o.dst<;>simp[Act.put]
  cases Ds with
  |nil=>have:=congrArg List.length h2;simp at this
  | cons D Ds=>
   simp only[List.map_cons,List.cons_append,List.cons.injEq] at h2;exact bFp hr D (by rw[h2.1])
 | halt x w'=>
  rw[hr] at h;cases x<;>simp[Result.andThen,Oper.upon] at h
theorem bHl{n:Nat}{P:Program}{row:String}{args:Array Value}{w:World}{R:Value->World->Prop}(h:Rows P row args w R):RowsIn Fence.wide n P row args w R:=
 λc cs _=>let⟨v,w',r,s⟩:=h c cs;⟨v,w',r,stepsIn_wide.2 s⟩
theorem Oper.wpIn_of{o:Oper}{P:Program}{a:Act}{w:World}{K:Act->World->Prop}{Q:Exit->Act->World->Prop}{ro:Option Nat}(hd:∀c,o.op≠.defer c)(h:o.wp P a w K Q):o.wpIn (fen ro) 0 P a w K Q:=by
 refine⟨λ_ _=>trivial,?_⟩;rw[Oper.semAt_eq _ _ _ hd];unfold Oper.wp at h
 generalize(execOp a.eval o).run P w=r at h|-
 cases r with
 | ok x w'=>
  cases x<;>simp only[Oper.upon,Oper.uponIn] at h⊢<;>first
   |exact h
   |exact⟨λh=>(by cases h),callsIn_wide.2 h⟩
   |exact⟨λh=>(by cases h),bHl h⟩
 |halt x w'=>cases x<;>simp only[Oper.upon,Oper.uponIn] at h⊢<;>exact h
theorem Step.x{P:Program}{n:Nat}{o:Oper}{st:St}{Post:St->Prop}(h:Step P n o st Post):bBy P n o st Post:=by
 intro A M w0 a w hR K Q hK;refine Oper.wpIn_of (λc hc=>?_) (h A M w0 a w hR K Q hK);have hR0:R A M {w0 with ds:=a.defers} n st a w:=⟨hR.size,Marks.nil _ _ _,hR.env,hR.inv,hR.keeps,hR.own,hR.old⟩;refine bWa hc (h A M _ a w hR0 _ _ λst' a' w' _ hR'=>?_);obtain⟨Ds,h1,_⟩:=hR'.defers;exact⟨Ds,h1⟩
def TrL(P:Program)(n:Nat)(ops:Array Oper)(l:List Oper)(st:St)(Q:Exit->St->Prop):Prop:=
 ∀A M w0 a w,R A M w0 n st a w->wpListIn (fen w0.ro) 0 P ops (λe a' w'=>∃st',Q e st'/\R A M w0 n st' a' w') l a w
def wK:Code->Bool
 | .rangeFunc .. =>false
 | .seq x y=>wK x&&wK y
 | .cond _ x y=>wK x&&wK y
 | .block _ c=>wK c
 | .loop c=>wK c
 | .scope c=>wK c
 |_=>true
def Tr(P:Program)(n:Nat)(c:Code)(st:St)(Q:Exit->St->Prop):Prop:=
 ∀A M w0 a w,R A M w0 n st a w->(w0.ro=none\/wK c=true)->c.wpIn (fen w0.ro) 0 P (λe a' w'=>∃st',Q e st'/\R A M w0 n st' a' w') a w
def jO(N:St->Prop)(Q:Exit->St->Prop):Exit->St->Prop
 | .normal,st=>N st
 |e,st=>Q e st
def xA(id:Nat)(N:St->Prop)(Q:Exit->St->Prop):Exit->St->Prop
 | .normal,st=>N st
 | .exit id',st=>(id'=id/\N st)\/(id'≠id/\Q (.exit id') st)
 |e,st=>Q e st
section
variable{P:Program}{n:Nat}{st st':St}{Q:Exit->St->Prop}{N:St->Prop}
theorem bGh{ops:Array Oper}{o:Oper}{rest:List Oper}{Post:St->Prop}(hg:o.guard=none)(h:bBy P n o st Post)
  (hr:∀st',Post st'->TrL P n ops rest st' Q):TrL P n ops (o::rest) st Q:=
 λA M w0 a w hR=>wpListIn_plain hg λK hK=>h A M w0 a w hR K _ λst' a' w' hp hR'=>hK _ _ (hr st' hp A M w0 a' w' hR')
theorem bO{ops:Array Oper}{o:Oper}{rest:List Oper}{Post:St->Prop}(hg:o.guard=none)(h:Step P n o st Post)
  (hr:∀st',Post st'->TrL P n ops rest st' Q):TrL P n ops (o::rest) st Q:=bGh hg h.x hr
theorem tr1{ops:Array Oper}{o:Oper}{rest:List Oper}(hg:o.guard=none)(h:bB P n o st st')
  (hr:TrL P n ops rest st' Q):TrL P n ops (o::rest) st Q:=
 bO hg h λ_ e=>e▸hr
theorem bN{ops:Array Oper}(h:N st):TrL P n ops [] st (jO N Q):=
 λ_ _ _ _ _ hR=>wpListIn_nil ⟨st,h,hR⟩
theorem kK{ops:Array Oper}{id:Nat}(h:N st):TrL P n ops [] st (xA id N Q):=
 λ_ _ _ _ _ hR=>wpListIn_nil ⟨st,h,hR⟩
theorem bQ{id:Nat}{l:List Oper}(h:TrL P n l.toArray l st Q):Tr P n (.region id l.toArray false) st Q:=
 λA M w0 a w hR _=>wpIn_region_lit (h A M w0 a w hR)
theorem bLe{p:Prop}{a b:Bool}(h:p\/(a&&b)=true):(p\/a=true)/\(p\/b=true):=by
 rcases h with h|h
 ·exact⟨.inl h,.inl h⟩
 ·rw[Bool.and_eq_true] at h;exact⟨.inr h.1,.inr h.2⟩
theorem bT{x y:Code}(h:Tr P n x st (jO (λs=>Tr P n y s Q) Q)):Tr P n (.seq x y) st Q:=by
 intro A M w0 a w hR hn;refine wpIn_seq (wpIn_mono (h A M w0 a w hR (bLe hn).1) ?_);rintro e a' w' ⟨st',hq,hR'⟩;cases e with
 |normal=>exact hq A M w0 a' w' hR' (bLe hn).2
 |_=>exact⟨st',hq,hR'⟩
theorem sD(h:N st):Tr P n .skip st (jO N Q):=λ_ _ _ _ _ hR _=>wpIn_skip ⟨st,h,hR⟩
theorem bTk(h:Q .normal st):Tr P n .skip st Q:=λ_ _ _ _ _ hR _=>wpIn_skip ⟨st,h,hR⟩
theorem bGg{l:Nat}(h:Q .normal st):Tr P n (.label l) st Q:=λ_ _ _ _ _ hR _=>wpIn_label ⟨st,h,hR⟩
theorem cG(h:Q .ret st):Tr P n .ret st Q:=λ_ _ _ _ _ hR _=>wpIn_ret ⟨st,h,hR⟩
theorem cZ{id:Nat}(h:Q (.exit id) st):Tr P n (.exit id) st Q:=λ_ _ _ _ _ hR _=>wpIn_exit ⟨st,h,hR⟩
theorem aUc{id:Nat}{c:Code}(h:Tr P n c st (xA id N Q))(hQ:∀s,N s->Q .normal s):Tr P n (.block id c) st Q:=by
 intro A M w0 a w hR hn;refine wpIn_block (wpIn_mono (h A M w0 a w hR hn) ?_);rintro e a' w' ⟨st',hq,hR'⟩;cases e with
 |normal=>exact⟨st',hQ _ hq,hR'⟩
 | exit id'=>
  show if id'=id then _ else _
  rcases hq with⟨h1,h2⟩|⟨h1,h2⟩
  ·rw[if_pos h1];exact⟨st',hQ _ h2,hR'⟩
  ·rw[if_neg h1];exact⟨st',h2,hR'⟩
 |_=>exact⟨st',hq,hR'⟩
theorem pY{c:Code}{Q':Exit->St->Prop}(h:Tr P n c st Q)(hq:∀e s,Q e s->Q' e s):Tr P n c st Q':=
 λA M w0 a w hR hn=>wpIn_mono (h A M w0 a w hR hn) λ_ _ _ ⟨s,h1,h2⟩=>⟨s,hq _ _ h1,h2⟩
theorem aDt{c:Operand}{x y:Code}{b:Bool}(hc:st.eval c=.d (.lit (.bool b)))(ht:b=true->Tr P n x st Q)(hf:b=false->Tr P n y st Q):
  Tr P n (.cond c x y) st Q:=by
 intro A M w0 a w hR hn;have he:a.eval c=.bool b:=by
  cases c with
  |tmp t=>have:=hR.env t;rw[show st.env t=_ from hc] at this;exact this.lit
  |const v=>simp only[St.eval,AV.d.injEq,D.lit.injEq] at hc;exact hc
  |global g=>cases hc
  |func f=>cases hc
 exact wpIn_cond_split he (λh=>ht h A M w0 a w hR (bLe hn).1) (λh=>hf h A M w0 a w hR (bLe hn).2)
def Ent(st st':St):Prop:=∀(A M:bH) (w0:W0) (n:Nat) (a:Act) (w:World),R A M w0 n st a w->R A M w0 n st' a w
theorem Ent.refl(st:St):Ent st st:=λ_ _ _ _ _ _ h=>h
theorem Ent.trans{a b c:St}(h:Ent a b)(k:Ent b c):Ent a c:=λA M w0 n x w hR=>k A M w0 n x w (h A M w0 n x w hR)
theorem eW{c:Code}(he:Ent st st')(h:Tr P n c st' Q):Tr P n c st Q:=λA M w0 a w hR hn=>h A M w0 a w (he A M w0 n a w hR) hn
theorem gW{ops:Array Oper}{l:List Oper}(he:Ent st st')(h:TrL P n ops l st' Q):TrL P n ops l st Q:=λA M w0 a w hR=>h A M w0 a w (he A M w0 n a w hR)
theorem bJn{S T:Type}(σ:S->St)(F:Nat->S->Option T)(r:T){c:Code}(hz:∀s,F 0 s=none)
  (body:∀k s,F (k+1) s=some r->Tr P n c (σ s) (jO (λst'=>∃s',F k s'=some r/\Ent st' (σ s')) Q))
  (k0:Nat)(s0:S)(h0:F k0 s0=some r):Tr P n (.loop c) (σ s0) Q:=by
 intro A M w0 a w hR hn
 let I0:Nat->Act->World->Prop:=λk a w=>∃s,F k s=some r/\R A M w0 n (σ s) a w
 have ex:∀a w,(∃k,I0 k a w)->∃k,I0 k a w/\∀j,I0 j a w->k<=j:=by
  rintro a w ⟨k,hk⟩
  induction k using Nat.strongRecOn with
  | _ k ih=>
   by_cases h:∃j,j<k/\I0 j a w
   ·obtain⟨j,hj,hI⟩:=h;exact ih j hj hI
   ·refine⟨k,hk,λj hj=>?_⟩
    rcases Nat.lt_or_ge j k with h1|h1
    ·exact absurd ⟨j,h1,hj⟩ h
    ·exact h1
 have hμ:∃μ:Act->World->Nat,∀a w,(∃k,I0 k a w)->I0 (μ a w) a w/\∀j,I0 j a w->μ a w<=j:=by
  classical
  refine⟨λa w=>if h:∃k,I0 k a w then(ex a w h).choose else 0,λa w h=>?_⟩;simp only[h,dite_true];exact(ex a w h).choose_spec
 obtain⟨μ,hμ⟩:=hμ;refine wpIn_loop (λa w=>∃k,I0 k a w) μ ⟨k0,s0,h0,hR⟩ λa w hI=>?_;obtain⟨⟨s,hs,hRs⟩,hmin⟩:=hμ a w hI;cases hk:μ a w with
 |zero=>rw[hk,hz] at hs;cases hs
 | succ k=>
  rw[hk] at hs;refine wpIn_mono (body k s hs A M w0 a w hRs hn) ?_;rintro e a' w' ⟨st',hq,hR'⟩;cases e with
  | normal=>
   obtain⟨s',hs',he⟩:=hq;have hI':I0 k a' w':=⟨s',hs',he A M w0 n a' w' hR'⟩;have hle:=(hμ a' w' ⟨k,hI'⟩).2 k hI';exact⟨⟨k,hI'⟩,by omega⟩
  |_=>exact⟨st',hq,hR'⟩
end
def dX(P:Program)(f:FuncId)(args:List AV)(objs:List MO)(Q:AV->List MO->Prop):Prop:=
 ∀ (A:bH) (w:World) (vs:List Value),Inv w A objs->(∀b o,A b o->b<w.heap.size)->VRs w (bF A objs) args vs->
  Calls P f vs.toArray w λe w'=>∃v r objs',e=.returned v/\Keeps (fC objs) w w'/\Inv w' A objs'/\VR w' (bF A objs') r v/\
   (∀m∈objs',∀b o,m.foot b o->fC objs b o\/w.heap.size<=b)/\Q r objs'
def entry(args:List AV):Nat->AV:=λk=>args.getD k .any
inductive aLb(st:St):List ResultVar->AV->Prop where
 |one (t:Nat):aLb st [.tmp t] (st.env t)
 |two (t u:Nat):aLb st [.tmp t,.tmp u] (.tup [st.env t,st.env u])
 |three (t u v:Nat):aLb st [.tmp t,.tmp u,.tmp v] (.tup [st.env t,st.env u,st.env v])
 |none:aLb st [] (.tup [])
theorem R.shut{A M:bH}{w0:W0}{n:Nat}{st:St}{a:Act}{w:World}{D:Nat}{Ds:List Nat}(h:R A M w0 n st a w)(hD:w.heap[D]?=some (.deferred (some [])))(hge:w0.w.heap.size<=D)(hX:∀o,¬bF A st.objs D o)
  (hm:Marks (bF A st.objs) w0 (Ds.map (λD=>⟨.collected D, #[]⟩)++w0.ds) (w.putObj D (.deferred none))):R A M w0 n st {a with defers:=Ds.map (λD=>⟨.collected D, #[]⟩)++w0.ds} (w.putObj D (.deferred none)):=by
 have hlt:=(Array.getElem?_eq_some_iff.1 hD).1;have hk:Keeps (λb _=>b=D) w (w.putObj D (.deferred none)):=by
  refine⟨rfl,rfl,rfl,by simp[World.putObj],λb hb hz=>World.putObj_heap_other λe=>hz 0 e,λb o hb hz=>?_,λb o hb hz=>?_,Nat.le_refl _⟩
  ·have:(w.putObj D (.deferred none)).heap[b]?=w.heap[b]?:=World.putObj_heap_other λe=>hz e;simp only[World.cell?,this]
  ·have:(w.putObj D (.deferred none)).heap[b]?=w.heap[b]?:=World.putObj_heap_other λe=>hz e;simp only[World.frozen?,this]
 have hmono:Mono w (bF A st.objs) (w.putObj D (.deferred none)) (bF A st.objs):=by
  refine⟨λb o v hc hx=>⟨?_,hx⟩,λr ms c hr hx=>⟨?_,hx⟩⟩
  ·by_cases hb:b=D
   ·subst hb
    simp[World.cell?,hD] at hc
   ·rw[hk.cell b o (block_lt_of_cell hc) hb];exact hc
  ·by_cases hb:r=D
   ·subst hb;rw[hD] at hr;cases hr
   ·rw[hk.block r (Array.getElem?_eq_some_iff.1 hr).1 λ_=>hb];exact hr
 exact⟨h.size,hm,λk=>(h.env k).mono hmono,⟨h.inv.sep,h.inv.apart,λm hm'=>bY (h.inv.holds m hm') hk (λb o hf e=>hX o (by subst e;exact .inr ⟨m,hm',hf⟩)) hmono⟩,h.keeps.weaken hk λb o hb=>.inr (by subst hb;exact hge),h.own,h.old⟩
theorem bEf{A M:bH}{w0:W0}{n:Nat}{st:St}{P:Program}{fn:Func}{Rt:Ending->World->Prop}{tmps:Array Value}(h0:w0.ds=[])
  (hR':∀a w,R A M w0 n st a w->a.tmps=tmps->∃v,(results fn tmps).run P w=.ok v w/\Rt (.returned v) w):∀(Ds:List Nat) (a:Act) (w:World),R A M w0 n st a w->a.tmps=tmps->a.defers=Ds.map (λD=>⟨.collected D, #[]⟩)++w0.ds->Ds.Nodup->
   (∀D∈Ds,w.heap[D]?=some (.deferred (some []))/\w0.w.heap.size<=D/\∀o,¬bF A st.objs D o)->LeavesInM Fence.wide 0 P fn tmps Rt a.defers .returning w:=by
 intro Ds
 induction Ds with
 | nil=>
  intro a w hR ht hd _ _;rw[hd,h0];exact hR' a w hR ht
 | cons D Ds ih=>
  intro a w hR ht hd hnd hDs;obtain⟨h1,h2,h3⟩:=hDs D (by simp);have hnd':=List.nodup_cons.1 hnd;have hDs':∀D'∈Ds,(w.putObj D (.deferred none)).heap[D']?=some (.deferred (some []))/\w0.w.heap.size<=D'/\∀o,¬bF A st.objs D' o:=λD' h'=>by
   obtain⟨a1,a2,a3⟩:=hDs D' (by simp[h']);exact⟨(World.putObj_heap_other (λe=>hnd'.1 (by rw[<-e];exact h'))).trans a1,a2,a3⟩
  rw[hd];refine⟨by simp,.inl ⟨D,_,rfl,run_takeDeferred h1,?_⟩⟩;exact ih {a with defers:=Ds.map (λD=>⟨.collected D, #[]⟩)++w0.ds} _ (hR.shut h1 h2 h3 ⟨Ds,rfl,hnd'.2,hDs'⟩) ht rfl hnd'.2 hDs'
theorem aJe{P:Program}{f:FuncId}{fn:Func}{c:Code}{args:List AV}{objs:List MO}{Q:Exit->St->Prop}(hf:P.funcs[f]?=some fn)(hb:fn.body=some c)(ha:args.length<=fn.ntmps)
  (h:Tr P fn.ntmps c ⟨entry args,objs⟩ Q){A:bH}{w:World}{vs:List Value}(hinv:Inv w A objs)(hA:∀b o,A b o->b<w.heap.size)(hvs:VRs w (bF A objs) args vs){Rt:Ending->World->Prop}
  (hQ:∀e st,Q e st->e=.ret\/e=.normal)(hR:∀e st a w',Q e st->R A (fC objs) ⟨w,[],none⟩ fn.ntmps st a w'->∃v,(results fn a.tmps).run P w'=.ok v w'/\Rt (.returned v) w'):Calls P f vs.toArray w Rt:=by
 have hlen:=hvs.length;have hR0:R A (fC objs) ⟨w,[],none⟩ fn.ntmps ⟨entry args,objs⟩ {tmps:=vs.toArray++Array.replicate (fn.ntmps-vs.toArray.size) undef,defers:=[]} w:=by
  refine⟨?_,Marks.nil _ ⟨w,[],none⟩ _,λk=>?_,hinv,Keeps.refl _ _,λm hm b o hf=>.inl ⟨m,hm,hf⟩,hA⟩
  ·simp;omega
  ·have:=hvs.getD k;show VR _ _ (args.getD k .any) _;rw[Array.getD_eq_getD_getElem?]
   by_cases hk:k<vs.length
   ·rw[Array.getElem?_append_left (by simpa using hk)]
    simpa[List.getD] using this
   ·have:args.getD k .any=.any:=by simp[List.getD,List.getElem?_eq_none (show args.length<=k by omega)]
    rw[this];exact .any _
 refine(callsIn_wide (n:=0)).1 (callsIn_of_wp_marks hf hb trivial ?_);refine wpIn_mono (h A (fC objs) _ _ _ hR0 (.inl rfl)) ?_;rintro e a' w' ⟨st,hq,hR'⟩;have key:LeavesInM Fence.wide 0 P fn a'.tmps Rt a'.defers .returning w':=by
  obtain⟨Ds,h1,h2,h3⟩:=hR'.defers;refine bEf (w0:=⟨w,[],none⟩) rfl (λa w2 hR2 ht=>?_) Ds a' w' hR' rfl h1 h2 h3;have:=hR e st a w2 hq hR2
  rwa[ht] at this
 rcases hQ e st hq with rfl|rfl
 ·exact key
 ·exact key
theorem aGg{P:Program}{f:FuncId}{fn:Func}{c:Code}{args:List AV}{objs:List MO}{Q:AV->List MO->Prop}
  (hf:P.funcs[f]?=some fn)(hb:fn.body=some c){rs:List ResultVar}(hr:fn.results=rs.toArray)(ha:args.length<=fn.ntmps)
  (h:Tr P fn.ntmps c ⟨entry args,objs⟩ (λe st=>(e=.ret\/e=.normal)/\∃r,aLb st rs r/\Q r st.objs)):dX P f args objs Q:=by
 intro A w vs hinv hA hvs;refine aJe hf hb ha h hinv hA hvs (λe st hq=>hq.1) ?_;rintro e st a' w' ⟨he,r,hres,hq⟩ hR';have key:∃v,(results fn a'.tmps).run P w'=.ok v w'/\VR w' (bF A st.objs) r v:=by
  cases hres with
  |one t=>exact⟨_,results_tmp hr _ _ _,hR'.env t⟩
  | two t u=>exact⟨_,results_tmp2 hr _ _ _,.tup (us:=[_,_]) rfl λi hi=>by
    match i,hi with
    |0,_=>exact hR'.env t
    |1,_=>exact hR'.env u⟩
  | three t u v=>exact⟨.tuple #[a'.tmps.getD t undef,a'.tmps.getD u undef,a'.tmps.getD v undef],by simp[results,hr],.tup (us:=[_,_,_]) rfl λi hi=>by
    match i,hi with
    |0,_=>exact hR'.env t
    |1,_=>exact hR'.env u
    |2,_=>exact hR'.env v⟩
  |none=>exact⟨_,results_none hr _ _ _,.tup (us:=[]) rfl λi hi=>by simp at hi⟩
 obtain⟨v,hrun,hv⟩:=key;exact⟨v,hrun,v,r,st.objs,rfl,hR'.keeps,hR'.inv,hv,hR'.own,hq⟩
end Go.Am
