/- Several texts, one behind the other. -/
import Derived.Test.YtiohgpipanopaaaGreatAmIter
import Derived.Test.YtiohgpipanopaaaGreatAmFam
section
namespace Go.Am
def aSz(agg:Bool)(ds:List D):AV:=bif agg then .agg ds else .d (ds.getD 0 (.lit undef))
theorem bEs{w:World}{X:bH}{agg:Bool}{es:List (Value×List D)}{u:Value}(h:DR w X (.mp agg es) u):
  ∃ r clock,∃ms:Array MapEntry,u=.map (some r)/\w.heap[r]?=some (.map ms clock)/\ms.toList.map (·.key)=es.map (·.1)/\
   ∀(i:Nat) (m:MapEntry) (e:Value×List D),ms.toList[i]?=some m->es[i]?=some e->VR w X (aSz agg e.2) m.val:=by
 cases h with
 | mp _ _ r clock ms f hb hx hk hp hc hv h1 hr=>
  refine⟨r,clock,ms,rfl,hb,hk,λi m e hi he=>?_⟩;rw[hv i m e hi he];cases agg with
  | true=>
   refine .agg (DRs.of (by simp) λj d v hd hv=>?_);have hj:j<e.2.length:=(List.getElem?_eq_some_iff.1 hd).1
   simp[hj] at hv
   subst hv;exact hr i j e d he hd
  | false=>
   have hl:=h1 rfl e (List.mem_of_getElem? he);have hd:e.2[0]?=some (e.2.getD 0 (.lit undef)):=by simp[List.getD,show 0<e.2.length by omega]
   exact .d (hr i 0 e _ he hd)
section
variable{P:Program}{n d:Nat}{st:St}
theorem bVy{kt:TypeId}{α β:Type}[DecidableEq α]{kv:α->Value}{enc:β->List D}{agg:Bool}{l:List (α×β)}{a:α}{z:β}(hk:wP P kt kv){w:World}{X:bH}{ms:Array MapEntry}
  (hkeys:ms.toList.map (·.key)=(l.map λp=>(kv p.1,enc p.2)).map (·.1))(hval:∀(i:Nat) (m:MapEntry) (e:Value×List D),ms.toList[i]?=some m->(l.map λp=>(kv p.1,enc p.2))[i]?=some e->VR w X (aSz agg e.2) m.val):
  ((Instr.findKey kt (kv a) ms.toList).run P w=.ok none w/\eB a l=false/\bR a z l=z)\/∃(j:Nat) (u:Value),(Instr.findKey kt (kv a) ms.toList).run P w=.ok (some (j,u)) w/\eB a l=true/\VR w X (aSz agg (enc (bR a z l))) u:=by
 have hkeys':ms.toList.map (·.key)=(l.map (·.1)).map kv:=by rw[hkeys];simp
 have hf:=hk.find a (l.map (·.1)) ms.toList w hkeys'
 rcases uK a z l with⟨h1,h2⟩|⟨j,p,h1,h2,h3,h4⟩
 ·left
  rw[h1] at hf;exact⟨hf,by rw[pH,h1];rfl,h2⟩
 ·right
  have hjl:=(List.getElem?_eq_some_iff.1 h2).1;have hlen:ms.toList.length=l.length:=by have:=congrArg List.length hkeys';simpa using this
  have hm:ms.toList[j]?=some (ms.toList[j]'(by omega)):=List.getElem?_eq_getElem (by omega);rw[h1] at hf;simp only[Option.bind_some,hm,Option.map_some] at hf;refine⟨j,_,hf,by rw[pH,h1];rfl,?_⟩;have:=hval j _ (kv p.1,enc p.2) hm (by simp[h2]);rw[h3];exact this
theorem aEy{t kt et:TypeId}{α β:Type}[DecidableEq α]{kv:α->Value}{enc:β->List D}{agg:Bool}{l:List (α×β)}{z:β}{zv:Value}{a:α}{x y:Operand}{ty:TypeId}{pos:String}{af:Array Edge}{gd:Option (Nat×Bool)}(hd:d<n)
  (hk:wP P kt kv)(ht:P.underlying t=some (.map kt et))(hz:∀w,(zeroValue et).run P w=.ok zv w)(hzv:∀w X,VR w X (aSz agg (enc z)) zv)
  (hx:st.eval x=.d (.mp agg (l.map λp=>(kv p.1,enc p.2))))(hxk:cT x=true)(hyk:cT y=true){yv:AV}(hyv:st.eval y=yv)(hy:aFd kv yv a):
  bB P n ⟨some d,.lookup t x y true,ty,pos,af,gd⟩ st (st.set d (.tup [aSz agg (enc (bR a z l)),.d (.lit (.bool (eB a l)))])):=
 cO rfl hd λA M w0 ac w hR=>by
  have h:=hR.eval' hxk;rw[hx] at h
  generalize hu:ac.eval x=u at h
  cases h with
  | d h=>
   obtain⟨r,clock,ms,rfl,hh,hkeys,hval⟩:=bEs h;have hkey:=hy _ _ _ (hyv▸hR.eval' hyk)
   rcases bVy (a:=a) (z:=z) hk hkeys hval with⟨hf,hhas,h2⟩|⟨j,v,hf,hhas,hv⟩
   ·refine⟨.tuple #[zv,.bool false],?_,.tup (us:=[_,_]) rfl λi hi=>by
     match i,hi with
     |0,_=>rw[h2];exact hzv _ _
     |1,_=>rw[hhas];exact .d (.lit _ rfl)⟩
    simp[execOp,hu,hkey,Instr.lookup,run_underlying ht,eY hh,hk.chk,hf,hz]
   ·refine⟨.tuple #[v,.bool true],?_,.tup (us:=[_,_]) rfl λi hi=>by
     match i,hi with
     |0,_=>exact hv
     |1,_=>rw[hhas];exact .d (.lit _ rfl)⟩
    simp[execOp,hu,hkey,Instr.lookup,run_underlying ht,eY hh,hk.chk,hf]
theorem bHq{t kt et:TypeId}{agg:Bool}{es:List (Value×List D)}{x:Operand}{ty:TypeId}{pos:String}{af:Array Edge}{gd:Option (Nat×Bool)}(hd:d<n)
  (ht:P.underlying t=some (.map kt et))(hx:st.eval x=.d (.mp agg es))(hxk:cT x=true):
  bB P n ⟨some d,.call {callee:=.builtin .len,args:= #[x],argTypes:= #[t]},ty,pos,af,gd⟩ st (st.set d (.i es.length)):=
 cO rfl hd λA M w0 ac w hR=>by
  have h:=hR.eval' hxk;rw[hx] at h
  generalize hu:ac.eval x=u at h
  cases h with
  | d h=>
   obtain⟨r,clock,ms,rfl,hh,hkeys,hval⟩:=bEs h;have:ms.size=es.length:=by have:=congrArg List.length hkeys;simpa using this
   refine⟨.int .i64 es.length,?_,.d (.lit _ rfl)⟩
   simp[execOp,resolve,hu,invoke,builtin,Builtin.len_,run_underlying ht,eY hh,goInt,this]
theorem yK{S:Type}{c:Code}{Q:Exit->St->Prop}(l:List Nat)(us:S->List (Nat×AV))(objs:S->List MO)(F:Nat->S->Prop)(hz:∀s,¬F 0 s){k0:Nat}(s0:S)(h0:F k0 s0)
  (he:Ent st ⟨zD (keep l st.env) (us s0),objs s0⟩)
  (body:∀k s,F (k+1) s->Tr P n c ⟨zD (keep l st.env) (us s),objs s⟩ (jO (λst'=>∃s',F k s'/\Ent st' ⟨zD (keep l st.env) (us s'),objs s'⟩) Q)):Tr P n (.loop c) st Q:=by
 classical
 have hF:∀k s,(if F k s then some () else none)=some ()↔F k s:=λk s=>by split<;>simp_all
 refine eV l us objs (λk s=>if F k s then some () else none) (λs=>if_neg (hz s)) s0 ((hF k0 s0).2 h0) he λk s h=>?_;have:=body k s ((hF (k+1) s).1 h);refine pY this ?_;intro e s' hq;cases e with
 | normal=>
  obtain⟨s'',h1,h2⟩:=hq;exact⟨s'',(hF k s'').2 h1,h2⟩
 |_=>exact hq
def nb{α:Type}(o:Option α)(f:α->Prop):Prop:=∃x,o=some x/\f x
theorem dN{α:Type}{o:Option α}{f:α->Prop}(h:nb o f):∃x,o=some x/\f x:=h
theorem bIa{a b:Prop}{c:Bool}(hc:c=true)(h:bif c then a else b):a:=by subst hc;exact h
theorem bHz{a b:Prop}{c:Bool}(hc:c=false)(h:bif c then a else b):b:=by subst hc;exact h
def aVw:AV->Bool
 | .d (.lit _)=>true
 | .agg ds=>eZ ds
 | .tup vs=>vs.all λv=>match v with
  | .d (.lit _)=>true
  | .agg ds=>eZ ds
  |_=>false
 |_=>false
theorem aPg{w w':World}{X X':bH}:∀{ds:List D} {vs:List Value},eZ ds=true->DRs w X ds vs->DRs w' X' ds vs
 |[],[],_,_=>trivial
 | .lit v::ds,u::vs,hl,h=>by
  refine⟨?_,aPg (by simpa[eZ] using hl) h.2⟩;have h1:=h.1;cases h1 with
  |lit _ hv=>exact .lit _ hv
 | .sl _ _::_,_::_,hl,_=>by simp[eZ] at hl
 | .sn _ _::_,_::_,hl,_=>by simp[eZ] at hl
 | .mp _ _::_,_::_,hl,_=>by simp[eZ] at hl
 | .pt _::_,_::_,hl,_=>by simp[eZ] at hl
 | .hv .. ::_,_::_,hl,_=>by simp[eZ] at hl
 |[],_::_,_,h=>h.elim
 |_::_,[],_,h=>h.elim
theorem VR.litMove{w w':World}{X X':bH}{r:AV}{v:Value}(hl:aVw r=true)(h:VR w X r v):VR w' X' r v:=by
 have one:∀(x:AV) (u:Value),(match x with| .d (.lit _)=>true| .agg ds=>eZ ds|_=>false)=true->VR w X x u->VR w' X' x u:=by
  intro x u hx h;cases h with
  | @d y u h=>
   cases y with
   |lit v=>cases h with|lit _ hv=>exact .d (DR.lit _ hv)
   |_=>simp at hx
  |agg h=>exact .agg (aPg hx h)
  |_=>simp at hx
 cases r with
 | tup vs=>
  cases h with
  | tup hlen h=>
   refine .tup hlen λi hi=>one _ _ ?_ (h i hi);simp only[aVw,List.all_eq_true] at hl;have:=hl vs[i] (List.getElem_mem hi)
   simpa[List.getD,hi] using this
 |d x=>exact one _ _ (by cases x<;>simp_all[aVw]) h
 |agg ds=>exact one _ _ hl h
 |_=>simp[aVw] at hl
def aDa(m:MO):Prop:=∀(w:World) (X X':bH),m.holds w X->m.holds w X'
theorem bOx{v:Value}{e k:Nat}{rows:List (List D)}(h:eZ rows.flatten=true):aDa (.arr v e k rows):=by
 rintro w X X' ⟨xs,h1,h2,h3⟩;exact⟨xs,aPg h h1,h2,h3⟩
theorem bSx{c:Callee}{l:List Operand}{f:FuncId}{args args':List AV}{Qc:AV->List MO->Prop}{passed rest:List MO}{ts:Array TypeId}{ty:TypeId}{pos:String}{af:Array Edge}{gd:Option (Nat×Bool)}(hd:d<n)
  (ho:st.objs=passed++rest){a0:List AV}(hc:rY P st c l f a0)(ha:a0=args)(hok:mW l=true)(hb:BVs rest args args')(hf:dX P f args' passed Qc)
  (hp:∀m∈passed,aDa m)(hr:∀r o,Qc r o->aVw r=true/\∀m∈o,aDa m):
  Step P n ⟨some d,.call {callee:=c,args:=l.toArray,argTypes:=ts},ty,pos,af,gd⟩ st (λs=>∃r objs',Qc r objs'/\s=⟨upd st.env d r,objs'++rest⟩):=by
 replace ha:=ha.symm;subst ha
 intro A M w0 a w hR K Q hK;obtain⟨vs,hrun,hvs⟩:=aFo (d:=d) (ts:=ts) (ty:=ty) (pos:=pos) (af:=af) (gd:=gd) hR hc hok;unfold Oper.wp;rw[hrun,Oper.upon_enter];have hs0:=hR.keeps.size;have hsep:=hR.inv.sep;rw[ho] at hsep;have hsp:=List.pairwise_append.1 hsep;have hin:∀m∈passed,m∈st.objs:=λm hm=>by rw[ho];exact List.mem_append.2 (.inl hm)
 have hir:∀m∈rest,m∈st.objs:=λm hm=>by rw[ho];exact List.mem_append.2 (.inr hm)
 have hlt:∀b o,A b o->b<w.heap.size:=λb o h=>Nat.lt_of_lt_of_le (hR.old b o h) hs0;have hinv0:Inv w A passed:=⟨hsp.1,λm hm=>hR.inv.apart m (hin m hm),λm hm=>hp m hm _ _ _ (hR.inv.holds m (hin m hm))⟩;have hvs':VRs w (bF A passed) args' vs:=hb.sound (λm hm=>hR.inv.holds m (hir m hm)) (λb o h=>h.imp id λ⟨m,hm,hx⟩=>⟨m,hin m hm,hx⟩) (λm hm b o hf hx=>by
  rcases hx with hx|⟨m',hm',hf'⟩
  ·exact hR.inv.apart m (hir m hm) b o hf hx
  ·exact hsp.2.2 m' hm' m hm b o hf' hf) hvs
 refine(hf A w vs hinv0 hlt hvs').mono ?_;rintro e w' ⟨v,r,objs',rfl,hk,hinv,hv,hnew,hq⟩;obtain⟨hlit,hpl⟩:=hr r objs' hq;refine hK _ _ _ ⟨r,objs',hq,rfl⟩ ?_;have hdis:∀m∈objs',∀m'∈rest,∀b o,m.foot b o->¬m'.foot b o:=by
  intro m hm m' hm' b o h1 h2
  rcases hnew m hm b o h1 with⟨q,hq',hqf⟩|h
  ·exact hsp.2.2 q hq' m' hm' b o hqf h2
  ·have:=oK (hR.inv.holds m' (hir m' hm')) h2;omega
 have hR2:R A M w0 n ⟨st.env,objs'++rest⟩ a w':=by
  refine hR.change hk (λb o ⟨m,hm,hf⟩=>⟨m,hin m hm,hf⟩) (λb o hb hx=>?_) ?_ λhm m hmm=>?_
  ·rcases qN.1 hx with⟨m,hm,hf⟩|⟨m,hm,hf⟩
   ·rcases hnew m hm b o hf with⟨m',hm',hf'⟩|h
    ·exact⟨m',hin m' hm',hf'⟩
    ·omega
   ·exact⟨m,hir m hm,hf⟩
  ·exact List.pairwise_append.2 ⟨hinv.sep,hsp.2.1,λx hx y hy b o h1 h2=>hdis x hx y hy b o h1 h2⟩
  ·rcases List.mem_append.1 hmm with h|h
   ·exact hpl m h _ _ _ (hinv.holds m h)
   ·exact bY (hR.inv.holds m (hir m h)) hk (λb o hf ⟨m',hm',hf'⟩=>hsp.2.2 m' hm' m h b o hf' hf) hm
 exact R.put (o:=⟨some d,.call {callee:=c,args:=l.toArray,argTypes:=ts},ty,pos,af,gd⟩) hR2 rfl hd (hv.litMove hlit)
def cQ{α:Type}(enc:α->List D):Option α->AV
 |none=>.d (.lit (.pointer none))
 |some x=>.cp (enc x)
theorem zN{α:Type}{enc:α->List D}{o:Option α}{a:α}{x:Operand}{ty:TypeId}{pos:String}{af:Array Edge}{gd:Option (Nat×Bool)}(hd:d<n)(hx:st.eval x=cQ enc o)(h:o=some a):
  bB P n ⟨some d,.nilCheck x,ty,pos,af,gd⟩ st (st.set d (.cp (enc a))):=by
 subst h;exact eI hd hx
theorem bIe{α:Type}{enc:α->List D}{env:Nat->AV}{objs:List MO}{k:Nat}{o:Option α}{a:α}(hk:env k=cQ enc o)(h:o=some a):Ent ⟨env,objs⟩ ⟨upd env k (.cp (enc a)),objs⟩:=
 aQn λj=>by
  by_cases hj:k=j
  ·subst hj
   right
   rw[lK,hk,h]
   rfl
  ·rw[uH _ _ hj];exact .inr rfl
end
section
variable{P:Program}{n d:Nat}{st:St}
theorem bLv{k:Nat}{rows:List (List D)}{x:Operand}{t u el ty:TypeId}{pos:String}{af:Array Edge}{gd:Option (Nat×Bool)}(hd:d<n)
  (hx:st.eval x=.d (.sl k rows))(hk:cT x=true)(ht:P.underlying t=some (.slice el)):
  Step P n ⟨some d,.binOp .eql t x (.const (.slice none 0 0)) u,ty,pos,af,gd⟩ st (λs=>∃b:Bool,(b=true->rows=[])/\s=st.set d (.b b)):=by
 intro A M w0 a w hR K Q hK;have h:=hR.eval' hk;rw[hx] at h
 generalize hu:a.eval x=v at h
 have key:∀(ad:Option Addr) (m cap:Nat),v=.slice ad m cap->(execOp a.eval ⟨some d,.binOp .eql t x (.const (.slice none 0 0)) u,ty,pos,af,gd⟩).run P w=.ok (.value (.bool ad.isNone)) w:=by
  rintro ad m cap rfl;have hb:=Lib.run_eql_slice_nil (P:=P) w t el ad m cap 0 0 ht;have hg:eqGuard .eql t x (.const (.slice none 0 0)) (.slice ad m cap) (.slice none 0 0)=pure ():=rfl;have hc:a.eval (.const (.slice none 0 0))=.slice none 0 0:=rfl;simp only[execOp,hu,hc,Sem.run_bind,Sem.run_pure,hg,hb,Result.andThen_ok]
 have fin:∀(b:Bool),(b=true->rows=[])->(execOp a.eval ⟨some d,.binOp .eql t x (.const (.slice none 0 0)) u,ty,pos,af,gd⟩).run P w=.ok (.value (.bool b)) w->Oper.wp P ⟨some d,.binOp .eql t x (.const (.slice none 0 0)) u,ty,pos,af,gd⟩ a w K Q:=by
  intro b hb hrun;unfold Oper.wp;rw[hrun,Oper.upon_value];exact hK _ _ _ ⟨b,hb,rfl⟩ (hR.put (o:=⟨some d,.binOp .eql t x (.const (.slice none 0 0)) u,ty,pos,af,gd⟩) rfl hd (.d (.lit _ rfl)))
 cases h with
 | d h=>
  generalize hd':D.sl k rows=dd at h
  cases h with
  |nil=>exact fin true (λ_=>by cases hd';rfl) (key none 0 0 rfl)
  |e0 _ ad=>exact fin false (λh=>by cases h) (key (some ad) 0 0 rfl)
  |sl _ _ b o cap f'=>exact fin false (λh=>by cases h) (key _ _ _ rfl)
  |_=>cases hd'
theorem aWu{c:Callee}{l:List Operand}{f:FuncId}{args:List AV}{e k:Nat}{rows:List (List D)}{ts:Array TypeId}{ty:TypeId}{pos:String}{af:Array Edge}{gd:Option (Nat×Bool)}(hd:d<n)
  {a0:List AV}(hc:rY P st c l f a0)(ha:a0=args)(hok:mW l=true)(hf:dX P f args [] (λr' o'=>∃w,r'=.d (.lit w)/\o'=[.arr w e k rows])):
  Step P n ⟨some d,.call {callee:=c,args:=l.toArray,argTypes:=ts},ty,pos,af,gd⟩ st (λs=>∃w,s=(st.setadd d (.d (.lit w)) (.arr w e k rows))):=by
 intro A M w0 a w hR K Q hK;refine vV hd hc ha hok hf A M w0 a w hR K Q ?_;rintro s a' w' ⟨_,_,⟨v,rfl,rfl⟩,hs⟩ hR';exact hK s a' w' ⟨v,hs⟩ hR'
end
theorem bLd{α β:Type}{f:α->β}{l:List α}(h:l.map f=[]):l=[]:=List.map_eq_nil_iff.1 h
theorem bZs{α β:Type}{enc:β->List D}{agg:Bool}{fs:List MO}(i:Nat){r ck:Nat}{bs:List Nat}{l:List (α×β)}{kv:α->Value}{av:β->AV}(ho:fs[i]?=some (.map r (l.map λp=>(kv p.1,av p.2)) bs ck))(h1:agg=false->∀v,(enc v).length=1)
  (ha:∀v,av v=aSz agg (enc v)):DV fs (.lit (.map (some r))) (.mp agg (l.map λp=>(kv p.1,enc p.2))):=by
 refine .map r bs ck agg _ (λh e he=>?_) (List.mem_of_getElem? (i:=i) ?_)
 ·obtain⟨p,_,rfl⟩:=List.mem_map.1 he;exact h1 h p.2
 ·rw[ho,List.map_map]
  congr 2
  exact List.map_congr_left λp _=>by simp[ha,aSz]
theorem bKc{P:Program}{f:FuncId}{args:List AV}{objs:List MO}{Q Q':AV->List MO->Prop}(h:dX P f args objs Q)(hq:∀r o,Q r o->Q' r o):dX P f args objs Q':=
 λA w vs h1 h2 h3=>(h A w vs h1 h2 h3).mono λ_ _ ⟨v,r,o,a,b,c,d,e,k⟩=>⟨v,r,o,a,b,c,d,e,hq r o k⟩
theorem aGt{P:Program}{f:FuncId}{args:List AV}{α:Type}{enc:α->AV}{r:α}(h:dX P f args [] (λr' o'=>∃x,x=r/\r'=enc x/\o'=[])):Fn P f args (enc r):=
 bKc h λ_ _ ⟨_,hx,h1,h2⟩=>⟨by rw[h1,hx],h2⟩
end Go.Am
end
section
namespace Go.Am
def zX(vs:List Value)(p:Int):Value:=vs.getD p.toNat yA
section
variable{P:Program}{n d:Nat}{st:St}{o:Oper}{f e k j:Nat}{vs:List Value}{v:Value}{α:Type}{g:α->List D}{c c':List (List α)}{row:List α}
theorem aVh{A M:bH}{w0:W0}{a:Act}{w:World}(hR:R A M w0 n st a w)(hf:st.objs[f]?=some (.fam e k vs (c.map λr=>r.map g))){q:Int}(hq:idx c q=some row):vs[q.toNat]?=some (zX vs q):=by
 obtain⟨hl,_⟩:=hR.inv.holds _ (List.mem_of_getElem? hf);obtain⟨h0,h1,h2⟩:=zY hq;have hlt:q.toNat<vs.length:=by simp at hl;omega
 simp[zX,List.getD,hlt]
theorem aCa{x y:Operand}{t e0 m:Nat}{v0:Value}{kd:IntKind}{p:Int}{ty:TypeId}{pos:String}{af:Array Edge}{gd:Option (Nat×Bool)}(hd:d<n)
  (hx:st.eval x=.d (.lit v0))(ho:st.objs[m]?=some (.arr v0 e0 1 (vs.map λv=>[.lit v])))(hf:st.objs[f]?=some (.fam e k vs (c.map λr=>r.map g)))(hy:st.eval y=.d (.lit (.int kd p)))(ht:gU P t e0 1)(hp:idx c p=some row):
  bB P n ⟨some d,.indexAddr t x y,ty,pos,af,gd⟩ st (st.set d (.ep v0 1 p.toNat 0)):=by
 intro A M w0 a w hR K Q hK;exact bHp hd hx ho hf hy ht hp A M w0 a w hR K Q λs a' w' ⟨_,_,hs⟩ hR'=>hK s a' w' hs hR'
theorem aDs{x:Operand}{t e0 m:Nat}{v0:Value}{p:Int}{ty:TypeId}{pos:String}{af:Array Edge}{gd:Option (Nat×Bool)}(hd:d<n)
  (hx:st.eval x=.ep v0 1 p.toNat 0)(ho:st.objs[m]?=some (.arr v0 e0 1 (vs.map λv=>[.lit v])))(hf:st.objs[f]?=some (.fam e k vs (c.map λr=>r.map g)))(hp:idx c p=some row)(ht:iF P t):
  bB P n ⟨some d,.load t x,ty,pos,af,gd⟩ st (st.set d (.d (.lit (zX vs p)))):=by
 intro A M w0 a w hR K Q hK;exact bLw hd hx ho (aVh hR hf hp) ht A M w0 a w hR K Q hK
theorem aDr{x y:Operand}{t:Nat}{a:α}{kd:IntKind}{q p:Int}{ty:TypeId}{pos:String}{af:Array Edge}{gd:Option (Nat×Bool)}(hd:d<n)
  (hx:st.eval x=.d (.lit (zX vs q)))(hf:st.objs[f]?=some (.fam e k vs (c.map λr=>r.map g)))(hq:idx c q=some row)(hy:st.eval y=.d (.lit (.int kd p)))(ht:gU P t e k)(hp:idx row p=some a):
  bB P n ⟨some d,.indexAddr t x y,ty,pos,af,gd⟩ st (st.set d (.ep (zX vs q) k p.toNat 0)):=by
 intro A M w0 a w hR K Q hK;exact bLu hd hx hf (aVh hR hf hq) hq hy ht hp A M w0 a w hR K Q hK
theorem aMx{x:Operand}{t:Nat}{a:α}{q p:Int}{j:Nat}{d0:D}{ty:TypeId}{pos:String}{af:Array Edge}{gd:Option (Nat×Bool)}(hd:d<n)
  (hx:st.eval x=.ep (zX vs q) k p.toNat j)(hf:st.objs[f]?=some (.fam e k vs (c.map λr=>r.map g)))(hq:idx c q=some row)(hp:idx row p=some a)(hj:(g a)[j]?=some d0)(ht:iF P t):
  bB P n ⟨some d,.load t x,ty,pos,af,gd⟩ st (st.set d (.d d0)):=by
 intro A M w0 a w hR K Q hK;exact bPh hd hx hf (aVh hR hf hq) hq hp hj ht A M w0 a w hR K Q hK
theorem bHr{x y:Operand}{t m:Nat}{a a':α}{q p:Int}{j:Nat}{es:List D}{u:AV}{ty:TypeId}{pos:String}{af:Array Edge}{gd:Option (Nat×Bool)}
  (hx:st.eval x=.ep (zX vs q) k p.toNat j)(hf:st.objs[f]?=some (.fam e k vs (c.map λr=>r.map g)))(hq:idx c q=some row)(hp:idx row p=some a)(hy:st.eval y=u)(hk:cT y=true)(hu:u.cells=some es)(ht:∀w,(sizeOf t).run P w=.ok m w)
  (hm:es.length=m)(hm0:0<m)(hj:j+es.length<=(g a).length)(hpa:gD (g a) j es=g a')(hc:c.set q.toNat (row.set p.toNat a')=c'):
  bB P n ⟨none,.store t x y,ty,pos,af,gd⟩ st ⟨st.env,st.objs.set f (.fam e k vs (c'.map λr=>r.map g))⟩:=by
 intro A M w0 a w hR K Q hK;exact bLz hx hf (aVh hR hf hq) hq hp hy hk hu ht hm hm0 hj hpa hc A M w0 a w hR K Q hK
end
theorem bGw{env:Nat->AV}{objs:List MO}{i e k bytes:Nat}{vs:List Value}{v:Value}{α:Type}{g:α->List D}{c c':List (List α)}{row:List α}(keepers final:List MO)
  (ho:objs=keepers++[.arr v e k (row.map g)])(hi:keepers[i]?=some (.fam e k vs (c.map λr=>r.map g)))(hb:app bytes c [row]=some c')(hfi:keepers.set i (.fam e k (vs++[v]) (c'.map λr=>r.map g))=final):
  Ent ⟨env,objs⟩ ⟨env,final⟩:=by
 subst ho;subst hfi;have hc:c'=c++[row]:=by
  unfold app at hb;split at hb
  ·exact(Option.some.inj hb).symm
  ·cases hb
 subst hc;have:=bRa (env:=env) (v:=v) (rows:=row.map g) hi
 simpa using this
theorem bXv{α:Type}{fs:List MO}(i j:Nat){v0:Value}{e0 e k:Nat}{vs:List Value}{g:α->List D}{c:List (List α)}(ho:fs[i]?=some (.arr v0 e0 1 (vs.map λv=>[.lit v])))(hf:fs[j]?=some (.fam e k vs (c.map λr=>r.map g))){h:List α->List D}(hh:∀r,h r=[.sl k (r.map g)]):
  DV fs (.lit v0) (.sl 1 (c.map h)):=by
 have e1:c.map h=(c.map λr=>r.map g).map λrows=>[.sl k rows]:=by
  rw[List.map_map];exact List.map_congr_left λr _=>hh r
 rw[e1];exact .nest v0 e0 e k vs _ (List.mem_of_getElem? ho) (List.mem_of_getElem? hf)
end Go.Am
end
