/- The program logic 'Am': maps. -/
import Derived.Test.YtiohgpipanopaaaGreatAmRes
import Derived.MapKept
import Derived.ChangeKeysEq
namespace Go.Am
def fW{α:Type}[DecidableEq α](a:α):List α->Option Nat
 |[]=>none
 |b::l=>bif decide (a=b) then some 0 else(fW a l).map (·+1)
structure wP(P:Program)(kt:TypeId){α:Type}[DecidableEq α](kv:α->Value):Prop where
 chk:∀b a w,(Instr.checkKey b 10000 kt (kv a)).run P w=.ok () w
 find:∀(a:α) (l:List α) (ms:List MapEntry) (w:World),ms.map (·.key)=l.map kv->
  (Instr.findKey kt (kv a) ms).run P w=.ok ((fW a l).bind λi=>(ms[i]?).map λe=>(i,e.val)) w
 stays:∀a w,(Instr.keyThatStays (kv a) (kv a)).run P w=.ok (kv a) w
 inj:∀a b,kv a=kv b->a=b
section
variable{P:Program}{n d:Nat}{st:St}
theorem aEm{t:TypeId}{ty:TypeId}{pos:String}{af:Array Edge}{gd:Option (Nat×Bool)}(hd:d<n):
  Step P n ⟨some d,.makeMap t none,ty,pos,af,gd⟩ st (λs=>∃r,s=⟨upd st.env d (.d (.lit (.map (some r)))),st.objs++[.map r [] [] 0]⟩):=by
 intro A M w0 a w hR K Q hK;unfold Oper.wp;have hrun:(execOp a.eval ⟨some d,.makeMap t none,ty,pos,af,gd⟩).run P w=.ok (.value (.map (some w.heap.size))) (w.alloc (.map #[] 0)):=by
  simp[execOp,Instr.makeMap]
 rw[hrun,Oper.upon_value];refine hK _ _ _ ⟨w.heap.size,rfl⟩ ?_;have hR':=hR.add (w':=w.alloc (.map #[] 0)) (m:=.map w.heap.size [] [] 0) (Keeps.alloc _ _ _)
  (λb o hf=>by simp[MO.foot] at hf;omega)
  (λhmo=>⟨#[],heap_alloc_new w _,trivial,rfl,List.Pairwise.nil,λb hb=>by simp at hb⟩)
 exact hR'.put (o:=⟨some d,.makeMap t none,ty,pos,af,gd⟩) rfl hd (.of_lit rfl)
end
theorem aKb{P:Program}{kt:TypeId}{α:Type}[DecidableEq α]{kv:α->Value}(heq:∀a b w,(Op.equal kt (kv a) (kv b)).run P w=.ok (decide (a=b)) w){a:α}{w:World}:∀{l:List α} {ms:List MapEntry} {i:Nat},ms.map (·.key)=l.map kv->
  (Instr.findAsking kt (kv a) ms i).run P w=.ok ((fW a l).bind λj=>(ms[j]?).map λe=>(i+j,e.val)) w
 |[],[],i,_=>by simp[Instr.findAsking,fW]
 | b::l,m::ms,i,h=>by
  simp only[List.map_cons,List.cons.injEq] at h;have ih:=aKb heq (a:=a) (w:=w) (i:=i+1) h.2;simp only[Instr.findAsking,Sem.run_bind,h.1,heq a b w,Result.andThen_ok,fW]
  by_cases hab:a=b
  ·simp[hab]
  ·simp only[hab,decide_false,cond_false];simp only[Bool.false_eq_true,if_false];rw[ih];cases fW a l with
   |none=>rfl
   |some j=>simp[Nat.add_assoc,Nat.add_comm 1 j]
 |[],_::_,i,h=>by simp at h
 |_::_,[],i,h=>by simp at h
theorem aGx{P:Program}{kt:TypeId}{fs:Array Field}{α:Type}[DecidableEq α]{enc:α->List D}(hu:P.underlying kt=some (.struct fs))(he:aOc P kt enc)
  (hc:∀b a w,(Instr.checkKey b 10000 kt (.agg ((enc a).map bA).toArray)).run P w=.ok () w)(hs:∀a w,(Instr.keyThatStays (.agg ((enc a).map bA).toArray) (.agg ((enc a).map bA).toArray)).run P w=.ok (.agg ((enc a).map bA).toArray) w)
  (hi:∀a b,enc a=enc b->a=b)(hl:∀a,eZ (enc a)=true):wP P kt (λa=>.agg ((enc a).map bA).toArray):=by
 have heq:∀a b w,(Op.equal kt (.agg ((enc a).map bA).toArray) (.agg ((enc b).map bA).toArray)).run P w=.ok (decide (a=b)) w:=λa b w=>he a b w;refine⟨hc,λa l ms w h=>?_,hs,λa b h=>?_⟩
 ·have hrun:=aKb (P:=P) (kt:=kt) (kv:=λa=>.agg ((enc a).map bA).toArray) heq (a:=a) (w:=w) (i:=0) h;have hnow:Instr.findNow (.struct fs) (.agg ((enc a).map bA).toArray) ms 0=none\/Instr.findNow (.struct fs) (.agg ((enc a).map bA).toArray) ms 0=some none/\ms=[]:=by
   cases ms with
   |nil=>exact .inr ⟨rfl,rfl⟩
   |cons m ms=>exact .inl (by simp[Instr.findNow,Instr.sameNow])
  rcases hnow with h1|⟨h1,rfl⟩
  ·simp only[Instr.findKey,Sem.run_bind,run_underlying hu,Result.andThen_ok,h1]
   simpa using hrun
  ·cases l with
   |nil=>simp[Instr.findKey,run_underlying hu,h1,fW]
   |cons=>simp at h
 ·have :=hl a;have:=hl b;have key:∀(x y:List D),eZ x=true->eZ y=true->x.map bA=y.map bA->x=y:=by
   intro x
   induction x with
   | nil=>intro y _ _ h;cases y with
    |nil=>rfl
    |cons=>simp at h
   | cons d x ih=>
    intro y h1 h2 h;cases y with
    |nil=>simp at h
    | cons e y=>
     cases d with
     |sl=>simp[eZ] at h1
     |sn=>simp[eZ] at h1
     |mp=>simp[eZ] at h1
     |pt=>simp[eZ] at h1
     |hv=>simp[eZ] at h1
     | lit v=>
      cases e with
      |sl=>simp[eZ] at h2
      |sn=>simp[eZ] at h2
      |mp=>simp[eZ] at h2
      |pt=>simp[eZ] at h2
      |hv=>simp[eZ] at h2
      | lit u=>
       simp only[List.map_cons,List.cons.injEq,bA] at h;rw[h.1,ih y (by simpa[eZ] using h1) (by simpa[eZ] using h2) h.2]
  exact hi a b (key _ _ (hl a) (hl b) (by simpa using h))
def bR{α β:Type}[DecidableEq α](a:α)(z:β):List (α×β)->β
 |[]=>z
 |(b,v)::l=>bif decide (a=b) then v else bR a z l
def eK{α β:Type}[DecidableEq α](a:α)(v:β):List (α×β)->List (α×β)
 |[]=>[(a,v)]
 |(b,u)::l=>bif decide (a=b) then(b,v)::l else(b,u)::eK a v l
def eB{α β:Type}[DecidableEq α](a:α):List (α×β)->Bool
 |[]=>false
 |(b,_)::l=>decide (a=b)||eB a l
theorem MRs.keys{w:World}{X:bH}:∀{es:List (Value×AV)} {ms:List MapEntry},MRs w X es ms->ms.map (·.key)=es.map (·.1)
 |[],[],_=>rfl
 |(_,_)::_,_::_,h=>by simp[h.1,MRs.keys h.2.2]
theorem MRs.get{w:World}{X:bH}:∀{es:List (Value×AV)} {ms:List MapEntry},MRs w X es ms->∀{j:Nat} {e:Value×AV},es[j]?=some e->∃m,ms[j]?=some m/\VR w X e.2 m.val
 |[],[],_,j,e,h=>by simp at h
 |(_,_)::_,m::_,h,0,e,he=>by simp at he;subst he;exact⟨m,rfl,h.2.1⟩
 |(_,_)::_,m::_,h,j+1,e,he=>by simpa using MRs.get h.2.2 (j:=j) (by simpa using he)
theorem uK{α β:Type}[DecidableEq α](a:α)(z:β):∀(l:List (α×β)),(fW a (l.map (·.1))=none/\bR a z l=z)\/∃j p,fW a (l.map (·.1))=some j/\l[j]?=some p/\bR a z l=p.2/\p.1=a
 |[]=>.inl ⟨rfl,rfl⟩
 | (b,v)::l=>by
  simp only[List.map_cons,fW,bR]
  by_cases hab:a=b
  ·exact .inr ⟨0,(b,v),by simp[hab],rfl,by simp[hab],hab.symm⟩
  ·rcases uK a z l with⟨h1,h2⟩|⟨j,p,h1,h2,h3,h4⟩
   ·exact .inl ⟨by simp[hab,h1],by simp[hab,h2]⟩
   ·exact .inr ⟨j+1,p,by simp[hab,h1],by simpa using h2,by simp[hab,h3],h4⟩
section
variable{P:Program}{n d:Nat}{st:St}
theorem eY{w:World}{r:Nat}{ms:Array MapEntry}{clock:Nat}(h:w.heap[r]?=some (.map ms clock)):(getObj r).run P w=.ok (.map ms clock) w:=by simp[getObj,Sem.run,h]
def aFd{α:Type}(kv:α->Value)(x:AV)(a:α):Prop:=∀w X u,VR w X x u->u=kv a
theorem aHt{t kt et:TypeId}{α β:Type}[DecidableEq α]{kv:α->Value}{av:β->AV}{l:List (α×β)}{z:β}{zv:Value}{a:α}{x y:Operand}{r m:Nat}{bs:List Nat}{clock:Nat}{ty:TypeId}{pos:String}{af:Array Edge}{gd:Option (Nat×Bool)}(hd:d<n)
  (hk:wP P kt kv)(ht:P.underlying t=some (.map kt et))(hz:∀w,(zeroValue et).run P w=.ok zv w)(hzv:∀w X,VR w X (av z) zv)
  (hx:st.eval x=.d (.lit (.map (some r))))(ho:st.objs[m]?=some (.map r (l.map λp=>(kv p.1,av p.2)) bs clock))(hyk:cT y=true){yv:AV}(hyv:st.eval y=yv)(hy:aFd kv yv a):
  bB P n ⟨some d,.lookup t x y false,ty,pos,af,gd⟩ st (st.set d (av (bR a z l))):=
 cO rfl hd λA M w0 ac w hR=>by
  obtain⟨ms,hh,hms,_⟩:=hR.inv.holds _ (List.mem_of_getElem? ho);have hkey:=hy _ _ _ (hyv▸hR.eval' hyk);have hkeys:ms.toList.map (·.key)=(l.map (·.1)).map kv:=by rw[hms.keys];simp
  have hf:=hk.find a (l.map (·.1)) ms.toList w hkeys
  rcases uK a z l with⟨h1,h2⟩|⟨j,p,h1,h2,h3,h4⟩
  ·refine⟨zv,?_,by rw[h2];exact hzv _ _⟩
   simp[execOp,hR.lit hx,hkey,Instr.lookup,run_underlying ht,eY hh,hk.chk,hf,h1,hz]
  ·obtain⟨e,he,hv⟩:=hms.get (j:=j) (e:=(kv p.1,av p.2)) (by simp[h2]);refine⟨e.val,?_,by rw[h3];exact hv⟩;simp only[Array.getElem?_toList] at he
   simp[execOp,hR.lit hx,hkey,Instr.lookup,run_underlying ht,eY hh,hk.chk,hf,h1,he]
end
def rD{α β:Type}[DecidableEq α](a:α)(z:β)(l:List (α×β)):List (α×β):=bif eB a l then l else l++[(a,z)]
def mbs{α β:Type}[DecidableEq α](a:α)(l:List (α×β))(bs:List Nat)(clock:Nat):List Nat:=bif eB a l then bs else bs++[clock]
def mck{α β:Type}[DecidableEq α](a:α)(l:List (α×β))(clock:Nat):Nat:=bif eB a l then clock else clock+1
def rE{α β:Type}[DecidableEq α](a:α)(l:List (α×β))(bs:List Nat)(clock:Nat):Nat:=match fW a (l.map (·.1)) with|some j=>bs.getD j 0|none=>clock
theorem pH{α β:Type}[DecidableEq α](a:α):∀(l:List (α×β)),eB a l=(fW a (l.map (·.1))).isSome
 |[]=>rfl
 | (b,v)::l=>by
  simp only[eB,List.map_cons,fW,pH a l]
  by_cases hab:a=b<;>simp[hab]
theorem Keeps.setObj(w:World)(r:Nat)(o:Obj):Keeps (λb _=>b=r) w {w with heap:=w.heap.setIfInBounds r o}:=by
 have hb:∀b,b≠r->(w.heap.setIfInBounds r o)[b]?=w.heap[b]?:=λb h=>Array.getElem?_setIfInBounds_ne (Ne.symm h);exact⟨rfl,rfl,rfl,by simp,λb _ h=>hb b (h 0),λb o _ h=>World.cell?_of_block (hb b h),λb o _ h=>World.frozen?_of_block (hb b h),Nat.le_refl _⟩
section
variable{P:Program}{n d:Nat}{st:St}
theorem qF{w:World}{r:Nat}{es:Array MapEntry}{clock:Nat}(o:Obj)(hb:w.heap[r]?=some (.map es clock)):(setObj r o).run P w=.ok () {w with heap:=w.heap.setIfInBounds r o}:=by
 simp[setObj,Sem.run,hb]
theorem MRs.snoc{w:World}{X:bH}:∀{es:List (Value×AV)} {ms:List MapEntry} {k:Value} {x:AV} {m:MapEntry},MRs w X es ms->m.key=k->VR w X x m.val->MRs w X (es++[(k,x)]) (ms++[m])
 |[],[],_,_,_,_,h1,h2=>⟨h1,h2,trivial⟩
 |(_,_)::_,_::_,_,_,_,h,h1,h2=>⟨h.1,h.2.1,MRs.snoc h.2.2 h1 h2⟩
theorem aWw{t kt et:TypeId}{α β:Type}[DecidableEq α]{kv:α->Value}{av:β->AV}{l:List (α×β)}{z:β}{zv:Value}{a:α}{x y:Operand}{r m:Nat}{bs:List Nat}{clock:Nat}{ty:TypeId}{pos:String}{af:Array Edge}{gd:Option (Nat×Bool)}(hd:d<n)
  (hk:wP P kt kv)(ht:P.underlying t=some (.map kt et))(hz:∀w,(zeroValue et).run P w=.ok zv w)(hzv:∀w X,VR w X (av z) zv)
  (hx:st.eval x=.d (.lit (.map (some r))))(ho:st.objs[m]?=some (.map r (l.map λp=>(kv p.1,av p.2)) bs clock))(hyk:cT y=true){yv:AV}(hyv:st.eval y=yv)(hy:aFd kv yv a):
  bB P n ⟨some d,.mapEntry t x y,ty,pos,af,gd⟩ st ⟨upd st.env d (.tup [av (bR a z l),.d (.lit (.int .i64 (rE a l bs clock)))]),st.objs.set m (.map r ((rD a z l).map λp=>(kv p.1,av p.2)) (mbs a l bs clock) (mck a l clock))⟩:=by
 intro A M w0 ac w hR K Q hK;obtain⟨ms,hh,hms,hb1,hb2,hb3⟩:=hR.inv.holds _ (List.mem_of_getElem? ho);have hkey:=hy _ _ _ (hyv▸hR.eval' hyk);have hkeys:ms.toList.map (·.key)=(l.map (·.1)).map kv:=by rw[hms.keys];simp
 have hf:=hk.find a (l.map (·.1)) ms.toList w hkeys;have hrl:r<w.heap.size:=(Array.getElem?_eq_some_iff.1 hh).1;unfold Oper.wp
 rcases uK a z l with⟨h1,h2⟩|⟨j,p,h1,h2,h3,h4⟩
 ·have hhas:eB a l=false:=by rw[pH,h1];rfl
  have hrun:(execOp ac.eval ⟨some d,.mapEntry t x y,ty,pos,af,gd⟩).run P w=.ok (.value (.tuple #[zv,.int .i64 clock])) {w with heap:=w.heap.setIfInBounds r (.map (ms.push {key:=kv a,val:=zv,born:=clock}) (clock+1))}:=by
   simp[execOp,hR.lit hx,hkey,Instr.mapEntry,run_underlying ht,eY hh,hk.chk,hf,h1,hz,qF _ hh,goInt]
  rw [hrun,Oper.upon_value];refine hK _ _ _ rfl ?_;have hR':=hR.replace (w':={w with heap:=w.heap.setIfInBounds r (.map (ms.push {key:=kv a,val:=zv,born:=clock}) (clock+1))}) (m':=.map r ((rD a z l).map λp=>(kv p.1,av p.2)) (mbs a l bs clock) (mck a l clock)) ho
   (Keeps.setObj w r _) (λb o hb=>by subst hb;rfl) (λb o hf=>.inl hf) λhmono=>by
    refine⟨ms.push {key:=kv a,val:=zv,born:=clock},?_,?_,?_,?_,?_⟩
    ·simp[hrl,mck,hhas]
    ·have hm2:=hms.mono hmono
     revert hm2
     generalize bF A (st.objs.set m (.map r ((rD a z l).map λp=>(kv p.1,av p.2)) (mbs a l bs clock) (mck a l clock)))=Z
     intro hm2;simp only[rD,hhas,cond_false,List.map_append,Array.toList_push];exact MRs.snoc hm2 rfl (hzv _ _)
    ·simp[mbs,hhas,hb1]
    ·simp only[mbs,hhas,cond_false];exact List.pairwise_append.2 ⟨hb2,by simp,λx hx y hy=>by simp at hy;subst hy;exact hb3 x hx⟩
    ·simp only[mbs,hhas,cond_false,mck];intro b hb
     rcases List.mem_append.1 hb with h|h
     ·have:=hb3 b h;omega
     ·simp at h;omega
  have e:rE a l bs clock=clock:=by simp[rE,h1]
  rw[h2,e];exact hR'.put (o:=⟨some d,.mapEntry t x y,ty,pos,af,gd⟩) rfl hd (.tup (us:=[_,_]) rfl λi hi=>by
   match i,hi with
   |0,_=>exact hzv _ _
   |1,_=>exact .d (.lit _ rfl))
 ·have hhas:eB a l=true:=by rw[pH,h1];rfl
  obtain⟨e,he,hv⟩:=hms.get (j:=j) (e:=(kv p.1,av p.2)) (by simp[h2]);have he':ms[j]?=some e:=by simpa using he
  have hke:e.key=kv a:=by
   have:=congrArg (λq=>q[j]?) hkeys
   simp[he',h2,h4] at this
   exact this
  have hmod:ms.modify j (λe=>{e with key:=kv a})=ms:=by
   apply Array.ext_getElem?;intro q;rw[Array.getElem?_modify]
   split
   ·rename_i hq;subst hq;rw[he'];simp[<-hke]
   ·rfl
  have hset:w.heap.setIfInBounds r (.map ms clock)=w.heap:=by
   apply Array.ext_getElem?;intro q;rw[Array.getElem?_setIfInBounds]
   split
   ·rename_i hq;cases hq;rw[hh]
   ·rfl
  have hrun:(execOp ac.eval ⟨some d,.mapEntry t x y,ty,pos,af,gd⟩).run P w=.ok (.value (.tuple #[e.val,.int .i64 e.born])) w:=by
   simp[execOp,hR.lit hx,hkey,Instr.mapEntry,run_underlying ht,eY hh,hk.chk,hf,h1,he',hke,hk.stays,hmod,qF _ hh,goInt,hset]
  rw[hrun,Oper.upon_value];refine hK _ _ _ rfl ?_;have e1:rE a l bs clock=e.born:=by simp[rE,h1,<-hb1,List.getD,he]
  have e2:st.objs.set m (.map r ((rD a z l).map λp=>(kv p.1,av p.2)) (mbs a l bs clock) (mck a l clock))=st.objs:=by
   simp only[rD,mbs,mck,hhas,cond_true];apply List.ext_getElem?;intro q;rw[List.getElem?_set]
   split
   ·rename_i hq;subst hq;rw[ho];simp;have:=(List.getElem?_eq_some_iff.1 ho).1;omega
   ·rfl
  rw[h3,e1,e2];exact hR.put (o:=⟨some d,.mapEntry t x y,ty,pos,af,gd⟩) rfl hd (.tup (us:=[_,_]) rfl λi hi=>by
   match i,hi with
   |0,_=>exact hv
   |1,_=>exact .d (.lit _ rfl))
end
theorem aVt{α:Type}[DecidableEq α](a:α):∀(l:List α),fW a l=none->fW a (l++[a])=some l.length
 |[],_=>by simp[fW]
 | b::l,h=>by
  simp only[fW] at h
  by_cases hab:a=b
  ·simp[hab] at h
  ·simp[hab] at h
   simp[fW,hab,aVt a l h]
theorem bOg{α β:Type}[DecidableEq α](a:α)(z:β)(l:List (α×β))(bs:List Nat)(clock:Nat)(hl:bs.length=l.length):
  ∃j,fW a ((rD a z l).map (·.1))=some j/\(mbs a l bs clock)[j]?=some (rE a l bs clock):=by
 cases h:fW a (l.map (·.1)) with
 | none=>
  have hh:eB a l=false:=by rw[pH,h];rfl
  refine⟨l.length,?_,?_⟩
  ·simp only[rD,hh,cond_false,List.map_append,List.map_cons,List.map_nil];have:=aVt a _ h
   simpa using this
  ·simp[mbs,hh,rE,h,<-hl]
 | some j=>
  have hh:eB a l=true:=by rw[pH,h];rfl
  refine⟨j,by simp[rD,hh,h],?_⟩
  rcases uK a z l with⟨h1,_⟩|⟨j',p,h1,h2,_⟩
  ·rw[h] at h1;cases h1
  ·rw[h] at h1;cases h1;have hj:=(List.getElem?_eq_some_iff.1 h2).1
   simp[mbs,hh,rE,h,List.getD,List.getElem?_eq_getElem (show j<bs.length by omega)]
theorem aYg{α β:Type}[DecidableEq α](a:α)(v:β):∀(l:List (α×β)) (j:Nat),fW a (l.map (·.1))=some j->eK a v l=l.set j (a,v)
 |[],j,h=>by simp[fW] at h
 | (b,u)::l,j,h=>by
  simp only[List.map_cons,fW] at h
  by_cases hab:a=b
  ·simp[hab] at h;subst h;simp[eK,hab]
  ·simp[hab] at h
   obtain⟨i,hi,rfl⟩:=h
   simp[eK,hab,aYg a v l i hi]
theorem bOk{α β:Type}[DecidableEq α](a:α)(v z:β)(l:List (α×β)):eK a v (rD a z l)=eK a v l:=by
 cases h:eB a l with
 |true=>simp[rD,h]
 | false=>
  simp only[rD,h,cond_false]
  induction l with
  |nil=>simp[eK]
  | cons p l ih=>
   obtain⟨b,u⟩:=p;simp only[eB,Bool.or_eq_false_iff,decide_eq_false_iff_not] at h
   simp[eK,h.1,ih h.2]
theorem MRs.set{w:World}{X:bH}:∀{es:List (Value×AV)} {ms:List MapEntry} {j:Nat} {k:Value} {x:AV} {u:Value},MRs w X es ms->(es[j]?).map (·.1)=some k->VR w X x u->
  MRs w X (es.set j (k,x)) (ms.modify j λe=>{e with val:=u})
 |[],[],_,_,_,_,_,_,_=>by simp;trivial
 | (k0,x0)::es,m::ms,0,k,x,u,h,hk,hv=>by
  simp at hk;subst hk
  simp only[List.set_cons_zero,List.modify_zero_cons];exact⟨h.1,hv,h.2.2⟩
 | (k0,x0)::es,m::ms,j+1,k,x,u,h,hk,hv=>by
  simp only[List.set_cons_succ,List.modify_succ_cons];exact⟨h.1,h.2.1,MRs.set h.2.2 (by simpa using hk) hv⟩
section
variable{P:Program}{n d:Nat}{st:St}
theorem bFt{t:TypeId}{α β:Type}[DecidableEq α]{kv:α->Value}{av:β->AV}{l:List (α×β)}{v:β}{a:α}{x y q:Operand}{r m j:Nat}{bs:List Nat}{clock b:Nat}{ty:TypeId}{pos:String}{af:Array Edge}{gd:Option (Nat×Bool)}
  (hx:st.eval x=.d (.lit (.map (some r))))(ho:st.objs[m]?=some (.map r (l.map λp=>(kv p.1,av p.2)) bs clock))(hq:st.eval q=.d (.lit (.int .i64 b)))
  (hyk:cT y=true)(hy:st.eval y=av v)(hj:fW a (l.map (·.1))=some j)(hb:bs[j]?=some b):
  bB P n ⟨none,.entryStore t x q y,ty,pos,af,gd⟩ st ⟨st.env,st.objs.set m (.map r ((eK a v l).map λp=>(kv p.1,av p.2)) bs clock)⟩:=by
 intro A M w0 ac w hR K Q hK;obtain⟨ms,hh,hms,hb1,hb2,hb3⟩:=hR.inv.holds _ (List.mem_of_getElem? ho);have hv:=hR.eval' hyk;rw[hy] at hv;have hrl:r<w.heap.size:=(Array.getElem?_eq_some_iff.1 hh).1;have hjl:(l[j]?).map (·.1)=some a:=by
  clear hb hb1 hb2 hb3 hms ho hK
  induction l generalizing j with
  |nil=>simp[fW] at hj
  | cons p l ih=>
   simp only[List.map_cons,fW] at hj
   by_cases hab:a=p.1
   ·simp[hab] at hj;subst hj;simp[hab]
   ·simp[hab] at hj
    obtain⟨i,hi,rfl⟩:=hj
    simpa using ih hi
 have hmj:(ms.toList[j]?).map (·.born)=some b:=by rw[<-hb1] at hb;simpa using hb
 have hfind:ms.findIdx? (λe=>(e.born:Int)==b)=some j:=by
  have hjm:j<ms.size:=by
   rw[Array.getElem?_toList] at hmj;cases h:ms[j]? with
   |none=>rw[h] at hmj;simp at hmj
   |some e=>exact(Array.getElem?_eq_some_iff.1 h).1
  rw[Array.findIdx?_eq_some_iff_findIdx_eq];refine⟨hjm,?_⟩;rw[Array.findIdx_eq hjm];have hbj:ms[j].born=b:=by
   rw[Array.getElem?_toList,Array.getElem?_eq_getElem hjm] at hmj
   simpa using hmj
  refine⟨by simp[hbj],λi hi=>?_⟩;have hpw:=List.pairwise_iff_getElem.1 hb2;have h1:i<bs.length:=by rw[<-hb1];simp;omega
  have h2:j<bs.length:=by rw[<-hb1];simp;omega
  have:=hpw i j h1 h2 hi;have e1:bs[i]=ms[i].born:=by simp[<-hb1]
  have e2:bs[j]=ms[j].born:=by simp[<-hb1]
  rw[e1,e2,hbj] at this
  simp;omega
 unfold Oper.wp;have hrun:(execOp ac.eval ⟨none,.entryStore t x q y,ty,pos,af,gd⟩).run P w=.ok .skip {w with heap:=w.heap.setIfInBounds r (.map (ms.modify j λe=>{e with val:=ac.eval y}) clock)}:=by
  simp[execOp,hR.lit hx,hR.lit hq,Instr.entryStore,eY hh,asInt,asIntOf,hfind,qF _ hh]
 rw [hrun,Oper.upon_skip];refine hK _ _ _ rfl ?_;have hR':=hR.replace (w':={w with heap:=w.heap.setIfInBounds r (.map (ms.modify j λe=>{e with val:=ac.eval y}) clock)}) (m':=.map r ((eK a v l).map λp=>(kv p.1,av p.2)) bs clock) ho
  (Keeps.setObj w r _) (λb o hb=>by subst hb;rfl) (λb o hf=>.inl hf) λhmono=>by
   refine⟨ms.modify j λe=>{e with val:=ac.eval y},by simp[hrl],?_,?_,hb2,hb3⟩
   ·have hm2:=hms.mono hmono;have hv2:=hv.mono hmono
    revert hm2 hv2
    generalize bF A (st.objs.set m (.map r ((eK a v l).map λp=>(kv p.1,av p.2)) bs clock))=Z
    intro hm2 hv2;rw[aYg a v l j hj,List.map_set,Array.toList_modify];refine MRs.set hm2 ?_ hv2;simp only[List.getElem?_map,Option.map_map];cases hl:l[j]? with
    |none=>rw[hl] at hjl;cases hjl
    |some p=>rw[hl] at hjl;simp at hjl|-;rw[hjl]
   ·rw[<-hb1,Array.toList_modify];apply List.ext_getElem?;intro i;simp only[List.getElem?_map,List.getElem?_modify];cases ms.toList[i]? with
    |none=>simp
    |some e=>simp;split<;>rfl
 exact hR'.put_none rfl
end
def bFg:Value->Bool
 | .int _ _| .bool _| .string _=>true
 |_=>false
theorem aYu(n:Nat)(v:Value)(h:bFg v=true):Instr.sameBits n v v=true:=by
 have hs:∀s:ByteArray,(s==s)=true:=λs=>by
  obtain⟨d⟩:=s;show(d==d)=true
  simp
 cases n<;>cases v<;>simp_all[Instr.sameBits,bFg]
theorem aTk(vs:List Value)(h:vs.all bFg=true)(P:Program)(w:World):(Instr.keyThatStays (.agg vs.toArray) (.agg vs.toArray)).run P w=.ok (.agg vs.toArray) w:=by
 have:Instr.sameBits 10000 (.agg vs.toArray) (.agg vs.toArray)=true:=by
  rw[show(10000:Nat)=9999+1 from rfl];simp only[Instr.sameBits,BEq.rfl,Bool.true_and]
  generalize(9999:Nat)=n
  induction vs with
  |nil=>rfl
  | cons v vs ih=>
   simp only[List.all_cons,Bool.and_eq_true] at h;have:=ih h.2
   simp_all[aYu n v h.1]
 simp[Instr.keyThatStays,this]
theorem bRy(k:IntKind)(a:Int)(P:Program)(w:World):(Instr.keyThatStays (.int k a) (.int k a)).run P w=.ok (.int k a) w:=by
 simp[Instr.keyThatStays,Instr.sameBits]
theorem aRs{k:IntKind}(a:Int):∀(l:List Int) (ms:List MapEntry) (i:Nat),ms.map (·.key)=l.map (λn=>Value.int k n)->
  Instr.findNow (.int k) (.int k a) ms i=some ((fW a l).bind λj=>(ms[j]?).map λe=>(i+j,e.val))
 |[],[],_,_=>by simp[Instr.findNow,fW]
 | b::l,m::ms,i,h=>by
  simp only[List.map_cons,List.cons.injEq] at h;simp only[Instr.findNow,h.1,Instr.sameNow,if_true,fW];have ih:=aRs (k:=k) a l ms (i+1) h.2
  by_cases hab:a=b
  ·simp[hab]
  ·have e:(a==b)=false:=by simpa using hab
   simp only[e,hab,decide_false,cond_false];rw[ih];cases fW a l with
   |none=>rfl
   |some j=>simp[Nat.add_assoc,Nat.add_comm 1 j]
 |[],_::_,_,h=>by simp at h
 |_::_,[],_,h=>by simp at h
theorem bNv{P:Program}{kt:TypeId}{k:IntKind}(hu:P.underlying kt=some (.int k)):wP P kt (λn:Int=>.int k n) where
 chk b a w:=by
  rw[show(10000:Nat)=9999+1 from rfl]
  generalize(9999:Nat)=m
  simp only[Instr.checkKey,Sem.run_bind,run_underlying hu,Result.andThen_ok]
  rfl
 find a l ms w h:=by simp[Instr.findKey,run_underlying hu,aRs a l ms 0 h]
 stays a w:=bRy k a P w
 inj a b h:=by simpa using h
theorem bOh{α β:Type}[DecidableEq α](a:α)(z:β)(l:List (α×β)):bR a z (rD a z l)=bR a z l:=by
 cases h:eB a l with
 |true=>simp[rD,h]
 | false=>
  simp only[rD,h,cond_false]
  induction l with
  |nil=>simp[bR]
  | cons p l ih=>
   obtain⟨b,u⟩:=p;simp only[eB,Bool.or_eq_false_iff,decide_eq_false_iff_not] at h
   simp[bR,h.1,ih h.2]
theorem mF{α:Type}{enc:α->List D}(a:α)(hl:eZ (enc a)=true):aFd (λa=>.agg ((enc a).map bA).toArray) (.agg (enc a)) a:=by
 intro w X u h;cases h with
 | agg h=>
  rename_i cs
  have:=aMc hl h;have:cs=((enc a).map bA).toArray:=by rw[<-this]
  rw[this]
theorem aPf{α:Type}{kv:α->Value}(a:α):aFd kv (.d (.lit (kv a))) a:=λ_ _ _ h=>h.lit
theorem og2{S:Nat->Bool}{objs:List MO}{i e:Nat}{m m':MO}(h:objs[i]?=some (wL S [(e,m')] m)):objs[i]?=some m\/objs[i]?=some m':=by
 rw[h];simp only[wL];cases S e<;>simp
section
variable{P:Program}{n d:Nat}{st:St}
theorem bBb{t kt et:TypeId}{α β:Type}[DecidableEq α]{kv:α->Value}{av:β->AV}{l:List (α×β)}{z:β}{zv:Value}{a:α}{x y:Operand}{r m:Nat}{bs bs':List Nat}{clock clock':Nat}{ty:TypeId}{pos:String}{af:Array Edge}{gd:Option (Nat×Bool)}(hd:d<n)
  (hk:wP P kt kv)(ht:P.underlying t=some (.map kt et))(hz:∀w,(zeroValue et).run P w=.ok zv w)(hzv:∀w X,VR w X (av z) zv)
  (hx:st.eval x=.d (.lit (.map (some r))))(ho:st.objs[m]?=some (.map r (l.map λp=>(kv p.1,av p.2)) bs clock)\/st.objs[m]?=some (.map r ((rD a z l).map λp=>(kv p.1,av p.2)) bs' clock'))
  (hyk:cT y=true){yv:AV}(hyv:st.eval y=yv)(hy:aFd kv yv a):
  bB P n ⟨some d,.lookup t x y false,ty,pos,af,gd⟩ st (st.set d (av (bR a z l))):=by
 rcases ho with ho|ho
 ·exact aHt hd hk ht hz hzv hx ho hyk hyv hy
 ·rw[<-bOh];exact aHt hd hk ht hz hzv hx ho hyk hyv hy
theorem aNs{t:TypeId}{α β:Type}[DecidableEq α]{kv:α->Value}{av:β->AV}{l:List (α×β)}{z v:β}{a:α}{x y q:Operand}{r m:Nat}{bs:List Nat}{clock clock':Nat}{ty:TypeId}{pos:String}{af:Array Edge}{gd:Option (Nat×Bool)}
  (hx:st.eval x=.d (.lit (.map (some r))))(ho:st.objs[m]?=some (.map r ((rD a z l).map λp=>(kv p.1,av p.2)) (mbs a l bs clock) clock'))(hq:st.eval q=.d (.lit (.int .i64 (rE a l bs clock))))
  (hyk:cT y=true)(hy:st.eval y=av v):
  bB P n ⟨none,.entryStore t x q y,ty,pos,af,gd⟩ st ⟨st.env,st.objs.set m (.map r ((eK a v l).map λp=>(kv p.1,av p.2)) (mbs a l bs clock) clock')⟩:=by
 intro A M w0 ac w hR K Q hK;obtain⟨ms,hh,hms,hb1,_⟩:=hR.inv.holds _ (List.mem_of_getElem? ho);have hlen:bs.length=l.length:=by
  have h1:(mbs a l bs clock).length=(rD a z l).length:=by
   rw[<-hb1];have:=congrArg List.length hms.keys
   simpa using this
  cases h:eB a l<;>simpa[mbs,rD,h] using h1
 obtain⟨j,hj,hb⟩:=bOg a z l bs clock hlen;have:=bFt (P:=P) (n:=n) (t:=t) (ty:=ty) (pos:=pos) (af:=af) (gd:=gd) hx ho hq hyk hy hj hb;rw[bOk] at this;exact this A M w0 ac w hR K Q hK
end
end Go.Am
