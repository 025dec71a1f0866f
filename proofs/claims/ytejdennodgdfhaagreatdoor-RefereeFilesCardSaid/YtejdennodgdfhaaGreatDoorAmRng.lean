/- The program logic 'Am': ranges over strings. -/
import Derived.Test.YtejdennodgdfhaaGreatDoorAmSortF0
import Derived.Test.YtejdennodgdfhaaGreatDoorAmNd
import Derived.Laws.RangeString
namespace Go.Am
def xR(r:Nat)(a:Str)(p:Nat):MO:=.ext (λb _=>b=r) (λw _=>w.heap[r]?=some (.stringIter ⟨a.toArray⟩ p))
theorem aNx[Mode]{w:World}{X:bE}{r p:Nat}{a:Str}(h:w.heap[r]?=some (.stringIter ⟨a.toArray⟩ p)):(xR r a p).holds w X:=by
 have hr:r<w.heap.size:=(Array.getElem?_eq_some_iff.1 h).1;refine⟨λb o hb=>by cases hb;exact hr,λw' X' _ hk=>?_⟩;show w'.heap[r]?=_;rw[hk.block r hr (λo ho=>ho rfl),h]
theorem aVp[Mode]{w:World}{X:bE}{r p:Nat}{a:Str}(h:(xR r a p).holds w X):w.heap[r]?=some (.stringIter ⟨a.toArray⟩ p):=h.2 w X (Mono.refl _ _) (Keeps.refl _ _)
theorem bCt{P:Program}{w:World}{q p:Nat}{s:ByteArray}(h:w.heap[q]?=some (.stringIter s p)):(getObj q).run P w=.ok (.stringIter s p) w:=by
 simp[getObj,Sem.run,h]
theorem bIz{P:Program}{w:World}{q p p':Nat}{s:ByteArray}(h:w.heap[q]?=some (.stringIter s p)):(setObj q (.stringIter s p')).run P w=.ok () (ChangeMaps.setBlock w q (.stringIter s p')):=by
 simp[setObj,Sem.run,h,ChangeMaps.setBlock]
section
variable{P:Program}{n d:Nat}{st:St}{x:Operand}{t ty:TypeId}{pos:String}{af:Array Edge}{gd:Option (Nat×Bool)}{a:Str}
theorem bMq[Mode](hd:d<n)(ht:P.underlying t=some .string)(hx:st.eval x=.d (.lit (sv a))):
  Step P n ⟨some d,.range t x,ty,pos,af,gd⟩ st (λs=>∃r,s=⟨upd st.env d (.d (.lit (.pointer (some ⟨r,0,none⟩)))),st.objs++[xR r a 0]⟩):=by
 intro A M w0 ac w hR K Q hK;have hrun:(execOp ac.eval ⟨some d,.range t x,ty,pos,af,gd⟩).run P w=.ok (.value (.pointer (some ⟨w.heap.size,0,none⟩))) (w.alloc (.stringIter ⟨a.toArray⟩ 0)):=by
  simp only[execOp,hR.lit hx,sv,Sem.run_bind,run_range_string w t _ ht]
  rfl
 unfold Oper.wp;rw[hrun,Oper.upon_value];refine hK _ _ _ ⟨w.heap.size,rfl⟩ ?_;have hR':=hR.add (w':=w.alloc (.stringIter ⟨a.toArray⟩ 0)) (m:=xR w.heap.size a 0) (Keeps.alloc _ _ _) (λb o hf=>by cases hf;exact Nat.le_refl _) (λhm=>aNx (heap_alloc_new w _));exact hR'.put (o:=⟨some d,.range t x,ty,pos,af,gd⟩) rfl hd (.of_lit rfl)
theorem bBn[Mode]{q m p:Nat}(hd:d<n)(hx:st.eval x=.d (.lit (.pointer (some ⟨q,0,none⟩))))(ho:st.objs[m]?=some (xR q a p))(hp:¬p<a.length):
  aY P n ⟨some d,.next x true,ty,pos,af,gd⟩ st (st.set d (.tup [.d (.lit (.bool false))])):=
 cA rfl hd λA M w0 ac w hR=>by
  have hq:=aVp (hR.inv.holds _ (List.mem_of_getElem? ho));refine⟨.tuple #[.bool false],?_,.tup (us:=[_]) rfl λi hi=>by
   match i,hi with
   |0,_=>exact .d (.lit _ rfl)⟩
  have hp':¬p<(⟨a.toArray⟩:ByteArray).size:=by rw[jP];exact hp
  have h1:(Instr.next (.pointer (some ⟨q,0,none⟩)) true ty).run P w=.ok (.tuple #[.bool false]) w:=by
   simp only[Instr.next,Sem.run_bind,bCt hq,Result.andThen,if_neg hp']
   rfl
  simp only[execOp,hR.lit hx,Sem.run_bind,h1]
  rfl
theorem bQb[Mode]{q m p:Nat}{c:UInt8}(hd:d<n)(hx:st.eval x=.d (.lit (.pointer (some ⟨q,0,none⟩))))(ho:st.objs[m]?=some (xR q a p))(hp:a[p]?=some c):
  Step P n ⟨some d,.next x true,ty,pos,af,gd⟩ st (λs=>∃(u:Int) (p':Nat),(c.toNat<128->u=c.toNat/\p'=p+1)/\(128<=c.toNat->128<=u)/\
   s=⟨upd st.env d (.tup [.d (.lit (.bool true)),.d (.lit (.int .i64 p)),.d (.lit (.int .i32 u))]),st.objs.set m (xR q a p')⟩):=by
 intro A M w0 ac w hR K Q hK;have hq:=aVp (hR.inv.holds _ (List.mem_of_getElem? ho));have hpl:p<a.length:=(List.getElem?_eq_some_iff.1 hp).1;have hps:p<(⟨a.toArray⟩:ByteArray).size:=by rw[jP];exact hpl
 have hrun:(execOp ac.eval ⟨some d,.next x true,ty,pos,af,gd⟩).run P w=.ok (.value (.tuple #[.bool true,.int .i64 p,.int .i32 (Utf8.decode ⟨a.toArray⟩ p).1])) (ChangeMaps.setBlock w q (.stringIter ⟨a.toArray⟩ (p+(Utf8.decode ⟨a.toArray⟩ p).2))):=by
  have h1:(Instr.next (.pointer (some ⟨q,0,none⟩)) true ty).run P w=.ok (.tuple #[.bool true,.int .i64 p,.int .i32 (Utf8.decode ⟨a.toArray⟩ p).1]) (ChangeMaps.setBlock w q (.stringIter ⟨a.toArray⟩ (p+(Utf8.decode ⟨a.toArray⟩ p).2))):=by
   simp only[Instr.next,Sem.run_bind,bCt hq,Result.andThen,if_pos hps,bIz hq]
   rfl
  simp only[execOp,hR.lit hx,Sem.run_bind,h1]
  rfl
 unfold Oper.wp;rw[hrun,Oper.upon_value];have hget:(⟨a.toArray⟩:ByteArray).get! (p+0)=c:=by
  have hp2:a[p]=c:=by rw[List.getElem?_eq_getElem hpl] at hp;exact Option.some.inj hp
  show(⟨a.toArray⟩:ByteArray).get! p=c
  simp[ByteArray.get!,hpl,hp2]
 refine hK _ _ _ ⟨((Utf8.decode ⟨a.toArray⟩ p).1:Nat),p+(Utf8.decode ⟨a.toArray⟩ p).2,λhc=>?_,λhc=>?_,rfl⟩ ?_
 ·constructor<;>simp only[Utf8.decode,hget,if_pos hc]
 ·have hn:¬c.toNat<128:=by omega
  simp only[Utf8.decode,hget,if_neg hn]
  repeat' split
  all_goals simp[Utf8.runeError] at*
  all_goals omega
 ·have hk:Keeps (λb _=>b=q) w (ChangeMaps.setBlock w q (.stringIter ⟨a.toArray⟩ (p+(Utf8.decode ⟨a.toArray⟩ p).2))):=Keeps.setObj _ _ _;have hR':=hR.replace (m':=xR q a (p+(Utf8.decode ⟨a.toArray⟩ p).2)) ho hk (λb o hb=>by subst hb;rfl) (λb o hf=>.inl hf) λhm=>aNx (by
   have hql:q<w.heap.size:=(Array.getElem?_eq_some_iff.1 hq).1
   simp[ChangeMaps.setBlock,hql])
  exact hR'.put (o:=⟨some d,.next x true,ty,pos,af,gd⟩) rfl hd (.tup (us:=[_,_,_]) rfl λi hi=>by
   match i,hi with
   |0,_=>exact .d (.lit _ rfl)
   |1,_=>exact .d (.lit _ rfl)
   |2,_=>exact .d (.lit _ rfl))
end
end Go.Am
