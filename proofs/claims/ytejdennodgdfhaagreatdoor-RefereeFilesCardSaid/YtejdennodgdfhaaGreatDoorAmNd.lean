/- Several texts, one behind the other. -/
import Derived.Test.YtejdennodgdfhaaGreatDoorAmFam
import Derived.Maps.RangeRun
section
namespace Go.Am
def jY{α:Type}(l:List α)(bs seen:List Nat):List α:=((l.zip bs).filter λq=>!seen.contains q.2).map (·.1)
theorem aUy{α:Type}{l:List α}{bs:List Nat}(h:bs.length=l.length):jY l bs []=l:=by
 unfold jY;have:(l.zip bs).filter (λq=>!([]:List Nat).contains q.2)=l.zip bs:=by rw[List.filter_eq_self];intro q _;simp
 rw[this,List.map_fst_zip (by omega)]
theorem aQv{α:Type}:∀{l:List α} {bs seen:List Nat} {j b:Nat} {p:α},bs.Pairwise (·<·)->l[j]?=some p->bs[j]?=some b->b∉seen->
  ∃i,(jY l bs seen)[i]?=some p/\jY l bs (seen++[b])=(jY l bs seen).eraseIdx i
 |[],_,_,j,_,_,_,h,_,_=>by simp at h
 |_::_,[],_,j,_,_,_,_,h,_=>by simp at h
 | a ::l,c::bs,seen,0,b,p,hp,hl,hb,hs=>by
  simp at hl hb
  subst hl;subst hb;rw[List.pairwise_cons] at hp;refine⟨0,?_,?_⟩
  ·simp[jY,hs]
  ·have e1:∀q∈l.zip bs,(!(seen++[c]).contains q.2)=!seen.contains q.2:=by
    intro q hq;have:=hp.1 q.2 (List.of_mem_zip hq).2;have hne:q.2≠c:=by omega
    simp[hne]
   simp only[jY,List.zip_cons_cons,List.filter_cons];rw[List.filter_congr e1]
   simp[hs]
 | a::l,c::bs,seen,j+1,b,p,hp,hl,hb,hs=>by
  rw[List.pairwise_cons] at hp
  simp at hl hb
  obtain⟨i,h1,h2⟩:=aQv (seen:=seen) hp.2 hl hb hs;have hcb:c≠b:=by
   have:=hp.1 b (List.mem_of_getElem? hb)
   omega
  have ec:(seen++[b]).contains c=seen.contains c:=by simp[hcb]
  have cons:∀s:List Nat,jY (a::l) (c::bs) s=bif s.contains c then jY l bs s else a::jY l bs s:=by
   intro s;unfold jY;rw[List.zip_cons_cons,List.filter_cons];cases s.contains c<;>rfl
  rw[cons seen,cons (seen++[b]),ec];cases seen.contains c with
  |true=>exact⟨i,h1,h2⟩
  |false=>exact⟨i+1,by simpa using h1,by simp[h2]⟩
def aRb{α:Type}(left:List α)(A:Prop)(B:α->List α->Prop):Prop:=(left=[]->A)/\∀i p,left[i]?=some p->B p (left.eraseIdx i)
def yR{α:Type}(l:List α)(f:List α->Prop):Prop:=f l
theorem aDc{α:Type}{l:List α}{bs:List Nat}{f:List α->Prop}(h:yR l f)(hl:jY l bs []=l):f (jY l bs []):=by rw[hl];exact h
theorem aFj{α:Type}{l:List α}{bs seen:List Nat}{j b:Nat}{p:α}{A:Prop}{B:α->List α->Prop}(h:aRb (jY l bs seen) A B)(hp:bs.Pairwise (·<·)/\l[j]?=some p/\bs[j]?=some b/\b∉seen):B p (jY l bs (seen++[b])):=by
 obtain⟨i,h1,h2⟩:=aQv hp.1 hp.2.1 hp.2.2.1 hp.2.2.2;rw[h2];exact h.2 i p h1
theorem MRs.len{w:World}{X:bE}{es:List (Value×AV)}{ms:List MapEntry}(h:MRs w X es ms):ms.length=es.length:=by
 have:=congrArg List.length h.keys
 simpa using this
section
variable{P:Program}{n d:Nat}{st:St}
theorem bCw[Mode]{t kt et:TypeId}{α:Type}{l:List α}{f:α->Value×AV}{x:Operand}{r m:Nat}{bs:List Nat}{ck:Nat}{ty:TypeId}{pos:String}{af:Array Edge}{gd:Option (Nat×Bool)}(hd:d<n)
  (ht:P.underlying t=some (.map kt et))(hx:st.eval x=.d (.lit (.map (some r))))(ho:st.objs[m]?=some (.map r (l.map f) bs ck)):
  Step P n ⟨some d,.range t x,ty,pos,af,gd⟩ st (λs=>∃q,jY l bs []=l/\s=⟨upd st.env d (.d (.lit (.pointer (some ⟨q,0,none⟩)))),st.objs++[.iter q r ck [] ck]⟩):=by
 intro A M w0 ac w hR K Q hK;obtain⟨ms,hh,hms,hb1,hb2,hb3⟩:=hR.inv.holds _ (List.mem_of_getElem? ho);have hrun:(execOp ac.eval ⟨some d,.range t x,ty,pos,af,gd⟩).run P w=.ok (.value (.pointer (some ⟨w.heap.size,0,none⟩))) (w.alloc (.mapIter (some r) ck #[] ck)):=by
  simp[execOp,hR.lit hx,Instr.range,run_underlying ht,dF hh]
 have hlen:bs.length=l.length:=by rw[<-hb1,List.length_map,hms.len,List.length_map]
 unfold Oper.wp;rw[hrun,Oper.upon_value];refine hK _ _ _ ⟨w.heap.size,aUy hlen,rfl⟩ ?_;have hR':=hR.add (w':=w.alloc (.mapIter (some r) ck #[] ck)) (m:=.iter w.heap.size r ck [] ck) (Keeps.alloc _ _ _) (λb o hf=>by simp[MO.foot] at hf;omega) (λhm=>by
  show(w.alloc (.mapIter (some r) ck #[] ck)).heap[w.heap.size]?=_;exact heap_alloc_new w _)
 exact hR'.put (o:=⟨some d,.range t x,ty,pos,af,gd⟩) rfl hd (.of_lit rfl)
theorem aYp[Mode]{A M:bE}{w0:W0}{a:Act}{w w1:World}{mi r m ck b:Nat}{seen:List Nat}(hR:R A M w0 n st a w)(ho:st.objs[mi]?=some (.iter r m ck seen ck))(hw:w1=w\/w1=w.drew):
  R A M w0 n ⟨st.env,st.objs.set mi (.iter r m ck (seen++[b]) ck)⟩ a (ChangeMaps.setBlock w1 r (.mapIter (some m) ck (seen.toArray.push b) ck)):=by
 have hh:w.heap[r]?=some (.mapIter (some m) ck seen.toArray ck):=hR.inv.holds _ (List.mem_of_getElem? ho);have hrl:r<w.heap.size:=(Array.getElem?_eq_some_iff.1 hh).1;have hk:Keeps (λb _=>b=r) w (ChangeMaps.setBlock w1 r (.mapIter (some m) ck (seen.toArray.push b) ck)):=by
  rcases hw with rfl|rfl
  ·exact Keeps.setObj _ _ _
  ·exact(Keeps.drew _ _).trans (Keeps.setObj w.drew _ _)
 refine hR.replace (m':=.iter r m ck (seen++[b]) ck) ho hk (λb o hb=>by subst hb;rfl) (λb o hf=>.inl hf) λhm=>?_;show(ChangeMaps.setBlock w1 r (.mapIter (some m) ck (seen.toArray.push b) ck)).heap[r]?=_;have hrl1:r<w1.heap.size:=by rcases hw with rfl|rfl<;>exact hrl
 simp[ChangeMaps.setBlock,hrl1]
theorem bJe[Mode]{α β:Type}{kv:α->Value}{av:β->AV}{l:List (α×β)}{x:Operand}{q r mi mm:Nat}{bs seen:List Nat}{ck:Nat}{ty:TypeId}{pos:String}{af:Array Edge}{gd:Option (Nat×Bool)}(hd:d<n)
  (hx:st.eval x=.d (.lit (.pointer (some ⟨q,0,none⟩))))(hi:st.objs[mi]?=some (.iter q r ck seen ck))(ho:st.objs[mm]?=some (.map r (l.map λp=>(kv p.1,av p.2)) bs ck)):
  Step P n ⟨some d,.next x false,ty,pos,af,gd⟩ st (λs=>(jY l bs seen=[]/\s=st.set d (.tup [.d (.lit (.bool false))]))\/
   ∃(j b:Nat) (p:α×β),(bs.Pairwise (·<·)/\l[j]?=some p/\bs[j]?=some b/\b∉seen)/\s=⟨upd st.env d (.tup [.d (.lit (.bool true)),.any,.any]),st.objs.set mi (.iter q r ck (seen++[b]) ck)⟩):=by
 intro A M w0 ac w hR K Q hK;obtain⟨ms,hh,hms,hb1,hb2,hb3⟩:=hR.inv.holds _ (List.mem_of_getElem? ho);have hq:w.heap[q]?=some (.mapIter (some r) ck seen.toArray ck):=hR.inv.holds _ (List.mem_of_getElem? hi);have hlen:bs.length=l.length:=by rw[<-hb1,List.length_map,hms.len,List.length_map]
 have hbj:∀j (hj:j<ms.toList.length),bs[j]?=some ms.toList[j].born:=by intro j hj;rw[<-hb1,List.getElem?_map,List.getElem?_eq_getElem hj];rfl
 rcases run_next_at (P:=P) w ty q r ck ck seen.toArray ms ck hq hh (λe he=>hb3 _ (by rw[<-hb1];exact List.mem_map_of_mem he)) (Nat.le_refl _) with⟨h0,hrun⟩|⟨e,he,w1,hw1,hrun⟩
 ·unfold Oper.wp;have hrun':(execOp ac.eval ⟨some d,.next x false,ty,pos,af,gd⟩).run P w=.ok (.value (.tuple #[.bool false])) w:=by
   simp[execOp,hR.lit hx,hrun]
  rw[hrun',Oper.upon_value];refine hK _ _ _ (.inl ⟨?_,rfl⟩) (hR.put (o:=⟨some d,.next x false,ty,pos,af,gd⟩) rfl hd (.tup (us:=[_]) rfl λi hi=>by
   match i,hi with
   |0,_=>exact .d (.lit _ rfl)))
  unfold jY;rw[List.map_eq_nil_iff,List.filter_eq_nil_iff];intro z hz;have hz2:=(List.of_mem_zip hz).2;rw[<-hb1] at hz2;obtain⟨e,he,hez⟩:=List.mem_map.1 hz2;have h1:leftOf ms seen.toArray= #[]:=Array.eq_empty_of_size_eq_zero h0;have h2:e∉(leftOf ms seen.toArray):=by rw[h1];simp
  simp only[leftOf,Array.mem_filter,not_and] at h2;have:=h2 (by simpa using he)
  simp at this
  simp[<-hez,this]
 ·unfold Oper.wp;have hrun':(execOp ac.eval ⟨some d,.next x false,ty,pos,af,gd⟩).run P w=.ok (.value (.tuple #[.bool true,e.key,e.val])) (ChangeMaps.setBlock w1 q (.mapIter (some r) ck (seen.toArray.push e.born) ck)):=by
   simp[execOp,hR.lit hx,hrun]
  rw[hrun',Oper.upon_value];obtain⟨hem,hes⟩:=mem_left he;obtain⟨j,hj,rfl⟩:=List.getElem_of_mem hem;have hjl:j<l.length:=by rw[<-hlen,<-hb1];simpa using hj
  refine hK _ _ _ (.inr ⟨j,ms.toList[j].born,l[j],⟨hb2,List.getElem?_eq_getElem hjl,hbj j hj,by simpa using hes⟩,rfl⟩) ?_;exact(aYp hR hi hw1).put (o:=⟨some d,.next x false,ty,pos,af,gd⟩) rfl hd (.tup (us:=[_,_,_]) rfl λi hi=>by
   match i,hi with
   |0,_=>exact .d (.lit _ rfl)
   |1,_=>exact .any _
   |2,_=>exact .any _)
theorem bCv[Mode]{α β:Type}{kv:α->Value}{av:β->AV}{l:List (α×β)}{x:Operand}{q r mi mm j b:Nat}{p:α×β}{bs seen:List Nat}{ck:Nat}{ka:AV}{ty:TypeId}{pos:String}{af:Array Edge}{gd:Option (Nat×Bool)}(hd:d<n)
  (hx:st.eval x=.d (.lit (.pointer (some ⟨q,0,none⟩))))(hi:st.objs[mi]?=some (.iter q r ck (seen++[b]) ck))(ho:st.objs[mm]?=some (.map r (l.map λp=>(kv p.1,av p.2)) bs ck))
  (hp:bs.Pairwise (·<·)/\l[j]?=some p/\bs[j]?=some b/\b∉seen)(hk:∀w X,VR w X ka (kv p.1)):
  aY P n ⟨some d,.entry x,ty,pos,af,gd⟩ st (st.set d (.tup [ka,av p.2])):=
 cA rfl hd λA M w0 ac w hR=>by
  obtain⟨ms,hh,hms,hb1,hb2,hb3⟩:=hR.inv.holds _ (List.mem_of_getElem? ho);have hq:w.heap[q]?=some (.mapIter (some r) ck (seen++[b]).toArray ck):=hR.inv.holds _ (List.mem_of_getElem? hi);obtain⟨e,he,hv⟩:=hms.get (j:=j) (e:=(kv p.1,av p.2)) (by simp[hp.2.1]);have hborn:e.born=b:=by
   have:=hp.2.2.1;rw[<-hb1] at this;simp only[List.getElem?_map,he,Option.map_some,Option.some.injEq] at this;exact this
  have hkey:e.key=kv p.1:=by
   have:=congrArg (λz=>z[j]?) hms.keys;simp only[List.getElem?_map,he,hp.2.1,Option.map_some,Option.some.injEq] at this;exact this
  have hq2:w.heap[q]?=some (.mapIter (some r) ck (seen.toArray.push e.born) ck):=by rw[hq,hborn];simp
  have hrun:=run_entry_at (P:=P) w q r ck seen.toArray ms ck e hq2 hh (List.mem_of_getElem? he) (by rw[hb1];exact hb2.imp λh=>Nat.ne_of_lt h);refine⟨.tuple #[e.key,e.val],by simp[execOp,hR.lit hx,hrun],.tup (us:=[_,_]) rfl λi hi=>by
   match i,hi with
   |0,_=>exact hkey▸hk _ _
   |1,_=>exact hv⟩
theorem bMo[Mode]{t kt et:TypeId}{α:Type}{l:List α}{f:α->Value×AV}{x:Operand}{r m:Nat}{bs:List Nat}{ck:Nat}{ty:TypeId}{pos:String}{af:Array Edge}{gd:Option (Nat×Bool)}(hd:d<n)
  (ht:P.underlying t=some (.map kt et))(hx:st.eval x=.d (.lit (.map (some r))))(ho:st.objs[m]?=some (.map r (l.map f) bs ck)):
  aY P n ⟨some d,.call {callee:=.builtin .len,args:= #[x],argTypes:= #[t]},ty,pos,af,gd⟩ st (st.set d (.i l.length)):=
 cA rfl hd λA M w0 ac w hR=>by
  obtain⟨ms,hh,hms,_⟩:=hR.inv.holds _ (List.mem_of_getElem? ho);have:ms.size=l.length:=by have:=hms.len;simpa using this
  refine⟨.int .i64 l.length,?_,.d (.lit _ rfl)⟩
  simp[execOp,resolve,hR.lit hx,invoke,builtin,Builtin.len_,run_underlying ht,dF hh,goInt,this]
theorem aIr[Mode]{t kt et:TypeId}{α β:Type}[DecidableEq α]{kv:α->Value}{av:β->AV}{l:List (α×β)}{z:β}{zv:Value}{a:α}{x y:Operand}{r m:Nat}{bs:List Nat}{clock:Nat}{ty:TypeId}{pos:String}{af:Array Edge}{gd:Option (Nat×Bool)}(hd:d<n)
  (hk:oV P kt kv)(ht:P.underlying t=some (.map kt et))(hz:∀w,(zeroValue et).run P w=.ok zv w)(hzv:∀w X,VR w X (av z) zv)
  (hx:st.eval x=.d (.lit (.map (some r))))(ho:st.objs[m]?=some (.map r (l.map λp=>(kv p.1,av p.2)) bs clock))(hyk:cJ y=true){yv:AV}(hyv:st.eval y=yv)(hy:wL kv yv a):
  aY P n ⟨some d,.lookup t x y true,ty,pos,af,gd⟩ st (st.set d (.tup [av (aR a z l),.d (.lit (.bool (cN a l)))])):=
 cA rfl hd λA M w0 ac w hR=>by
  obtain⟨ms,hh,hms,_⟩:=hR.inv.holds _ (List.mem_of_getElem? ho);have hkey:=hy _ _ _ (hyv▸hR.eval' hyk);have hkeys:ms.toList.map (·.key)=(l.map (·.1)).map kv:=by rw[hms.keys];simp
  have hf:=hk.find a (l.map (·.1)) ms.toList w hkeys
  rcases qT a z l with⟨h1,h2⟩|⟨j,p,h1,h2,h3,h4⟩
  ·have hhas:cN a l=false:=by rw[mB,h1];rfl
   refine⟨.tuple #[zv,.bool false],?_,.tup (us:=[_,_]) rfl λi hi=>by
    match i,hi with
    |0,_=>rw[h2];exact hzv _ _
    |1,_=>rw[hhas];exact .d (.lit _ rfl)⟩
   simp[execOp,hR.lit hx,hkey,Instr.lookup,run_underlying ht,dF hh,hk.chk,hf,h1,hz]
  ·have hhas:cN a l=true:=by rw[mB,h1];rfl
   obtain⟨e,he,hv⟩:=hms.get (j:=j) (e:=(kv p.1,av p.2)) (by simp[h2]);refine⟨.tuple #[e.val,.bool true],?_,.tup (us:=[_,_]) rfl λi hi=>by
    match i,hi with
    |0,_=>rw[h3];exact hv
    |1,_=>rw[hhas];exact .d (.lit _ rfl)⟩
   simp only[Array.getElem?_toList] at he
   simp[execOp,hR.lit hx,hkey,Instr.lookup,run_underlying ht,dF hh,hk.chk,hf,h1,he]
theorem aOu{α β:Type}[DecidableEq α](a:α)(v:β):∀(l:List (α×β)),cN a l=false->dL a v l=l++[(a,v)]
 |[],_=>rfl
 | (b,u)::l,h=>by
  simp only[cN,Bool.or_eq_false_iff,decide_eq_false_iff_not] at h
  simp[dL,h.1,aOu a v l h.2]
theorem pN[Mode]{t kt et:TypeId}{α β:Type}[DecidableEq α]{kv:α->Value}{av:β->AV}{l:List (α×β)}{v:β}{a:α}{x y q:Operand}{r m:Nat}{bs:List Nat}{clock:Nat}{ty:TypeId}{pos:String}{af:Array Edge}{gd:Option (Nat×Bool)}
  (hk:oV P kt kv)(ht:P.underlying t=some (.map kt et))
  (hx:st.eval x=.d (.lit (.map (some r))))(ho:st.objs[m]?=some (.map r (l.map λp=>(kv p.1,av p.2)) bs clock))(hyk:cJ y=true){yv:AV}(hyv:st.eval y=yv)(hy:wL kv yv a)(hqk:cJ q=true)(hq:st.eval q=av v):
  aY P n ⟨none,.mapUpdate t x y q,ty,pos,af,gd⟩ st ⟨st.env,st.objs.set m (.map r ((dL a v l).map λp=>(kv p.1,av p.2)) (mbs a l bs clock) (mck a l clock))⟩:=by
 intro A M w0 ac w hR K Q hK;obtain⟨ms,hh,hms,hb1,hb2,hb3⟩:=hR.inv.holds _ (List.mem_of_getElem? ho);have hkey:=hy _ _ _ (hyv▸hR.eval' hyk);have hv:=hR.eval' hqk;rw[hq] at hv;have hkeys:ms.toList.map (·.key)=(l.map (·.1)).map kv:=by rw[hms.keys];simp
 have hf:=hk.find a (l.map (·.1)) ms.toList w hkeys;have hrl:r<w.heap.size:=(Array.getElem?_eq_some_iff.1 hh).1;unfold Oper.wp
 rcases qT a v l with⟨h1,h2⟩|⟨j,p,h1,h2,h3,h4⟩
 ·have hhas:cN a l=false:=by rw[mB,h1];rfl
  have hrun:(execOp ac.eval ⟨none,.mapUpdate t x y q,ty,pos,af,gd⟩).run P w=.ok .skip {w with heap:=w.heap.setIfInBounds r (.map (ms.push {key:=kv a,val:=ac.eval q,born:=clock}) (clock+1))}:=by
   simp[execOp,hR.lit hx,hkey,Instr.mapUpdate,run_underlying ht,dF hh,hk.chk,hf,h1,mU _ hh]
  rw [hrun,Oper.upon_skip];refine hK _ _ _ rfl ?_;have hR':=hR.replace (w':={w with heap:=w.heap.setIfInBounds r (.map (ms.push {key:=kv a,val:=ac.eval q,born:=clock}) (clock+1))}) (m':=.map r ((dL a v l).map λp=>(kv p.1,av p.2)) (mbs a l bs clock) (mck a l clock)) ho
   (Keeps.setObj w r _) (λb o hb=>by subst hb;rfl) (λb o hf=>.inl hf) λhmono=>by
    refine⟨ms.push {key:=kv a,val:=ac.eval q,born:=clock},?_,?_,?_,?_,?_⟩
    ·simp[hrl,mck,hhas]
    ·have hm2:=hms.mono hmono;have hv2:=hv.mono hmono
     revert hm2 hv2
     generalize aV A (st.objs.set m (.map r ((dL a v l).map λp=>(kv p.1,av p.2)) (mbs a l bs clock) (mck a l clock)))=Z
     intro hm2 hv2;rw[aOu a v l hhas];simp only[List.map_append,Array.toList_push];exact MRs.snoc hm2 rfl hv2
    ·simp[mbs,hhas,hb1]
    ·simp only[mbs,hhas,cond_false];exact List.pairwise_append.2 ⟨hb2,by simp,λx hx y hy=>by simp at hy;subst hy;exact hb3 x hx⟩
    ·simp only[mbs,hhas,cond_false,mck];intro b hb
     rcases List.mem_append.1 hb with h|h
     ·have:=hb3 b h;omega
     ·simp at h;omega
  exact hR'.put_none rfl
 ·have hhas:cN a l=true:=by rw[mB,h1];rfl
  obtain⟨e,he,_⟩:=hms.get (j:=j) (e:=(kv p.1,av p.2)) (by simp[h2]);have he':ms[j]?=some e:=by simpa using he
  have hke:e.key=kv a:=by
   have:=congrArg (λq=>q[j]?) hkeys
   simp[he',h2,h4] at this
   exact this
  have hmod:ms.modify j (λe=>{e with key:=kv a,val:=ac.eval q})=ms.modify j (λe=>{e with val:=ac.eval q}):=by
   apply Array.ext_getElem?;intro i;rw[Array.getElem?_modify,Array.getElem?_modify]
   split
   ·rename_i hq;subst hq;rw[he'];simp[<-hke]
   ·rfl
  have hrun:(execOp ac.eval ⟨none,.mapUpdate t x y q,ty,pos,af,gd⟩).run P w=.ok .skip {w with heap:=w.heap.setIfInBounds r (.map (ms.modify j λe=>{e with val:=ac.eval q}) clock)}:=by
   simp[execOp,hR.lit hx,hkey,Instr.mapUpdate,run_underlying ht,dF hh,hk.chk,hf,h1,he',hke,hk.stays,hmod,mU _ hh]
  rw [hrun,Oper.upon_skip];refine hK _ _ _ rfl ?_;have hR':=hR.replace (w':={w with heap:=w.heap.setIfInBounds r (.map (ms.modify j λe=>{e with val:=ac.eval q}) clock)}) (m':=.map r ((dL a v l).map λp=>(kv p.1,av p.2)) (mbs a l bs clock) (mck a l clock)) ho
   (Keeps.setObj w r _) (λb o hb=>by subst hb;rfl) (λb o hf=>.inl hf) λhmono=>by
    refine⟨ms.modify j λe=>{e with val:=ac.eval q},by simp[hrl,mck,hhas],?_,?_,by simpa[mbs,hhas] using hb2,by simpa[mbs,mck,hhas] using hb3⟩
    ·have hm2:=hms.mono hmono;have hv2:=hv.mono hmono
     revert hm2 hv2
     generalize aV A (st.objs.set m (.map r ((dL a v l).map λp=>(kv p.1,av p.2)) (mbs a l bs clock) (mck a l clock)))=Z
     intro hm2 hv2;rw[aTa a v l j h1,List.map_set,Array.toList_modify];exact MRs.set hm2 (by simp[h2,h4]) hv2
    ·simp only[mbs,hhas,cond_true];rw[<-hb1,Array.toList_modify];apply List.ext_getElem?;intro i;simp only[List.getElem?_map,List.getElem?_modify];cases ms.toList[i]? with
     |none=>simp
     |some e=>simp;split<;>rfl
  exact hR'.put_none rfl
def pJ{α β:Type}[DecidableEq α](a:α)(l:List (α×β)):List (α×β):=match dT a (l.map (·.1)) with|some j=>l.eraseIdx j|none=>l
def aFi{α β:Type}[DecidableEq α](a:α)(l:List (α×β))(bs:List Nat):List Nat:=match dT a (l.map (·.1)) with|some j=>bs.eraseIdx j|none=>bs
theorem MRs.erase{w:World}{X:bE}:∀{es:List (Value×AV)} {ms:List MapEntry} (j:Nat),MRs w X es ms->MRs w X (es.eraseIdx j) (ms.eraseIdx j)
 |[],[],_,h=>by simpa using h
 |(_,_)::_,_::_,0,h=>h.2.2
 |(_,_)::_,_::_,j+1,h=>⟨h.1,h.2.1,MRs.erase j h.2.2⟩
theorem aBc{α β:Type}(f:α->β):∀(l:List α) (j:Nat),(l.map f).eraseIdx j=(l.eraseIdx j).map f
 |[],_=>rfl
 |_::_,0=>rfl
 |_::l,j+1=>by simp[aBc f l j]
theorem bMn[Mode]{t kt kt' et:TypeId}{α β:Type}[DecidableEq α]{kv:α->Value}{av:β->AV}{l:List (α×β)}{a:α}{x y:Operand}{r m:Nat}{bs:List Nat}{clock:Nat}{ty:TypeId}{pos:String}{af:Array Edge}{gd:Option (Nat×Bool)}
  (hk:oV P kt kv)(ht:P.underlying t=some (.map kt et))
  (hx:st.eval x=.d (.lit (.map (some r))))(ho:st.objs[m]?=some (.map r (l.map λp=>(kv p.1,av p.2)) bs clock))(hyk:cJ y=true){yv:AV}(hyv:st.eval y=yv)(hy:wL kv yv a):
  aY P n ⟨none,.call {callee:=.builtin .delete,args:= #[x,y],argTypes:= #[t,kt']},ty,pos,af,gd⟩ st ⟨st.env,st.objs.set m (.map r ((pJ a l).map λp=>(kv p.1,av p.2)) (aFi a l bs) clock)⟩:=by
 intro A M w0 ac w hR K Q hK;obtain⟨ms,hh,hms,hb1,hb2,hb3⟩:=hR.inv.holds _ (List.mem_of_getElem? ho);have hkey:=hy _ _ _ (hyv▸hR.eval' hyk);have hkeys:ms.toList.map (·.key)=(l.map (·.1)).map kv:=by rw[hms.keys];simp
 have hf:=hk.find a (l.map (·.1)) ms.toList w hkeys;have hrl:r<w.heap.size:=(Array.getElem?_eq_some_iff.1 hh).1;unfold Oper.wp;cases h1:dT a (l.map (·.1)) with
 | none=>
  have hset:w.heap.setIfInBounds r (.map ms clock)=w.heap:=by
   apply Array.ext_getElem?;intro q;rw[Array.getElem?_setIfInBounds]
   split
   ·rename_i hq;cases hq;rw[hh]
   ·rfl
  have hrun:(execOp ac.eval ⟨none,.call {callee:=.builtin .delete,args:= #[x,y],argTypes:= #[t,kt']},ty,pos,af,gd⟩).run P w=.ok (.value (.tuple #[])) w:=by
   simp[execOp,resolve,hR.lit hx,hkey,invoke,builtin,Builtin.delete_,run_underlying ht,dF hh,hk.chk,hf,h1,mU _ hh,hset]
  rw[hrun,Oper.upon_value];refine hK _ _ _ rfl ?_;have e2:st.objs.set m (.map r ((pJ a l).map λp=>(kv p.1,av p.2)) (aFi a l bs) clock)=st.objs:=by
   simp only[pJ,aFi,h1];apply List.ext_getElem?;intro q;rw[List.getElem?_set]
   split
   ·rename_i hq;subst hq;rw[ho];simp;have:=(List.getElem?_eq_some_iff.1 ho).1;omega
   ·rfl
  rw[e2];exact hR.put_none rfl
 | some j=>
  have hjl:j<l.length:=by
   rcases qT (β:=Unit) a () (l.map λp=>(p.1,())) with⟨h2,_⟩|⟨j',p,h2,h3,_⟩
   ·simp only[List.map_map] at h2;have:dT a (l.map (·.1))=none:=h2;rw[h1] at this;cases this
   ·simp only[List.map_map] at h2;have h4:dT a (l.map (·.1))=some j':=h2;rw[h1] at h4;cases h4;have:=(List.getElem?_eq_some_iff.1 h3).1
    simpa using this
  have hlm:ms.size=l.length:=by have:=hms.len;simpa using this
  have hrun:(execOp ac.eval ⟨none,.call {callee:=.builtin .delete,args:= #[x,y],argTypes:= #[t,kt']},ty,pos,af,gd⟩).run P w=.ok (.value (.tuple #[])) {w with heap:=w.heap.setIfInBounds r (.map (ms.eraseIdxIfInBounds j) clock)}:=by
   simp[execOp,resolve,hR.lit hx,hkey,invoke,builtin,Builtin.delete_,run_underlying ht,dF hh,hk.chk,hf,h1,mU _ hh,Array.getElem?_eq_getElem (show j<ms.size by omega)]
  rw [hrun,Oper.upon_value];refine hK _ _ _ rfl ?_;have hR':=hR.replace (w':={w with heap:=w.heap.setIfInBounds r (.map (ms.eraseIdxIfInBounds j) clock)}) (m':=.map r ((pJ a l).map λp=>(kv p.1,av p.2)) (aFi a l bs) clock) ho
   (Keeps.setObj w r _) (λb o hb=>by subst hb;rfl) (λb o hf=>.inl hf) λhmono=>by
    have hel:(ms.eraseIdxIfInBounds j).toList=ms.toList.eraseIdx j:=by simp[Array.toList_eraseIdxIfInBounds]
    refine⟨ms.eraseIdxIfInBounds j,by simp[hrl],?_,?_,?_,?_⟩
    ·have hm2:=(hms.mono hmono).erase j;rw[hel];rw[aBc] at hm2
     revert hm2
     generalize aV A (st.objs.set m (.map r ((pJ a l).map λp=>(kv p.1,av p.2)) (aFi a l bs) clock))=Z
     intro hm2;simp only[pJ,h1];exact hm2
    ·rw[hel,<-aBc,hb1]
     simp[aFi,h1]
    ·simp only[aFi,h1];exact hb2.sublist (List.eraseIdx_sublist _ _)
    ·simp only[aFi,h1];exactλb hb=>hb3 b (List.mem_of_mem_eraseIdx hb)
  exact hR'.put_none rfl
end
end Go.Am
end
section
namespace Go.Am
def aCu(agg:Bool)(ds:List D):AV:=bif agg then .agg ds else .d (ds.getD 0 (.lit undef))
theorem aOt{w:World}{X:bE}{agg:Bool}{es:List (Value×List D)}{u:Value}(h:DR w X (.mp agg es) u):
  ∃ r clock,∃ms:Array MapEntry,u=.map (some r)/\w.heap[r]?=some (.map ms clock)/\ms.toList.map (·.key)=es.map (·.1)/\
   ∀(i:Nat) (m:MapEntry) (e:Value×List D),ms.toList[i]?=some m->es[i]?=some e->VR w X (aCu agg e.2) m.val:=by
 cases h with
 | mp _ _ r clock ms f hb hx hk hp hc hv h1 hr=>
  refine⟨r,clock,ms,rfl,hb,hk,λi m e hi he=>?_⟩;rw[hv i m e hi he];cases agg with
  | true=>
   refine .agg (DRs.of (by simp) λj d v hd hv=>?_);have hj:j<e.2.length:=(List.getElem?_eq_some_iff.1 hd).1
   simp[hj] at hv
   subst hv;exact hr i j e d he hd
  | false=>
   have hl:=h1 rfl e (List.mem_of_getElem? he);have hd:e.2[0]?=some (e.2.getD 0 (.lit undef)):=by simp[List.getD,show 0<e.2.length by omega]
   exact .d (hr i 0 e _ he hd)
section
variable{P:Program}{n d:Nat}{st:St}
theorem bCj{kt:TypeId}{α β:Type}[DecidableEq α]{kv:α->Value}{enc:β->List D}{agg:Bool}{l:List (α×β)}{a:α}{z:β}(hk:oV P kt kv){w:World}{X:bE}{ms:Array MapEntry}
  (hkeys:ms.toList.map (·.key)=(l.map λp=>(kv p.1,enc p.2)).map (·.1))(hval:∀(i:Nat) (m:MapEntry) (e:Value×List D),ms.toList[i]?=some m->(l.map λp=>(kv p.1,enc p.2))[i]?=some e->VR w X (aCu agg e.2) m.val):
  ((Instr.findKey kt (kv a) ms.toList).run P w=.ok none w/\cN a l=false/\aR a z l=z)\/∃(j:Nat) (u:Value),(Instr.findKey kt (kv a) ms.toList).run P w=.ok (some (j,u)) w/\cN a l=true/\VR w X (aCu agg (enc (aR a z l))) u:=by
 have hkeys':ms.toList.map (·.key)=(l.map (·.1)).map kv:=by rw[hkeys];simp
 have hf:=hk.find a (l.map (·.1)) ms.toList w hkeys'
 rcases qT a z l with⟨h1,h2⟩|⟨j,p,h1,h2,h3,h4⟩
 ·left
  rw[h1] at hf;exact⟨hf,by rw[mB,h1];rfl,h2⟩
 ·right
  have hjl:=(List.getElem?_eq_some_iff.1 h2).1;have hlen:ms.toList.length=l.length:=by have:=congrArg List.length hkeys';simpa using this
  have hm:ms.toList[j]?=some (ms.toList[j]'(by omega)):=List.getElem?_eq_getElem (by omega);rw[h1] at hf;simp only[Option.bind_some,hm,Option.map_some] at hf;refine⟨j,_,hf,by rw[mB,h1];rfl,?_⟩;have:=hval j _ (kv p.1,enc p.2) hm (by simp[h2]);rw[h3];exact this
theorem sD[Mode]{t kt et:TypeId}{α β:Type}[DecidableEq α]{kv:α->Value}{enc:β->List D}{agg:Bool}{l:List (α×β)}{z:β}{zv:Value}{a:α}{x y:Operand}{ty:TypeId}{pos:String}{af:Array Edge}{gd:Option (Nat×Bool)}(hd:d<n)
  (hk:oV P kt kv)(ht:P.underlying t=some (.map kt et))(hz:∀w,(zeroValue et).run P w=.ok zv w)(hzv:∀w X,VR w X (aCu agg (enc z)) zv)
  (hx:st.eval x=.d (.mp agg (l.map λp=>(kv p.1,enc p.2))))(hxk:cJ x=true)(hyk:cJ y=true){yv:AV}(hyv:st.eval y=yv)(hy:wL kv yv a):
  aY P n ⟨some d,.lookup t x y false,ty,pos,af,gd⟩ st (st.set d (aCu agg (enc (aR a z l)))):=
 cA rfl hd λA M w0 ac w hR=>by
  have h:=hR.eval' hxk;rw[hx] at h
  generalize hu:ac.eval x=u at h
  cases h with
  | d h=>
   obtain⟨r,clock,ms,rfl,hh,hkeys,hval⟩:=aOt h;have hkey:=hy _ _ _ (hyv▸hR.eval' hyk)
   rcases bCj (a:=a) (z:=z) hk hkeys hval with⟨hf,_,h2⟩|⟨j,v,hf,_,hv⟩
   ·refine⟨zv,?_,by rw[h2];exact hzv _ _⟩
    simp[execOp,hu,hkey,Instr.lookup,run_underlying ht,dF hh,hk.chk,hf,hz]
   ·refine⟨v,?_,hv⟩
    simp[execOp,hu,hkey,Instr.lookup,run_underlying ht,dF hh,hk.chk,hf]
theorem vE[Mode]{t kt et:TypeId}{α β:Type}[DecidableEq α]{kv:α->Value}{enc:β->List D}{agg:Bool}{l:List (α×β)}{z:β}{zv:Value}{a:α}{x y:Operand}{ty:TypeId}{pos:String}{af:Array Edge}{gd:Option (Nat×Bool)}(hd:d<n)
  (hk:oV P kt kv)(ht:P.underlying t=some (.map kt et))(hz:∀w,(zeroValue et).run P w=.ok zv w)(hzv:∀w X,VR w X (aCu agg (enc z)) zv)
  (hx:st.eval x=.d (.mp agg (l.map λp=>(kv p.1,enc p.2))))(hxk:cJ x=true)(hyk:cJ y=true){yv:AV}(hyv:st.eval y=yv)(hy:wL kv yv a):
  aY P n ⟨some d,.lookup t x y true,ty,pos,af,gd⟩ st (st.set d (.tup [aCu agg (enc (aR a z l)),.d (.lit (.bool (cN a l)))])):=
 cA rfl hd λA M w0 ac w hR=>by
  have h:=hR.eval' hxk;rw[hx] at h
  generalize hu:ac.eval x=u at h
  cases h with
  | d h=>
   obtain⟨r,clock,ms,rfl,hh,hkeys,hval⟩:=aOt h;have hkey:=hy _ _ _ (hyv▸hR.eval' hyk)
   rcases bCj (a:=a) (z:=z) hk hkeys hval with⟨hf,hhas,h2⟩|⟨j,v,hf,hhas,hv⟩
   ·refine⟨.tuple #[zv,.bool false],?_,.tup (us:=[_,_]) rfl λi hi=>by
     match i,hi with
     |0,_=>rw[h2];exact hzv _ _
     |1,_=>rw[hhas];exact .d (.lit _ rfl)⟩
    simp[execOp,hu,hkey,Instr.lookup,run_underlying ht,dF hh,hk.chk,hf,hz]
   ·refine⟨.tuple #[v,.bool true],?_,.tup (us:=[_,_]) rfl λi hi=>by
     match i,hi with
     |0,_=>exact hv
     |1,_=>rw[hhas];exact .d (.lit _ rfl)⟩
    simp[execOp,hu,hkey,Instr.lookup,run_underlying ht,dF hh,hk.chk,hf]
theorem vQ[Mode]{S:Type}{c:Code}{Q:Exit->St->Prop}(l:List Nat)(us:S->List (Nat×AV))(objs:S->List MO)(F:Nat->S->Prop)(hz:∀s,¬F 0 s){k0:Nat}(s0:S)(h0:F k0 s0)
  (he:Ent st ⟨xU (keep l st.env) (us s0),objs s0⟩)
  (body:∀k s,F (k+1) s->Tr P n c ⟨xU (keep l st.env) (us s),objs s⟩ (jI (λst'=>∃s',F k s'/\Ent st' ⟨xU (keep l st.env) (us s'),objs s'⟩) Q)):Tr P n (.loop c) st Q:=by
 classical
 have hF:∀k s,(if F k s then some () else none)=some ()↔F k s:=λk s=>by split<;>simp_all
 refine eQ l us objs (λk s=>if F k s then some () else none) (λs=>if_neg (hz s)) s0 ((hF k0 s0).2 h0) he λk s h=>?_;have:=body k s ((hF (k+1) s).1 h);refine oU this ?_;intro e s' hq;cases e with
 | normal=>
  obtain⟨s'',h1,h2⟩:=hq;exact⟨s'',(hF k s'').2 h1,h2⟩
 |_=>exact hq
def nb{α:Type}(o:Option α)(f:α->Prop):Prop:=∃x,o=some x/\f x
theorem fB{α:Type}{o:Option α}{f:α->Prop}(h:nb o f):∃x,o=some x/\f x:=h
theorem bBy{a b:Prop}{c:Bool}(hc:c=true)(h:bif c then a else b):a:=by subst hc;exact h
theorem bBx{a b:Prop}{c:Bool}(hc:c=false)(h:bif c then a else b):b:=by subst hc;exact h
def aMk:AV->Bool
 | .d (.lit _)=>true
 | .agg ds=>dH ds
 | .tup vs=>vs.all λv=>match v with
  | .d (.lit _)=>true
  | .agg ds=>dH ds
  |_=>false
 |_=>false
theorem aKw{w w':World}{X X':bE}:∀{ds:List D} {vs:List Value},dH ds=true->DRs w X ds vs->DRs w' X' ds vs
 |[],[],_,_=>trivial
 | .lit v::ds,u::vs,hl,h=>by
  refine⟨?_,aKw (by simpa[dH] using hl) h.2⟩;have h1:=h.1;cases h1 with
  |lit _ hv=>exact .lit _ hv
 | .sl _ _::_,_::_,hl,_=>by simp[dH] at hl
 | .sn _ _::_,_::_,hl,_=>by simp[dH] at hl
 | .mp _ _::_,_::_,hl,_=>by simp[dH] at hl
 | .pt _::_,_::_,hl,_=>by simp[dH] at hl
 | .fc .. ::_,_::_,hl,_=>by simp[dH] at hl
 | .hv .. ::_,_::_,hl,_=>by simp[dH] at hl
 |[],_::_,_,h=>h.elim
 |_::_,[],_,h=>h.elim
theorem VR.litMove{w w':World}{X X':bE}{r:AV}{v:Value}(hl:aMk r=true)(h:VR w X r v):VR w' X' r v:=by
 have one:∀(x:AV) (u:Value),(match x with| .d (.lit _)=>true| .agg ds=>dH ds|_=>false)=true->VR w X x u->VR w' X' x u:=by
  intro x u hx h;cases h with
  | @d y u h=>
   cases y with
   |lit v=>cases h with|lit _ hv=>exact .d (DR.lit _ hv)
   |_=>simp at hx
  |agg h=>exact .agg (aKw hx h)
  |_=>simp at hx
 cases r with
 | tup vs=>
  cases h with
  | tup hlen h=>
   refine .tup hlen λi hi=>one _ _ ?_ (h i hi);simp only[aMk,List.all_eq_true] at hl;have:=hl vs[i] (List.getElem_mem hi)
   simpa[List.getD,hi] using this
 |d x=>exact one _ _ (by cases x<;>simp_all[aMk]) h
 |agg ds=>exact one _ _ hl h
 |_=>simp[aMk] at hl
def yW[Mode](m:MO):Prop:=∀(w:World) (X X':bE),m.holds w X->m.holds w X'
theorem bIs[Mode]{v:Value}{e k:Nat}{rows:List (List D)}(h:dH rows.flatten=true):yW (.arr v e k rows):=by
 rintro w X X' ⟨xs,h1,h2,h3⟩;exact⟨xs,aKw h h1,h2,h3⟩
theorem bMl[Mode]{c:Callee}{l:List Operand}{f:FuncId}{args args':List AV}{Qc:AV->List MO->Prop}{passed rest:List MO}{ts:Array TypeId}{ty:TypeId}{pos:String}{af:Array Edge}{gd:Option (Nat×Bool)}(hd:d<n)
  (ho:st.objs=passed++rest){a0:List AV}(hc:kL P st c l f a0)(ha:a0=args)(hok:iE l=true)(hb:BVs rest args args')(hf:bI P f args' passed Qc)
  (hp:∀m∈passed,yW m)(hr:∀r o,Qc r o->aMk r=true/\∀m∈o,yW m):
  Step P n ⟨some d,.call {callee:=c,args:=l.toArray,argTypes:=ts},ty,pos,af,gd⟩ st (λs=>∃r objs',Qc r objs'/\s=⟨upd st.env d r,objs'++rest⟩):=by
 replace ha:=ha.symm;subst ha
 intro A M w0 a w hR K Q hK;obtain⟨vs,hrun,hvs⟩:=aCc (d:=d) (ts:=ts) (ty:=ty) (pos:=pos) (af:=af) (gd:=gd) hR hc hok;unfold Oper.wp;rw[hrun,Oper.upon_enter];have hs0:=hR.keeps.size;have hsep:=hR.inv.sep;rw[ho] at hsep;have hsp:=List.pairwise_append.1 hsep;have hin:∀m∈passed,m∈st.objs:=λm hm=>by rw[ho];exact List.mem_append.2 (.inl hm)
 have hir:∀m∈rest,m∈st.objs:=λm hm=>by rw[ho];exact List.mem_append.2 (.inr hm)
 have hlt:∀b o,A b o->b<w.heap.size:=λb o h=>Nat.lt_of_lt_of_le (hR.old b o h) hs0;have hinv0:Inv w A passed:=⟨hsp.1,λm hm=>hR.inv.apart m (hin m hm),λm hm=>hp m hm _ _ _ (hR.inv.holds m (hin m hm)),hR.inv.amb.on (Mono.sub λb o h=>h.imp id λ⟨m,hm,hx⟩=>⟨m,hin m hm,hx⟩)⟩;have hvs':VRs w (aV A passed) args' vs:=hb.sound (λm hm=>hR.inv.holds m (hir m hm)) (λb o h=>h.imp id λ⟨m,hm,hx⟩=>⟨m,hin m hm,hx⟩) (λm hm b o hf hx=>by
  rcases hx with hx|⟨m',hm',hf'⟩
  ·exact hR.inv.apart m (hir m hm) b o hf hx
  ·exact hsp.2.2 m' hm' m hm b o hf' hf) hvs
 refine(hf A w vs hinv0 hlt hvs').mono ?_;rintro e w' ⟨v,r,objs',rfl,hk,hinv,hv,hnew,hq⟩;obtain⟨hlit,hpl⟩:=hr r objs' hq;refine hK _ _ _ ⟨r,objs',hq,rfl⟩ ?_;have hdis:∀m∈objs',∀m'∈rest,∀b o,m.foot b o->¬m'.foot b o:=by
  intro m hm m' hm' b o h1 h2
  rcases hnew m hm b o h1 with⟨q,hq',hqf⟩|h
  ·exact hsp.2.2 q hq' m' hm' b o hqf h2
  ·have:=kH (hR.inv.holds m' (hir m' hm')) h2;omega
 have hR2:R A M w0 n ⟨st.env,objs'++rest⟩ a w':=by
  refine hR.change hk (λb o ⟨m,hm,hf⟩=>⟨m,hin m hm,hf⟩) (λb o hb hx=>?_) ?_ λhm m hmm=>?_
  ·rcases lW.1 hx with⟨m,hm,hf⟩|⟨m,hm,hf⟩
   ·rcases hnew m hm b o hf with⟨m',hm',hf'⟩|h
    ·exact⟨m',hin m' hm',hf'⟩
    ·omega
   ·exact⟨m,hir m hm,hf⟩
  ·exact List.pairwise_append.2 ⟨hinv.sep,hsp.2.1,λx hx y hy b o h1 h2=>hdis x hx y hy b o h1 h2⟩
  ·rcases List.mem_append.1 hmm with h|h
   ·exact hpl m h _ _ _ (hinv.holds m h)
   ·exact bV (hR.inv.holds m (hir m h)) hk (λb o hf ⟨m',hm',hf'⟩=>hsp.2.2 m' hm' m h b o hf' hf) hm
 exact R.put (o:=⟨some d,.call {callee:=c,args:=l.toArray,argTypes:=ts},ty,pos,af,gd⟩) hR2 rfl hd (hv.litMove hlit)
def cK{α:Type}(enc:α->List D):Option α->AV
 |none=>.d (.lit (.pointer none))
 |some x=>.cp (enc x)
theorem aNv[Mode]{α:Type}{enc:α->List D}{o:Option α}{a:α}{x:Operand}{ty:TypeId}{pos:String}{af:Array Edge}{gd:Option (Nat×Bool)}(hd:d<n)(hx:st.eval x=cK enc o)(h:o=some a):
  aY P n ⟨some d,.nilCheck x,ty,pos,af,gd⟩ st (st.set d (.cp (enc a))):=by
 subst h;exact eB hd hx
theorem aMg[Mode]{α:Type}{enc:α->List D}{env:Nat->AV}{objs:List MO}{k:Nat}{o:Option α}{a:α}(hk:env k=cK enc o)(h:o=some a):Ent ⟨env,objs⟩ ⟨upd env k (.cp (enc a)),objs⟩:=
 aMf λj=>by
  by_cases hj:k=j
  ·subst hj
   right
   rw[fS,hk,h]
   rfl
  ·rw[mJ _ _ hj];exact .inr rfl
end
section
variable{P:Program}{n d:Nat}{st:St}
theorem aCe[Mode]{k:Nat}{rows:List (List D)}{x:Operand}{t u el ty:TypeId}{pos:String}{af:Array Edge}{gd:Option (Nat×Bool)}(hd:d<n)
  (hx:st.eval x=.d (.sl k rows))(hk:cJ x=true)(ht:P.underlying t=some (.slice el)):
  Step P n ⟨some d,.binOp .eql t x (.const (.slice none 0 0)) u,ty,pos,af,gd⟩ st (λs=>∃b:Bool,(b=true->rows=[])/\s=st.set d (.b b)):=by
 intro A M w0 a w hR K Q hK;have h:=hR.eval' hk;rw[hx] at h
 generalize hu:a.eval x=v at h
 have key:∀(ad:Option Addr) (m cap:Nat),v=.slice ad m cap->(execOp a.eval ⟨some d,.binOp .eql t x (.const (.slice none 0 0)) u,ty,pos,af,gd⟩).run P w=.ok (.value (.bool ad.isNone)) w:=by
  rintro ad m cap rfl;have hb:=Lib.run_eql_slice_nil (P:=P) w t el ad m cap 0 0 ht;have hg:eqGuard .eql t x (.const (.slice none 0 0)) (.slice ad m cap) (.slice none 0 0)=pure ():=rfl;have hc:a.eval (.const (.slice none 0 0))=.slice none 0 0:=rfl;simp only[execOp,hu,hc,Sem.run_bind,Sem.run_pure,hg,hb,Result.andThen_ok]
 have fin:∀(b:Bool),(b=true->rows=[])->(execOp a.eval ⟨some d,.binOp .eql t x (.const (.slice none 0 0)) u,ty,pos,af,gd⟩).run P w=.ok (.value (.bool b)) w->Oper.wp P ⟨some d,.binOp .eql t x (.const (.slice none 0 0)) u,ty,pos,af,gd⟩ a w K Q:=by
  intro b hb hrun;unfold Oper.wp;rw[hrun,Oper.upon_value];exact hK _ _ _ ⟨b,hb,rfl⟩ (hR.put (o:=⟨some d,.binOp .eql t x (.const (.slice none 0 0)) u,ty,pos,af,gd⟩) rfl hd (.d (.lit _ rfl)))
 cases h with
 | d h=>
  generalize hd':D.sl k rows=dd at h
  cases h with
  |nil=>exact fin true (λ_=>by cases hd';rfl) (key none 0 0 rfl)
  |e0 _ ad=>exact fin false (λh=>by cases h) (key (some ad) 0 0 rfl)
  |sl _ _ b o cap f'=>exact fin false (λh=>by cases h) (key _ _ _ rfl)
  |_=>cases hd'
theorem rL[Mode]{c:Callee}{l:List Operand}{f:FuncId}{args:List AV}{e k:Nat}{rows:List (List D)}{ts:Array TypeId}{ty:TypeId}{pos:String}{af:Array Edge}{gd:Option (Nat×Bool)}(hd:d<n)
  {a0:List AV}(hc:kL P st c l f a0)(ha:a0=args)(hok:iE l=true)(hf:bI P f args [] (λr' o'=>∃w,r'=.d (.lit w)/\o'=[.arr w e k rows])):
  Step P n ⟨some d,.call {callee:=c,args:=l.toArray,argTypes:=ts},ty,pos,af,gd⟩ st (λs=>∃w,s=(st.setadd d (.d (.lit w)) (.arr w e k rows))):=by
 intro A M w0 a w hR K Q hK;refine nT hd hc ha hok hf A M w0 a w hR K Q ?_;rintro s a' w' ⟨_,_,⟨v,rfl,rfl⟩,hs⟩ hR';exact hK s a' w' ⟨v,hs⟩ hR'
end
theorem aCa{α β:Type}{f:α->β}{l:List α}(h:l.map f=[]):l=[]:=List.map_eq_nil_iff.1 h
theorem aHi{α β:Type}{enc:β->List D}{agg:Bool}{fs:List MO}(i:Nat){r ck:Nat}{bs:List Nat}{l:List (α×β)}{kv:α->Value}{av:β->AV}(ho:fs[i]?=some (.map r (l.map λp=>(kv p.1,av p.2)) bs ck))(h1:agg=false->∀v,(enc v).length=1)
  (ha:∀v,av v=aCu agg (enc v)):DV fs (.lit (.map (some r))) (.mp agg (l.map λp=>(kv p.1,enc p.2))):=by
 refine .map r bs ck agg _ (λh e he=>?_) (List.mem_of_getElem? (i:=i) ?_)
 ·obtain⟨p,_,rfl⟩:=List.mem_map.1 he;exact h1 h p.2
 ·rw[ho,List.map_map]
  congr 2
  exact List.map_congr_left λp _=>by simp[ha,aCu]
theorem oW[Mode]{P:Program}{f:FuncId}{args:List AV}{objs:List MO}{Q Q':AV->List MO->Prop}(h:bI P f args objs Q)(hq:∀r o,Q r o->Q' r o):bI P f args objs Q':=
 λA w vs h1 h2 h3=>(h A w vs h1 h2 h3).mono λ_ _ ⟨v,r,o,a,b,c,d,e,k⟩=>⟨v,r,o,a,b,c,d,e,hq r o k⟩
theorem aHr[Mode]{P:Program}{f:FuncId}{args:List AV}{α:Type}{enc:α->AV}{r:α}(h:bI P f args [] (λr' o'=>∃x,x=r/\r'=enc x/\o'=[])):Fn P f args (enc r):=
 oW h λ_ _ ⟨_,hx,h1,h2⟩=>⟨by rw[h1,hx],h2⟩
end Go.Am
end
