/- The program logic 'Am': ranges over maps; more of maps. -/
import Derived.Test.YtiohgpipanopaaaGreatAmFam
import Derived.Maps.RangeRun
namespace Go.Am
def pX{α:Type}(l:List α)(bs seen:List Nat):List α:=((l.zip bs).filter λq=>!seen.contains q.2).map (·.1)
theorem bNx{α:Type}{l:List α}{bs:List Nat}(h:bs.length=l.length):pX l bs []=l:=by
 unfold pX;have:(l.zip bs).filter (λq=>!([]:List Nat).contains q.2)=l.zip bs:=by rw[List.filter_eq_self];intro q _;simp
 rw[this,List.map_fst_zip (by omega)]
theorem aVv{α:Type}:∀{l:List α} {bs seen:List Nat} {j b:Nat} {p:α},bs.Pairwise (·<·)->l[j]?=some p->bs[j]?=some b->b∉seen->
  ∃i,(pX l bs seen)[i]?=some p/\pX l bs (seen++[b])=(pX l bs seen).eraseIdx i
 |[],_,_,j,_,_,_,h,_,_=>by simp at h
 |_::_,[],_,j,_,_,_,_,h,_=>by simp at h
 | a ::l,c::bs,seen,0,b,p,hp,hl,hb,hs=>by
  simp at hl hb
  subst hl;subst hb;rw[List.pairwise_cons] at hp;refine⟨0,?_,?_⟩
  ·simp[pX,hs]
  ·have e1:∀q∈l.zip bs,(!(seen++[c]).contains q.2)=!seen.contains q.2:=by
    intro q hq;have:=hp.1 q.2 (List.of_mem_zip hq).2;have hne:q.2≠c:=by omega
    simp[hne]
   simp only[pX,List.zip_cons_cons,List.filter_cons];rw[List.filter_congr e1]
   simp[hs]
 | a::l,c::bs,seen,j+1,b,p,hp,hl,hb,hs=>by
  rw[List.pairwise_cons] at hp
  simp at hl hb
  obtain⟨i,h1,h2⟩:=aVv (seen:=seen) hp.2 hl hb hs;have hcb:c≠b:=by
   have:=hp.1 b (List.mem_of_getElem? hb)
   omega
  have ec:(seen++[b]).contains c=seen.contains c:=by simp[hcb]
  have cons:∀s:List Nat,pX (a::l) (c::bs) s=bif s.contains c then pX l bs s else a::pX l bs s:=by
   intro s;unfold pX;rw[List.zip_cons_cons,List.filter_cons];cases s.contains c<;>rfl
  rw[cons seen,cons (seen++[b]),ec];cases seen.contains c with
  |true=>exact⟨i,h1,h2⟩
  |false=>exact⟨i+1,by simpa using h1,by simp[h2]⟩
def bEt{α:Type}(left:List α)(A:Prop)(B:α->List α->Prop):Prop:=(left=[]->A)/\∀i p,left[i]?=some p->B p (left.eraseIdx i)
def aKf{α:Type}(l:List α)(f:List α->Prop):Prop:=f l
theorem aPl{α:Type}{l:List α}{bs:List Nat}{f:List α->Prop}(h:aKf l f)(hl:pX l bs []=l):f (pX l bs []):=by rw[hl];exact h
theorem aRv{α:Type}{l:List α}{bs seen:List Nat}{j b:Nat}{p:α}{A:Prop}{B:α->List α->Prop}(h:bEt (pX l bs seen) A B)(hp:bs.Pairwise (·<·)/\l[j]?=some p/\bs[j]?=some b/\b∉seen):B p (pX l bs (seen++[b])):=by
 obtain⟨i,h1,h2⟩:=aVv hp.1 hp.2.1 hp.2.2.1 hp.2.2.2;rw[h2];exact h.2 i p h1
theorem MRs.len{w:World}{X:bH}{es:List (Value×AV)}{ms:List MapEntry}(h:MRs w X es ms):ms.length=es.length:=by
 have:=congrArg List.length h.keys
 simpa using this
section
variable{P:Program}{n d:Nat}{st:St}
theorem bJc{t kt et:TypeId}{α:Type}{l:List α}{f:α->Value×AV}{x:Operand}{r m:Nat}{bs:List Nat}{ck:Nat}{ty:TypeId}{pos:String}{af:Array Edge}{gd:Option (Nat×Bool)}(hd:d<n)
  (ht:P.underlying t=some (.map kt et))(hx:st.eval x=.d (.lit (.map (some r))))(ho:st.objs[m]?=some (.map r (l.map f) bs ck)):
  Step P n ⟨some d,.range t x,ty,pos,af,gd⟩ st (λs=>∃q,pX l bs []=l/\s=⟨upd st.env d (.d (.lit (.pointer (some ⟨q,0,none⟩)))),st.objs++[.iter q r ck [] ck]⟩):=by
 intro A M w0 ac w hR K Q hK;obtain⟨ms,hh,hms,hb1,hb2,hb3⟩:=hR.inv.holds _ (List.mem_of_getElem? ho);have hrun:(execOp ac.eval ⟨some d,.range t x,ty,pos,af,gd⟩).run P w=.ok (.value (.pointer (some ⟨w.heap.size,0,none⟩))) (w.alloc (.mapIter (some r) ck #[] ck)):=by
  simp[execOp,hR.lit hx,Instr.range,run_underlying ht,eY hh]
 have hlen:bs.length=l.length:=by rw[<-hb1,List.length_map,hms.len,List.length_map]
 unfold Oper.wp;rw[hrun,Oper.upon_value];refine hK _ _ _ ⟨w.heap.size,bNx hlen,rfl⟩ ?_;have hR':=hR.add (w':=w.alloc (.mapIter (some r) ck #[] ck)) (m:=.iter w.heap.size r ck [] ck) (Keeps.alloc _ _ _) (λb o hf=>by simp[MO.foot] at hf;omega) (λhm=>by
  show(w.alloc (.mapIter (some r) ck #[] ck)).heap[w.heap.size]?=_;exact heap_alloc_new w _)
 exact hR'.put (o:=⟨some d,.range t x,ty,pos,af,gd⟩) rfl hd (.of_lit rfl)
theorem bRv{A M:bH}{w0:W0}{a:Act}{w w1:World}{mi r m ck b:Nat}{seen:List Nat}(hR:R A M w0 n st a w)(ho:st.objs[mi]?=some (.iter r m ck seen ck))(hw:w1=w\/w1=w.drew):
  R A M w0 n ⟨st.env,st.objs.set mi (.iter r m ck (seen++[b]) ck)⟩ a (ChangeMaps.setBlock w1 r (.mapIter (some m) ck (seen.toArray.push b) ck)):=by
 have hh:w.heap[r]?=some (.mapIter (some m) ck seen.toArray ck):=hR.inv.holds _ (List.mem_of_getElem? ho);have hrl:r<w.heap.size:=(Array.getElem?_eq_some_iff.1 hh).1;have hk:Keeps (λb _=>b=r) w (ChangeMaps.setBlock w1 r (.mapIter (some m) ck (seen.toArray.push b) ck)):=by
  rcases hw with rfl|rfl
  ·exact Keeps.setObj _ _ _
  ·exact(Keeps.drew _ _).trans (Keeps.setObj w.drew _ _)
 refine hR.replace (m':=.iter r m ck (seen++[b]) ck) ho hk (λb o hb=>by subst hb;rfl) (λb o hf=>.inl hf) λhm=>?_;show(ChangeMaps.setBlock w1 r (.mapIter (some m) ck (seen.toArray.push b) ck)).heap[r]?=_;have hrl1:r<w1.heap.size:=by rcases hw with rfl|rfl<;>exact hrl
 simp[ChangeMaps.setBlock,hrl1]
theorem bPi{α β:Type}{kv:α->Value}{av:β->AV}{l:List (α×β)}{x:Operand}{q r mi mm:Nat}{bs seen:List Nat}{ck:Nat}{ty:TypeId}{pos:String}{af:Array Edge}{gd:Option (Nat×Bool)}(hd:d<n)
  (hx:st.eval x=.d (.lit (.pointer (some ⟨q,0,none⟩))))(hi:st.objs[mi]?=some (.iter q r ck seen ck))(ho:st.objs[mm]?=some (.map r (l.map λp=>(kv p.1,av p.2)) bs ck)):
  Step P n ⟨some d,.next x false,ty,pos,af,gd⟩ st (λs=>(pX l bs seen=[]/\s=st.set d (.tup [.d (.lit (.bool false))]))\/
   ∃(j b:Nat) (p:α×β),(bs.Pairwise (·<·)/\l[j]?=some p/\bs[j]?=some b/\b∉seen)/\s=⟨upd st.env d (.tup [.d (.lit (.bool true)),.any,.any]),st.objs.set mi (.iter q r ck (seen++[b]) ck)⟩):=by
 intro A M w0 ac w hR K Q hK;obtain⟨ms,hh,hms,hb1,hb2,hb3⟩:=hR.inv.holds _ (List.mem_of_getElem? ho);have hq:w.heap[q]?=some (.mapIter (some r) ck seen.toArray ck):=hR.inv.holds _ (List.mem_of_getElem? hi);have hlen:bs.length=l.length:=by rw[<-hb1,List.length_map,hms.len,List.length_map]
 have hbj:∀j (hj:j<ms.toList.length),bs[j]?=some ms.toList[j].born:=by intro j hj;rw[<-hb1,List.getElem?_map,List.getElem?_eq_getElem hj];rfl
 rcases run_next_at (P:=P) w ty q r ck ck seen.toArray ms ck hq hh (λe he=>hb3 _ (by rw[<-hb1];exact List.mem_map_of_mem he)) (Nat.le_refl _) with⟨h0,hrun⟩|⟨e,he,w1,hw1,hrun⟩
 ·unfold Oper.wp;have hrun':(execOp ac.eval ⟨some d,.next x false,ty,pos,af,gd⟩).run P w=.ok (.value (.tuple #[.bool false])) w:=by
   simp[execOp,hR.lit hx,hrun]
  rw[hrun',Oper.upon_value];refine hK _ _ _ (.inl ⟨?_,rfl⟩) (hR.put (o:=⟨some d,.next x false,ty,pos,af,gd⟩) rfl hd (.tup (us:=[_]) rfl λi hi=>by
   match i,hi with
   |0,_=>exact .d (.lit _ rfl)))
  unfold pX;rw[List.map_eq_nil_iff,List.filter_eq_nil_iff];intro z hz;have hz2:=(List.of_mem_zip hz).2;rw[<-hb1] at hz2;obtain⟨e,he,hez⟩:=List.mem_map.1 hz2;have h1:leftOf ms seen.toArray= #[]:=Array.eq_empty_of_size_eq_zero h0;have h2:e∉(leftOf ms seen.toArray):=by rw[h1];simp
  simp only[leftOf,Array.mem_filter,not_and] at h2;have:=h2 (by simpa using he)
  simp at this
  simp[<-hez,this]
 ·unfold Oper.wp;have hrun':(execOp ac.eval ⟨some d,.next x false,ty,pos,af,gd⟩).run P w=.ok (.value (.tuple #[.bool true,e.key,e.val])) (ChangeMaps.setBlock w1 q (.mapIter (some r) ck (seen.toArray.push e.born) ck)):=by
   simp[execOp,hR.lit hx,hrun]
  rw[hrun',Oper.upon_value];obtain⟨hem,hes⟩:=mem_left he;obtain⟨j,hj,rfl⟩:=List.getElem_of_mem hem;have hjl:j<l.length:=by rw[<-hlen,<-hb1];simpa using hj
  refine hK _ _ _ (.inr ⟨j,ms.toList[j].born,l[j],⟨hb2,List.getElem?_eq_getElem hjl,hbj j hj,by simpa using hes⟩,rfl⟩) ?_;exact(bRv hR hi hw1).put (o:=⟨some d,.next x false,ty,pos,af,gd⟩) rfl hd (.tup (us:=[_,_,_]) rfl λi hi=>by
   match i,hi with
   |0,_=>exact .d (.lit _ rfl)
   |1,_=>exact .any _
   |2,_=>exact .any _)
theorem bJa{α β:Type}{kv:α->Value}{av:β->AV}{l:List (α×β)}{x:Operand}{q r mi mm j b:Nat}{p:α×β}{bs seen:List Nat}{ck:Nat}{ka:AV}{ty:TypeId}{pos:String}{af:Array Edge}{gd:Option (Nat×Bool)}(hd:d<n)
  (hx:st.eval x=.d (.lit (.pointer (some ⟨q,0,none⟩))))(hi:st.objs[mi]?=some (.iter q r ck (seen++[b]) ck))(ho:st.objs[mm]?=some (.map r (l.map λp=>(kv p.1,av p.2)) bs ck))
  (hp:bs.Pairwise (·<·)/\l[j]?=some p/\bs[j]?=some b/\b∉seen)(hk:∀w X,VR w X ka (kv p.1)):
  bB P n ⟨some d,.entry x,ty,pos,af,gd⟩ st (st.set d (.tup [ka,av p.2])):=
 cO rfl hd λA M w0 ac w hR=>by
  obtain⟨ms,hh,hms,hb1,hb2,hb3⟩:=hR.inv.holds _ (List.mem_of_getElem? ho);have hq:w.heap[q]?=some (.mapIter (some r) ck (seen++[b]).toArray ck):=hR.inv.holds _ (List.mem_of_getElem? hi);obtain⟨e,he,hv⟩:=hms.get (j:=j) (e:=(kv p.1,av p.2)) (by simp[hp.2.1]);have hborn:e.born=b:=by
   have:=hp.2.2.1;rw[<-hb1] at this;simp only[List.getElem?_map,he,Option.map_some,Option.some.injEq] at this;exact this
  have hkey:e.key=kv p.1:=by
   have:=congrArg (λz=>z[j]?) hms.keys;simp only[List.getElem?_map,he,hp.2.1,Option.map_some,Option.some.injEq] at this;exact this
  have hq2:w.heap[q]?=some (.mapIter (some r) ck (seen.toArray.push e.born) ck):=by rw[hq,hborn];simp
  have hrun:=run_entry_at (P:=P) w q r ck seen.toArray ms ck e hq2 hh (List.mem_of_getElem? he) (by rw[hb1];exact hb2.imp λh=>Nat.ne_of_lt h);refine⟨.tuple #[e.key,e.val],by simp[execOp,hR.lit hx,hrun],.tup (us:=[_,_]) rfl λi hi=>by
   match i,hi with
   |0,_=>exact hkey▸hk _ _
   |1,_=>exact hv⟩
theorem bSz{t kt et:TypeId}{α:Type}{l:List α}{f:α->Value×AV}{x:Operand}{r m:Nat}{bs:List Nat}{ck:Nat}{ty:TypeId}{pos:String}{af:Array Edge}{gd:Option (Nat×Bool)}(hd:d<n)
  (ht:P.underlying t=some (.map kt et))(hx:st.eval x=.d (.lit (.map (some r))))(ho:st.objs[m]?=some (.map r (l.map f) bs ck)):
  bB P n ⟨some d,.call {callee:=.builtin .len,args:= #[x],argTypes:= #[t]},ty,pos,af,gd⟩ st (st.set d (.i l.length)):=
 cO rfl hd λA M w0 ac w hR=>by
  obtain⟨ms,hh,hms,_⟩:=hR.inv.holds _ (List.mem_of_getElem? ho);have:ms.size=l.length:=by have:=hms.len;simpa using this
  refine⟨.int .i64 l.length,?_,.d (.lit _ rfl)⟩
  simp[execOp,resolve,hR.lit hx,invoke,builtin,Builtin.len_,run_underlying ht,eY hh,goInt,this]
theorem aWv{t kt et:TypeId}{α β:Type}[DecidableEq α]{kv:α->Value}{av:β->AV}{l:List (α×β)}{z:β}{zv:Value}{a:α}{x y:Operand}{r m:Nat}{bs:List Nat}{clock:Nat}{ty:TypeId}{pos:String}{af:Array Edge}{gd:Option (Nat×Bool)}(hd:d<n)
  (hk:wP P kt kv)(ht:P.underlying t=some (.map kt et))(hz:∀w,(zeroValue et).run P w=.ok zv w)(hzv:∀w X,VR w X (av z) zv)
  (hx:st.eval x=.d (.lit (.map (some r))))(ho:st.objs[m]?=some (.map r (l.map λp=>(kv p.1,av p.2)) bs clock))(hyk:cT y=true){yv:AV}(hyv:st.eval y=yv)(hy:aFd kv yv a):
  bB P n ⟨some d,.lookup t x y true,ty,pos,af,gd⟩ st (st.set d (.tup [av (bR a z l),.d (.lit (.bool (eB a l)))])):=
 cO rfl hd λA M w0 ac w hR=>by
  obtain⟨ms,hh,hms,_⟩:=hR.inv.holds _ (List.mem_of_getElem? ho);have hkey:=hy _ _ _ (hyv▸hR.eval' hyk);have hkeys:ms.toList.map (·.key)=(l.map (·.1)).map kv:=by rw[hms.keys];simp
  have hf:=hk.find a (l.map (·.1)) ms.toList w hkeys
  rcases uK a z l with⟨h1,h2⟩|⟨j,p,h1,h2,h3,h4⟩
  ·have hhas:eB a l=false:=by rw[pH,h1];rfl
   refine⟨.tuple #[zv,.bool false],?_,.tup (us:=[_,_]) rfl λi hi=>by
    match i,hi with
    |0,_=>rw[h2];exact hzv _ _
    |1,_=>rw[hhas];exact .d (.lit _ rfl)⟩
   simp[execOp,hR.lit hx,hkey,Instr.lookup,run_underlying ht,eY hh,hk.chk,hf,h1,hz]
  ·have hhas:eB a l=true:=by rw[pH,h1];rfl
   obtain⟨e,he,hv⟩:=hms.get (j:=j) (e:=(kv p.1,av p.2)) (by simp[h2]);refine⟨.tuple #[e.val,.bool true],?_,.tup (us:=[_,_]) rfl λi hi=>by
    match i,hi with
    |0,_=>rw[h3];exact hv
    |1,_=>rw[hhas];exact .d (.lit _ rfl)⟩
   simp only[Array.getElem?_toList] at he
   simp[execOp,hR.lit hx,hkey,Instr.lookup,run_underlying ht,eY hh,hk.chk,hf,h1,he]
theorem aTp{α β:Type}[DecidableEq α](a:α)(v:β):∀(l:List (α×β)),eB a l=false->eK a v l=l++[(a,v)]
 |[],_=>rfl
 | (b,u)::l,h=>by
  simp only[eB,Bool.or_eq_false_iff,decide_eq_false_iff_not] at h
  simp[eK,h.1,aTp a v l h.2]
theorem aJp{t kt et:TypeId}{α β:Type}[DecidableEq α]{kv:α->Value}{av:β->AV}{l:List (α×β)}{v:β}{a:α}{x y q:Operand}{r m:Nat}{bs:List Nat}{clock:Nat}{ty:TypeId}{pos:String}{af:Array Edge}{gd:Option (Nat×Bool)}
  (hk:wP P kt kv)(ht:P.underlying t=some (.map kt et))
  (hx:st.eval x=.d (.lit (.map (some r))))(ho:st.objs[m]?=some (.map r (l.map λp=>(kv p.1,av p.2)) bs clock))(hyk:cT y=true){yv:AV}(hyv:st.eval y=yv)(hy:aFd kv yv a)(hqk:cT q=true)(hq:st.eval q=av v):
  bB P n ⟨none,.mapUpdate t x y q,ty,pos,af,gd⟩ st ⟨st.env,st.objs.set m (.map r ((eK a v l).map λp=>(kv p.1,av p.2)) (mbs a l bs clock) (mck a l clock))⟩:=by
 intro A M w0 ac w hR K Q hK;obtain⟨ms,hh,hms,hb1,hb2,hb3⟩:=hR.inv.holds _ (List.mem_of_getElem? ho);have hkey:=hy _ _ _ (hyv▸hR.eval' hyk);have hv:=hR.eval' hqk;rw[hq] at hv;have hkeys:ms.toList.map (·.key)=(l.map (·.1)).map kv:=by rw[hms.keys];simp
 have hf:=hk.find a (l.map (·.1)) ms.toList w hkeys;have hrl:r<w.heap.size:=(Array.getElem?_eq_some_iff.1 hh).1;unfold Oper.wp
 rcases uK a v l with⟨h1,h2⟩|⟨j,p,h1,h2,h3,h4⟩
 ·have hhas:eB a l=false:=by rw[pH,h1];rfl
  have hrun:(execOp ac.eval ⟨none,.mapUpdate t x y q,ty,pos,af,gd⟩).run P w=.ok .skip {w with heap:=w.heap.setIfInBounds r (.map (ms.push {key:=kv a,val:=ac.eval q,born:=clock}) (clock+1))}:=by
   simp[execOp,hR.lit hx,hkey,Instr.mapUpdate,run_underlying ht,eY hh,hk.chk,hf,h1,qF _ hh]
  rw [hrun,Oper.upon_skip];refine hK _ _ _ rfl ?_;have hR':=hR.replace (w':={w with heap:=w.heap.setIfInBounds r (.map (ms.push {key:=kv a,val:=ac.eval q,born:=clock}) (clock+1))}) (m':=.map r ((eK a v l).map λp=>(kv p.1,av p.2)) (mbs a l bs clock) (mck a l clock)) ho
   (Keeps.setObj w r _) (λb o hb=>by subst hb;rfl) (λb o hf=>.inl hf) λhmono=>by
    refine⟨ms.push {key:=kv a,val:=ac.eval q,born:=clock},?_,?_,?_,?_,?_⟩
    ·simp[hrl,mck,hhas]
    ·have hm2:=hms.mono hmono;have hv2:=hv.mono hmono
     revert hm2 hv2
     generalize bF A (st.objs.set m (.map r ((eK a v l).map λp=>(kv p.1,av p.2)) (mbs a l bs clock) (mck a l clock)))=Z
     intro hm2 hv2;rw[aTp a v l hhas];simp only[List.map_append,Array.toList_push];exact MRs.snoc hm2 rfl hv2
    ·simp[mbs,hhas,hb1]
    ·simp only[mbs,hhas,cond_false];exact List.pairwise_append.2 ⟨hb2,by simp,λx hx y hy=>by simp at hy;subst hy;exact hb3 x hx⟩
    ·simp only[mbs,hhas,cond_false,mck];intro b hb
     rcases List.mem_append.1 hb with h|h
     ·have:=hb3 b h;omega
     ·simp at h;omega
  exact hR'.put_none rfl
 ·have hhas:eB a l=true:=by rw[pH,h1];rfl
  obtain⟨e,he,_⟩:=hms.get (j:=j) (e:=(kv p.1,av p.2)) (by simp[h2]);have he':ms[j]?=some e:=by simpa using he
  have hke:e.key=kv a:=by
   have:=congrArg (λq=>q[j]?) hkeys
   simp[he',h2,h4] at this
   exact this
  have hmod:ms.modify j (λe=>{e with key:=kv a,val:=ac.eval q})=ms.modify j (λe=>{e with val:=ac.eval q}):=by
   apply Array.ext_getElem?;intro i;rw[Array.getElem?_modify,Array.getElem?_modify]
   split
   ·rename_i hq;subst hq;rw[he'];simp[<-hke]
   ·rfl
  have hrun:(execOp ac.eval ⟨none,.mapUpdate t x y q,ty,pos,af,gd⟩).run P w=.ok .skip {w with heap:=w.heap.setIfInBounds r (.map (ms.modify j λe=>{e with val:=ac.eval q}) clock)}:=by
   simp[execOp,hR.lit hx,hkey,Instr.mapUpdate,run_underlying ht,eY hh,hk.chk,hf,h1,he',hke,hk.stays,hmod,qF _ hh]
  rw [hrun,Oper.upon_skip];refine hK _ _ _ rfl ?_;have hR':=hR.replace (w':={w with heap:=w.heap.setIfInBounds r (.map (ms.modify j λe=>{e with val:=ac.eval q}) clock)}) (m':=.map r ((eK a v l).map λp=>(kv p.1,av p.2)) (mbs a l bs clock) (mck a l clock)) ho
   (Keeps.setObj w r _) (λb o hb=>by subst hb;rfl) (λb o hf=>.inl hf) λhmono=>by
    refine⟨ms.modify j λe=>{e with val:=ac.eval q},by simp[hrl,mck,hhas],?_,?_,by simpa[mbs,hhas] using hb2,by simpa[mbs,mck,hhas] using hb3⟩
    ·have hm2:=hms.mono hmono;have hv2:=hv.mono hmono
     revert hm2 hv2
     generalize bF A (st.objs.set m (.map r ((eK a v l).map λp=>(kv p.1,av p.2)) (mbs a l bs clock) (mck a l clock)))=Z
     intro hm2 hv2;rw[aYg a v l j h1,List.map_set,Array.toList_modify];exact MRs.set hm2 (by simp[h2,h4]) hv2
    ·simp only[mbs,hhas,cond_true];rw[<-hb1,Array.toList_modify];apply List.ext_getElem?;intro i;simp only[List.getElem?_map,List.getElem?_modify];cases ms.toList[i]? with
     |none=>simp
     |some e=>simp;split<;>rfl
  exact hR'.put_none rfl
def tA{α β:Type}[DecidableEq α](a:α)(l:List (α×β)):List (α×β):=match fW a (l.map (·.1)) with|some j=>l.eraseIdx j|none=>l
def aJh{α β:Type}[DecidableEq α](a:α)(l:List (α×β))(bs:List Nat):List Nat:=match fW a (l.map (·.1)) with|some j=>bs.eraseIdx j|none=>bs
theorem MRs.erase{w:World}{X:bH}:∀{es:List (Value×AV)} {ms:List MapEntry} (j:Nat),MRs w X es ms->MRs w X (es.eraseIdx j) (ms.eraseIdx j)
 |[],[],_,h=>by simpa using h
 |(_,_)::_,_::_,0,h=>h.2.2
 |(_,_)::_,_::_,j+1,h=>⟨h.1,h.2.1,MRs.erase j h.2.2⟩
theorem aEt{α β:Type}(f:α->β):∀(l:List α) (j:Nat),(l.map f).eraseIdx j=(l.eraseIdx j).map f
 |[],_=>rfl
 |_::_,0=>rfl
 |_::l,j+1=>by simp[aEt f l j]
theorem bSy{t kt kt' et:TypeId}{α β:Type}[DecidableEq α]{kv:α->Value}{av:β->AV}{l:List (α×β)}{a:α}{x y:Operand}{r m:Nat}{bs:List Nat}{clock:Nat}{ty:TypeId}{pos:String}{af:Array Edge}{gd:Option (Nat×Bool)}
  (hk:wP P kt kv)(ht:P.underlying t=some (.map kt et))
  (hx:st.eval x=.d (.lit (.map (some r))))(ho:st.objs[m]?=some (.map r (l.map λp=>(kv p.1,av p.2)) bs clock))(hyk:cT y=true){yv:AV}(hyv:st.eval y=yv)(hy:aFd kv yv a):
  bB P n ⟨none,.call {callee:=.builtin .delete,args:= #[x,y],argTypes:= #[t,kt']},ty,pos,af,gd⟩ st ⟨st.env,st.objs.set m (.map r ((tA a l).map λp=>(kv p.1,av p.2)) (aJh a l bs) clock)⟩:=by
 intro A M w0 ac w hR K Q hK;obtain⟨ms,hh,hms,hb1,hb2,hb3⟩:=hR.inv.holds _ (List.mem_of_getElem? ho);have hkey:=hy _ _ _ (hyv▸hR.eval' hyk);have hkeys:ms.toList.map (·.key)=(l.map (·.1)).map kv:=by rw[hms.keys];simp
 have hf:=hk.find a (l.map (·.1)) ms.toList w hkeys;have hrl:r<w.heap.size:=(Array.getElem?_eq_some_iff.1 hh).1;unfold Oper.wp;cases h1:fW a (l.map (·.1)) with
 | none=>
  have hset:w.heap.setIfInBounds r (.map ms clock)=w.heap:=by
   apply Array.ext_getElem?;intro q;rw[Array.getElem?_setIfInBounds]
   split
   ·rename_i hq;cases hq;rw[hh]
   ·rfl
  have hrun:(execOp ac.eval ⟨none,.call {callee:=.builtin .delete,args:= #[x,y],argTypes:= #[t,kt']},ty,pos,af,gd⟩).run P w=.ok (.value (.tuple #[])) w:=by
   simp[execOp,resolve,hR.lit hx,hkey,invoke,builtin,Builtin.delete_,run_underlying ht,eY hh,hk.chk,hf,h1,qF _ hh,hset]
  rw[hrun,Oper.upon_value];refine hK _ _ _ rfl ?_;have e2:st.objs.set m (.map r ((tA a l).map λp=>(kv p.1,av p.2)) (aJh a l bs) clock)=st.objs:=by
   simp only[tA,aJh,h1];apply List.ext_getElem?;intro q;rw[List.getElem?_set]
   split
   ·rename_i hq;subst hq;rw[ho];simp;have:=(List.getElem?_eq_some_iff.1 ho).1;omega
   ·rfl
  rw[e2];exact hR.put_none rfl
 | some j=>
  have hjl:j<l.length:=by
   rcases uK (β:=Unit) a () (l.map λp=>(p.1,())) with⟨h2,_⟩|⟨j',p,h2,h3,_⟩
   ·simp only[List.map_map] at h2;have:fW a (l.map (·.1))=none:=h2;rw[h1] at this;cases this
   ·simp only[List.map_map] at h2;have h4:fW a (l.map (·.1))=some j':=h2;rw[h1] at h4;cases h4;have:=(List.getElem?_eq_some_iff.1 h3).1
    simpa using this
  have hlm:ms.size=l.length:=by have:=hms.len;simpa using this
  have hrun:(execOp ac.eval ⟨none,.call {callee:=.builtin .delete,args:= #[x,y],argTypes:= #[t,kt']},ty,pos,af,gd⟩).run P w=.ok (.value (.tuple #[])) {w with heap:=w.heap.setIfInBounds r (.map (ms.eraseIdxIfInBounds j) clock)}:=by
   simp[execOp,resolve,hR.lit hx,hkey,invoke,builtin,Builtin.delete_,run_underlying ht,eY hh,hk.chk,hf,h1,qF _ hh,Array.getElem?_eq_getElem (show j<ms.size by omega)]
  rw [hrun,Oper.upon_value];refine hK _ _ _ rfl ?_;have hR':=hR.replace (w':={w with heap:=w.heap.setIfInBounds r (.map (ms.eraseIdxIfInBounds j) clock)}) (m':=.map r ((tA a l).map λp=>(kv p.1,av p.2)) (aJh a l bs) clock) ho
   (Keeps.setObj w r _) (λb o hb=>by subst hb;rfl) (λb o hf=>.inl hf) λhmono=>by
    have hel:(ms.eraseIdxIfInBounds j).toList=ms.toList.eraseIdx j:=by simp[Array.toList_eraseIdxIfInBounds]
    refine⟨ms.eraseIdxIfInBounds j,by simp[hrl],?_,?_,?_,?_⟩
    ·have hm2:=(hms.mono hmono).erase j;rw[hel];rw[aEt] at hm2
     revert hm2
     generalize bF A (st.objs.set m (.map r ((tA a l).map λp=>(kv p.1,av p.2)) (aJh a l bs) clock))=Z
     intro hm2;simp only[tA,h1];exact hm2
    ·rw[hel,<-aEt,hb1]
     simp[aJh,h1]
    ·simp only[aJh,h1];exact hb2.sublist (List.eraseIdx_sublist _ _)
    ·simp only[aJh,h1];exactλb hb=>hb3 b (List.mem_of_mem_eraseIdx hb)
  exact hR'.put_none rfl
end
end Go.Am
