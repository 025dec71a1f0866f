/- The program logic 'Am': slice literals, stores into slices, make, append, parts of slices. -/
import Derived.Test.YtiohgpipanopaaaGreatAmMem2
namespace Go.Am
theorem qC{k:Nat}:∀{rows:List (List D)},(∀r∈rows,r.length=k)->rows.flatten.length=rows.length*k
 |[],_=>by simp
 | r::rows,h=>by
  have h1:=h r (by simp);have h2:=qC (rows:=rows) λx hx=>h x (List.mem_cons_of_mem _ hx)
  simp[h1,h2,Nat.succ_mul,Nat.add_comm]
theorem DR.of_flat{w:World}{X:bH}{k b o cap:Nat}{rows:List (List D)}{vs:List Value}(hk:∀r∈rows,r.length=k)(hd:DRs w X rows.flatten vs)(hc:cellsAt w b o vs)
  (hx:∀j,j<vs.length->¬X b (o+j))(hcap:rows.length<=cap)(hmax:cap<=maxLen):DR w X (.sl k rows) (.slice (some ⟨b,o,none⟩) rows.length cap):=by
 have hlen:vs.length=rows.length*k:=by rw[hd.length,qC hk]
 refine .sl k rows b o cap (λi j=>vs.getD (i*k+j) undef) hk hcap hmax (λi j hi hj=>?_) (λi j hi hj=>?_)
 ·have hlt:i*k+j<vs.length:=by
   rw[hlen]
   calc i*k+j<i*k+k:=by omega
    _=(i+1)*k:=by rw[Nat.succ_mul]
    _<=rows.length*k:=Nat.mul_le_mul_right _ hi
  refine⟨hc _ _ ?_,hx _ hlt⟩
  simp[List.getD,List.getElem?_eq_getElem hlt]
 ·have hg:=aGr hk (List.getElem?_eq_getElem hi) hj;have hj':j<(rows[i]).length:=by rw[hk _ (List.getElem_mem hi)];exact hj
  rw[List.getElem?_eq_getElem hj'] at hg;obtain⟨v,hv,hdv⟩:=hd.get hg;have e1:(rows.getD i []).getD j (.lit undef)=rows[i][j]:=by simp[List.getD,List.getElem?_eq_getElem hi,List.getElem?_eq_getElem hj']
  rw[e1];simp only[List.getD,hv,Option.getD_some];exact hdv
structure SliceTy(P:Program)(t e k bytes:Nat)(z:Value):Prop where
 und:P.underlying t=some (.slice e)
 inf:∃i,P.info? e=some i/\i.zero=some z/\i.size=k/\i.bytes=bytes
 size:z.cells.size=k
 pos:0<k
theorem SliceTy.of{P:Program}{t e k bytes:Nat}{z:Value}(h:SliceTy P t e k bytes z):gU P t e k:=by
 obtain⟨i,hi,_,hs,_⟩:=h.inf;exact⟨λw=>run_underlying h.und w,λw=>by simp[sizeOf,typeInfo,hi,hs]⟩
theorem SliceTy.zero{P:Program}{t e k bytes:Nat}{z:Value}(h:SliceTy P t e k bytes z)(w:World):(zeroValue e).run P w=.ok z w:=by
 obtain⟨i,hi,hz,_⟩:=h.inf
 simp[zeroValue,typeInfo,hi,hz]
theorem aHc{A M:bH}{w0:W0}{n:Nat}{st:St}{a:Act}{w:World}(hR:R A M w0 n st a w)(o:Nat):¬bF A st.objs w.heap.size o:=by
 rintro(hx|⟨m,hm',hf⟩)
 ·have:=hR.old _ _ hx;have:=hR.keeps.size;omega
 ·have:=oK (hR.inv.holds m hm') hf;omega
section
variable{P:Program}{n d:Nat}{st:St}{o:Oper}
theorem qG{t e k len bytes:Nat}{z:Value}{l:List (Nat×Operand)}{rows:List (List D)}{ty:TypeId}{pos:String}{af:Array Edge}{gd:Option (Nat×Bool)}(hd:d<n)
  (ht:SliceTy P t e k bytes z)(hp:yU l=true){ps:List (Nat×AV)}(hps:st.parts l=ps)(hr:rJ 0 ps=some rows)(hk:∀r∈rows,r.length=k)
  (hl:rows.length=len)(hb:len*k<=16777216):bB P n ⟨some d,.buildSlice t len l.toArray,ty,pos,af,gd⟩ st (st.set d (.d (.sl k rows))):=by
 replace hps:=hps.symm;subst hps
 intro A M w0 a w hR K Q hK;obtain⟨vs,hrun,hds⟩:=aDb (P:=P) ht.of ht.zero ht.size (w:=w) (aEh hR hp) hr hk hl hb;unfold Oper.wp;have hrun':(execOp a.eval ⟨some d,.buildSlice t len l.toArray,ty,pos,af,gd⟩).run P w=.ok (.value (.slice (some ⟨w.heap.size,0,none⟩) len len)) (w.alloc (.cells vs.toArray e)):=by
  simp only[execOp,Sem.run_bind,List.map_toArray];rw[hrun]
  rfl
 rw[hrun',Oper.upon_value];refine hK _ _ _ rfl ?_;have hR':R A M w0 n ⟨st.env,st.objs⟩ a (w.alloc (.cells vs.toArray e)):=hR.change (Keeps.alloc (λ_ _=>False) _ _) (λ_ _ h=>h.elim) (λ_ _ _ h=>h) hR.inv.sep λhm m hmm=>
  bY (hR.inv.holds m hmm) (Keeps.alloc (λ_ _=>False) _ _) (λ_ _ _ h=>h) hm
 refine hR'.put (o:=⟨some d,.buildSlice t len l.toArray,ty,pos,af,gd⟩) rfl hd (.d ?_);subst hl;have hm:Mono w (bF A st.objs) (w.alloc (.cells vs.toArray e)) (bF A st.objs):=nJ (Keeps.alloc (λ_ _=>False) _ _) (λ_ _ h=>h.elim) (λ_ _ _ h=>h);refine DR.of_flat hk (hds.mono hm) (λj v hj=>by rw[World.cell?_alloc_new];simpa using hj) (λj hj hx=>?_) (Nat.le_refl _) (by
  have:=Nat.le_mul_of_pos_right rows.length ht.pos;simp only[maxLen];omega)
 exact aHc hR _ hx
theorem aQb{t e k len bytes:Nat}{z:Value}{l:List (Nat×Operand)}{rows:List (List D)}{ty:TypeId}{pos:String}{af:Array Edge}{gd:Option (Nat×Bool)}(hd:d<n)
  (ht:SliceTy P t e k bytes z)(hp:yU l=true){ps:List (Nat×AV)}(hps:st.parts l=ps)(hr:rJ 0 ps=some rows)(hk:∀r∈rows,r.length=k)
  (hl:rows.length=len)(hb:len*k<=16777216):
  Step P n ⟨some d,.buildSlice t len l.toArray,ty,pos,af,gd⟩ st (λs=>∃v,s=(st.setadd d (.d (.lit v)) (.arr v e k rows))):=by
 replace hps:=hps.symm;subst hps
 intro A M w0 a w hR K Q hK;obtain⟨vs,hrun,hds⟩:=aDb (P:=P) ht.of ht.zero ht.size (w:=w) (aEh hR hp) hr hk hl hb;unfold Oper.wp;have hrun':(execOp a.eval ⟨some d,.buildSlice t len l.toArray,ty,pos,af,gd⟩).run P w=.ok (.value (.slice (some ⟨w.heap.size,0,none⟩) len len)) (w.alloc (.cells vs.toArray e)):=by
  simp only[execOp,Sem.run_bind,List.map_toArray];rw[hrun]
  rfl
 rw[hrun',Oper.upon_value];refine hK _ _ _ ⟨.slice (some ⟨w.heap.size,0,none⟩) len len,rfl⟩ ?_;have hlv:vs.length=rows.length*k:=by rw[hds.length,qC hk]
 have hle:len<=maxLen:=by
  have:=Nat.le_mul_of_pos_right len ht.pos;simp only[maxLen];omega
 have hR':=hR.add (w':=w.alloc (.cells vs.toArray e)) (m:=.arr (.slice (some ⟨w.heap.size,0,none⟩) len len) e k rows) (Keeps.alloc _ _ _)
  (λb o hf=>by simp[MO.foot,Value.ownBlock] at hf;omega)
  (λhm=>by
   subst hl;exact⟨vs,hds.mono hm,⟨hlv,.inr ⟨_,_,vs.toArray,rfl,Nat.zero_le _,heap_alloc_new w _,Nat.le_refl _,hle,by simp[hlv],by simp[<-hlv]⟩⟩,hk⟩)
 exact hR'.put (o:=⟨some d,.buildSlice t len l.toArray,ty,pos,af,gd⟩) rfl hd (.of_lit rfl)
theorem sR(e k:Nat){ty:TypeId}{pos:String}{af:Array Edge}{gd:Option (Nat×Bool)}{op:Op}(hop:op=.assign (.const (.slice none 0 0))\/op=.move (.const (.slice none 0 0)))(hd:d<n):
  bB P n ⟨some d,op,ty,pos,af,gd⟩ st (st.setadd d (.d (.lit (.slice none 0 0))) (.arr (.slice none 0 0) e k [])):=by
 intro A M w0 a w hR K Q hK;unfold Oper.wp;have hrun:(execOp a.eval ⟨some d,op,ty,pos,af,gd⟩).run P w=.ok (.value (.slice none 0 0)) w:=by
  rcases hop with rfl|rfl<;>rfl
 rw[hrun,Oper.upon_value];refine hK _ _ _ rfl ?_;have hR':=hR.add (w':=w) (m:=.arr (.slice none 0 0) e k []) (Keeps.refl _ _) (λb o hf=>by simp[MO.foot,Value.ownBlock] at hf)
  (λhm=>⟨[],trivial,⟨by simp,.inl ⟨rfl,rfl⟩⟩,by simp⟩)
 exact hR'.put (o:=⟨some d,op,ty,pos,af,gd⟩) rfl hd (.of_lit rfl)
theorem Keeps.setRow(w:World)(g:Nat)(cs:Array Value){Z:bH}(hz:∀o,Z g o):Keeps Z w (w.setRow g cs):=by
 have hb:∀b,(∀o,¬Z b o)->(w.setRow g cs).heap[b]?=w.heap[b]?:=λb h=>setRow_other w g b cs λe=>h 0 (e▸hz 0);have hne:∀b o,¬Z b o->b≠g:=λb o h e=>h (e▸hz o);exact⟨rfl,rfl,rfl,by simp,λb _ h=>hb b h,λb o _ h=>World.cell?_of_block (setRow_other w g b cs (hne b o h)),λb o _ h=>World.frozen?_of_block (setRow_other w g b cs (hne b o h)),Nat.le_refl _⟩
theorem DR.news{w:World}{X:bH}{k:Nat}{rows:List (List D)}{u:Value}(hu:DR w X (.sl k rows) u)(hkp:0<k)(hk2:∀r∈rows,r.length=k):
  ∃ad m c news,(u=.slice (some ad) m c\/(u=.slice none 0 0/\m=0))/\m=rows.length/\DRs w X rows.flatten news/\(∀j q,news[j]?=some q->w.cell? (ad.add j)=some q):=by
 cases hu with
 |nil=>exact⟨⟨0,0,none⟩,0,0,[],.inr ⟨rfl,rfl⟩,rfl,trivial,by simp⟩
 |e0 _ a=>exact⟨a,0,0,[],.inl rfl,rfl,trivial,by simp⟩
 | sl _ _ b o cap f hk' hcap hmax hc hr=>
  refine⟨⟨b,o,none⟩,rows.length,cap,(List.range (rows.length*k)).map λq=>f (q/k) (q % k),.inl rfl,rfl,?_,?_⟩
  ·refine DRs.of (by simp[qC hk2]) λj dd q hd hq=>?_;have hj:j<rows.length*k:=by rw[<-qC hk2];exact(List.getElem?_eq_some_iff.1 hd).1
   have h1:j/k<rows.length:=by rw[Nat.div_lt_iff_lt_mul hkp];exact hj
   have h2:j % k<k:=Nat.mod_lt _ hkp;have hjk:j/k*k+j % k=j:=by rw[Nat.mul_comm];exact Nat.div_add_mod j k
   have hg:=aGr hk2 (List.getElem?_eq_getElem h1) h2;rw[hjk,hd] at hg;have hr':=hr _ _ h1 h2;simp only[List.getD,List.getElem?_eq_getElem h1,Option.getD_some,<-hg] at hr'
   simp[hj] at hq
   subst hq;exact hr'
  ·intro j q hq;simp only[List.getElem?_map,Option.map_eq_some_iff] at hq;obtain⟨j',h1,rfl⟩:=hq;have hj:j<rows.length*k:=by simpa using(List.getElem?_eq_some_iff.1 h1).1
   have:j'=j:=by simpa[hj] using h1.symm
   subst this;have h1:j'/k<rows.length:=by rw[Nat.div_lt_iff_lt_mul hkp];exact hj
   have h2:j' % k<k:=Nat.mod_lt _ hkp;have hjk:j'/k*k+j' % k=j':=by rw[Nat.mul_comm];exact Nat.div_add_mod j' k
   have:=(hc _ _ h1 h2).1;rw[hjk] at this
   rwa[Addr.add_lit]
theorem bKh{t e k bytes:Nat}{z:Value}(ht:SliceTy P t e k bytes z){A M:bH}{w0:W0}{a:Act}{w:World}(hR:R A M w0 n st a w){i:Nat}{v u:Value}{rows rows2:List (List D)}
  (ho:st.objs[i]?=some (.arr v e k rows))(hu:DR w (bF A st.objs) (.sl k rows2) u)(hk2:∀r∈rows2,r.length=k)(hb:(rows.length+rows2.length)*bytes<=140737488355328)(hby:0<bytes)(ty:TypeId):
  ∃v' w',(Builtin.append_ #[t,t] ty #[v,u]).run P w=.ok v' w'/\v'.oneCell'=true/\R A M w0 n ⟨st.env,st.objs.set i (.arr v' e k (rows++rows2))⟩ a w'/\(v≠.slice none 0 0->v'≠.slice none 0 0):=by
 obtain⟨xs,hxs,hown,hk⟩:=hR.inv.holds _ (List.mem_of_getElem? ho);obtain⟨inf,hi,hz,hs,hbs⟩:=ht.inf;subst hs;subst hbs;have hn63:rows.length+rows2.length<=maxLen:=by
  have:=Nat.le_mul_of_pos_right (rows.length+rows2.length) hby;simp only[maxLen];omega
 have hn64:rows.length+rows2.length<=9223372036854775807:=by simp only[maxLen] at hn63;omega
 obtain⟨ad,m,c,news,hu',rfl,hnd,hnc⟩:=hu.news ht.pos hk2;have hnl:news.length=rows2.length*inf.size:=by rw[hnd.length,qC hk2]
 have hxl:xs.length=rows.length*inf.size:=hown.1;have hall:∀r∈rows++rows2,r.length=inf.size:=λr hr=>by
  rcases List.mem_append.1 hr with h|h
  ·exact hk r h
  ·exact hk2 r h
 have fin:∀cap (cur:Array Value),rows.length+rows2.length<=cap->cap<=maxLen->cur.size=cap*inf.size->cur.toList.take ((rows.length+rows2.length)*inf.size)=xs++news->
   R A M w0 n ⟨st.env,st.objs.set i (.arr (.slice (some ⟨w.heap.size,0,none⟩) (rows.length+rows2.length) cap) e inf.size (rows++rows2))⟩ a (w.drew.alloc (.cells cur e)):=by
  intro cap cur h1 h2 h3 h4;refine hR.replace (Z:=λ_ _=>False) ho ((Keeps.drew _ _).trans (Keeps.alloc _ _ _)) (λ_ _ h=>h.elim) (λb o hf=>.inr (by simp[MO.foot,Value.ownBlock] at hf;omega)) λhm=>?_;refine⟨xs++news,?_,⟨?_,.inr ⟨w.heap.size,cap,cur,?_,Nat.zero_le _,heap_alloc_new w.drew _,?_,h2,h3,?_⟩⟩,hall⟩
  ·rw[List.flatten_append];exact(hxs.append hnd).mono hm
  ·simp[hxl,hnl,Nat.add_mul]
  ·simp
  ·simpa using h1
  ·simpa using h4
 have zc:∀q,(Builtin.zeroCells z.cells q).size=q*inf.size:=λq=>by rw[size_zeroCells,ht.size]
 have gmax:∀old,grownCap w (rows.length+rows2.length) old e<=maxLen:=λold=>grownCap_le_maxLen w _ old e hn63;have gge:∀old,rows.length+rows2.length<=grownCap w (rows.length+rows2.length) old e:=λold=>grownCap_ge w _ old e;have tk:∀(zs:Array Value),(xs.toArray++news.toArray++zs).toList.take ((rows.length+rows2.length)*inf.size)=xs++news:=by
  intro zs;have:(rows.length+rows2.length)*inf.size=(xs++news).length:=by simp[hxl,hnl,Nat.add_mul]
  simp only[Array.toList_append,this];exact List.take_left
 have sz:∀old,(xs.toArray++news.toArray++Builtin.zeroCells z.cells (grownCap w (rows.length+rows2.length) old e-(rows.length+rows2.length))).size=grownCap w (rows.length+rows2.length) old e*inf.size:=by
  intro old;simp only[Array.size_append,List.size_toArray,zc,hxl,hnl];rw[<-Nat.add_mul,<-Nat.add_mul]
  congr 1
  have:=gge old
  omega
 have triv:news=[]->(u=.slice none 0 0/\rows2.length=0)->∃v' w',(Builtin.append_ #[t,t] ty #[v,u]).run P w=.ok v' w'/\v'.oneCell'=true/\R A M w0 n ⟨st.env,st.objs.set i (.arr v' e inf.size (rows++rows2))⟩ a w'/\(v≠.slice none 0 0->v'≠.slice none 0 0):=by
  rintro hn0 ⟨rfl,hm0⟩;have hr2:rows2=[]:=List.eq_nil_of_length_eq_zero hm0;subst hr2;have hset:R A M w0 n ⟨st.env,st.objs.set i (.arr v e inf.size (rows++[]))⟩ a w:=by
   rw[List.append_nil];have:st.objs.set i (.arr v e inf.size rows)=st.objs:=by
    apply List.ext_getElem?;intro j;rw[List.getElem?_set]
    by_cases hj:i=j
    ·subst hj;rw[if_pos rfl,if_pos (List.getElem?_eq_some_iff.1 ho).1];exact ho.symm
    ·rw[if_neg hj]
   rw[this];exact hR
  rcases hown.2 with⟨rfl,h0⟩|⟨g',cap,cur,rfl,hg1,hg2,hg3,hg4⟩
  ·exact⟨.slice none 0 0,w,by simp[Builtin.append_,run_underlying ht.und,sizeOf,typeInfo,hi,Builtin.lenOf,Builtin.firstCells],rfl,by simpa[h0] using hset,λh=>absurd rfl h⟩
  ·exact⟨.slice (some ⟨g',0,none⟩) rows.length cap,w,by simp[Builtin.append_,run_underlying ht.und,sizeOf,typeInfo,hi,Builtin.lenOf,Builtin.firstCells,hg3,storeCells],rfl,hset,λ_ h=>by cases h⟩
 rcases hu'.symm with hu'|rfl
 ·exact triv (List.eq_nil_of_length_eq_zero (by rw[hnl,hu'.2];simp)) hu'
 rcases hown.2 with⟨rfl,h0⟩|⟨g,cap,cur,rfl,hg1,hg2,hg3,hg4,hg5,hg6⟩
 ·have hx0:xs=[]:=List.eq_nil_of_length_eq_zero (by rw[hxl,h0];simp)
  by_cases hm0:rows2.length=0
  ·have hr2:rows2=[]:=List.eq_nil_of_length_eq_zero hm0;subst hr2;refine⟨.slice none 0 0,w,?_,rfl,?_,λh=>absurd rfl h⟩
   ·simp[Builtin.append_,run_underlying ht.und,sizeOf,typeInfo,hi,Builtin.lenOf,Builtin.firstCells,loadCells,loadCellsFrom]
   ·rw[List.append_nil];have:st.objs.set i (.arr (.slice none 0 0) e inf.size rows)=st.objs:=by
     apply List.ext_getElem?;intro j;rw[List.getElem?_set]
     by_cases hj:i=j
     ·subst hj;rw[if_pos rfl,if_pos (List.getElem?_eq_some_iff.1 ho).1];exact ho.symm
     ·rw[if_neg hj]
    rw[this];exact hR
  ·have hr:=run_append_nil (P:=P) w t ty e inf z ht.und hi hz ad rows2.length c news hnl hnc (by omega) (by omega) (by rw[h0,Nat.zero_add] at hb;omega);have hf:=fin (grownCap w (rows.length+rows2.length) 0 e) _ (gge 0) (gmax 0) (sz 0) (tk _);rw[hx0] at hf;simp only[h0,Nat.zero_add,Array.empty_append] at hf;exact⟨_,_,hr,rfl,hf,λ_ h=>by cases h⟩
 ·by_cases hroom:rows.length+rows2.length<=cap
  ·have hfit:rows.length*inf.size+news.length<=cur.size:=by rw[hnl,hg5,<-Nat.add_mul];exact Nat.mul_le_mul_right _ hroom
   have hr:=run_append_room (P:=P) w t ty e inf ht.und hi g rows.length cap cur hg2 ad rows2.length c news hnl hnc hnd.oneCell hroom hfit;refine⟨_,_,hr,rfl,hR.replace (Z:=λb _=>b=g) ho (Keeps.setRow w g _ λ_=>rfl) (λb o hb=>by subst hb;rfl) (λb o hf=>.inl (by simpa[MO.foot,Value.ownBlock] using hf)) (λhm=>?_),λ_ h=>by cases h⟩;refine⟨xs++news,?_,⟨?_,.inr ⟨g,cap,_,?_,Nat.zero_le _,setRow_heap w g cur _ e _ hg2,?_,hg4,?_,?_⟩⟩,hall⟩
   ·rw[List.flatten_append];exact(hxs.append hnd).mono hm
   ·simp[hxl,hnl,Nat.add_mul]
   ·simp
   ·simpa using hroom
   ·simp only[List.size_toArray,List.length_append,List.length_take,List.length_drop,Array.length_toList]
    omega
   ·have:(rows++rows2).length*inf.size=(xs++news).length:=by simp[hxl,hnl,Nat.add_mul]
    rw[this,hg6];exact List.take_left
  ·have holds:∀(j:Nat) (q:Value),xs[j]?=some q->w.cell? ((⟨g,0,none⟩:Addr).add j)=some q:=hown.cells (g:=g) rfl;have hr:=run_append_grow (P:=P) w t ty e inf z ht.und hi hz ⟨g,0,none⟩ rows.length cap xs hxl holds ad rows2.length c news hnl hnc (by omega) (by omega) (growslice_fits (by omega) hb);exact⟨_,_,hr,rfl,fin _ _ (gge cap) (gmax cap) (sz cap) (tk _),λ_ h=>by cases h⟩
theorem aTx{t e k bytes i:Nat}{z v:Value}{x y:Operand}{rows rows2:List (List D)}{ty:TypeId}{pos:String}{af:Array Edge}{gd:Option (Nat×Bool)}(hd:d<n)(ht:SliceTy P t e k bytes z)
  (hx:st.eval x=.d (.lit v))(ho:st.objs[i]?=some (.arr v e k rows))(hy:st.eval y=.d (.sl k rows2))(hk2:∀r∈rows2,r.length=k)
  (hb:(rows.length+rows2.length)*bytes<=140737488355328)(hby:0<bytes):
  Step P n ⟨some d,.call {callee:=.builtin .append,args:= #[x,y],argTypes:= #[t,t]},ty,pos,af,gd⟩ st
   (λs=>∃v',s=(st.setput d (.d (.lit v')) i (.arr v' e k (rows++rows2)))):=by
 intro A M w0 a w hR K Q hK;have hky:cT y=true:=by cases y with|const u=>cases hy|_=>rfl
 have h:=hR.eval' hky;rw[hy] at h
 generalize hu:a.eval y=u at h
 cases h with
 | d h=>
  obtain⟨v',w',hr,h1,hR',hnn⟩:=bKh ht hR ho h hk2 hb hby ty;unfold Oper.wp;have hrun:(execOp a.eval ⟨some d,.call {callee:=.builtin .append,args:= #[x,y],argTypes:= #[t,t]},ty,pos,af,gd⟩).run P w=.ok (.value v') w':=by
   simp[execOp,resolve,invoke,builtin,hR.lit hx,hu,hr]
  rw[hrun,Oper.upon_value];refine hK _ _ _ ⟨v',rfl⟩ ?_;exact hR'.put (o:=⟨some d,.call {callee:=.builtin .append,args:= #[x,y],argTypes:= #[t,t]},ty,pos,af,gd⟩) rfl hd (.of_lit h1)
end
end Go.Am
