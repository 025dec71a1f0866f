/- Several texts, one behind the other. -/
import Derived.Test.YtammglnfelkbpaaGreatDoorAmMem2
section
section
namespace Go.Am
theorem sZ{k:Nat}:∀{rows:List (List D)},(∀r∈rows,r.length=k)->rows.flatten.length=rows.length*k
 |[],_=>by simp
 | r::rows,h=>by
  have h1:=h r (by simp);have h2:=sZ (rows:=rows) λx hx=>h x (j5 _ hx)
  simp[h1,h2,Nat.succ_mul,aH5]
theorem DR.of_flat{w:World}{X:aR}{k b o cap:Nat}{rows:List (List D)}{vs:List Value}(hk:∀r∈rows,r.length=k)(hd:DRs w X rows.flatten vs)(hc:cellsAt w b o vs)
  (hx:∀j,j<vs.length->¬X b (o+j))(hcap:rows.length<=cap)(hmax:cap<=maxLen):DR w X (.sl k rows) (.slice (some ⟨b,o,none⟩) rows.length cap):=by
 have hlen:vs.length=rows.length*k:=by rw[hd.length,sZ hk]
 refine .sl k rows b o cap (λi j=>vs.getD (i*k+j) undef) hk hcap hmax (λi j hi hj=>?_) (λi j hi hj=>?_)
 ·have hlt:i*k+j<vs.length:=by
   rw[hlen]
   calc i*k+j<i*k+k:=by omega
    _=(i+1)*k:=by rw[Nat.succ_mul]
    _<=rows.length*k:=aG0 _ hi
  refine⟨hc _ _ ?_,hx _ hlt⟩
  simp[List.getD,g9 hlt]
 ·have hg:=aIw hk (g9 hi) hj;have hj':j<(rows[i]).length:=by rw[hk _ (j9 hi)];exact hj
  rw[g9 hj'] at hg;obtain⟨v,hv,hdv⟩:=hd.get hg;have e1:(rows.getD i []).getD j (.lit undef)=rows[i][j]:=by simp[List.getD,g9 hi,g9 hj']
  rw[e1];simp only[List.getD,hv,u7];exact hdv
structure SliceTy(P:Program)(t e k bytes:Nat)(z:Value):Prop where
 und:P.underlying t=some (.slice e)
 inf:∃i,P.info? e=some i/\i.zero=some z/\i.size=k/\i.bytes=bytes
 size:z.cells.size=k
 pos:0<k
theorem SliceTy.of{P:Program}{t e k bytes:Nat}{z:Value}(h:SliceTy P t e k bytes z):mD P t e k:=by
 obtain⟨i,hi,_,hs,_⟩:=h.inf;exact⟨λw=>run_underlying h.und w,λw=>by simp[sizeOf,typeInfo,hi,hs]⟩
theorem SliceTy.zero{P:Program}{t e k bytes:Nat}{z:Value}(h:SliceTy P t e k bytes z)(w:World):(zeroValue e).run P w=.ok z w:=by
 obtain⟨i,hi,hz,_⟩:=h.inf
 simp[zeroValue,typeInfo,hi,hz]
theorem aCn[Mode]{A M:aR}{w0:W0}{n:Nat}{st:St}{a:Act}{w:World}(hR:R A M w0 n st a w)(o:Nat):¬aU A st.objs w.heap.size o:=by
 rintro(hx|⟨m,hm',hf⟩)
 ·have:=hR.old _ _ hx;have:=hR.keeps.size;omega
 ·have:=lU (hR.inv.holds m hm') hf;omega
section
variable{P:Program}{n d:Nat}{st:St}{o:Oper}
theorem yA[Mode]{t e k len bytes:Nat}{z:Value}{l:List (Nat×Operand)}{rows:List (List D)}{ty:TypeId}{pos:String}{af:Array Edge}{gd:Option (Nat×Bool)}(hd:d<n)
  (ht:SliceTy P t e k bytes z)(hp:wC l=true){ps:List (Nat×AV)}(hps:st.parts l=ps)(hr:rE 0 ps=some rows)(hk:∀r∈rows,r.length=k)
  (hl:rows.length=len)(hb:len*k<=16777216):aQ P n ⟨some d,.buildSlice t len l.toArray,ty,pos,af,gd⟩ st (st.set d (.d (.sl k rows))):=by
 replace hps:=hps.symm;subst hps
 intro A M w0 a w hR K Q hK;obtain⟨vs,hrun,hds⟩:=aEr (P:=P) ht.of ht.zero ht.size (w:=w) (aBj hR hp) hr hk hl hb;unfold Oper.wp;have hrun':(execOp a.eval ⟨some d,.buildSlice t len l.toArray,ty,pos,af,gd⟩).run P w=.ok (.value (.slice (some ⟨w.heap.size,0,none⟩) len len)) (w.alloc (.cells vs.toArray e)):=by
  simp only[execOp,Sem.run_bind,List.map_toArray];rw[hrun]
  rfl
 rw[hrun',Oper.upon_value];refine hK _ _ _ rfl ?_;have hR':R A M w0 n ⟨st.env,st.objs⟩ a (w.alloc (.cells vs.toArray e)):=hR.change (Keeps.alloc (λ_ _=>False) _ _) (λ_ _ h=>h.elim) (λ_ _ _ h=>h) hR.inv.sep λhm m hmm=>
  cI (hR.inv.holds m hmm) (Keeps.alloc (λ_ _=>False) _ _) (λ_ _ _ h=>h) hm
 refine hR'.put (o:=⟨some d,.buildSlice t len l.toArray,ty,pos,af,gd⟩) rfl hd (.d ?_);subst hl;have hm:Mono w (aU A st.objs) (w.alloc (.cells vs.toArray e)) (aU A st.objs):=lR (Keeps.alloc (λ_ _=>False) _ _) (λ_ _ h=>h.elim) (λ_ _ _ h=>h);refine DR.of_flat hk (hds.mono hm) (λj v hj=>by rw[World.cell?_alloc_new];simpa using hj) (λj hj hx=>?_) (n5 _) (by
  have:=aE6 rows.length ht.pos;simp only[maxLen];omega)
 exact aCn hR _ hx
theorem bFb[Mode]{t e k len bytes:Nat}{z:Value}{l:List (Nat×Operand)}{rows:List (List D)}{ty:TypeId}{pos:String}{af:Array Edge}{gd:Option (Nat×Bool)}(hd:d<n)
  (ht:SliceTy P t e k bytes z)(hp:wC l=true){ps:List (Nat×AV)}(hps:st.parts l=ps)(hr:rE 0 ps=some rows)(hk:∀r∈rows,r.length=k)
  (hl:rows.length=len)(hb:len*k<=16777216):
  Step P n ⟨some d,.buildSlice t len l.toArray,ty,pos,af,gd⟩ st (λs=>∃v,s=(st.setadd d (.d (.lit v)) (.arr v e k rows))):=by
 replace hps:=hps.symm;subst hps
 intro A M w0 a w hR K Q hK;obtain⟨vs,hrun,hds⟩:=aEr (P:=P) ht.of ht.zero ht.size (w:=w) (aBj hR hp) hr hk hl hb;unfold Oper.wp;have hrun':(execOp a.eval ⟨some d,.buildSlice t len l.toArray,ty,pos,af,gd⟩).run P w=.ok (.value (.slice (some ⟨w.heap.size,0,none⟩) len len)) (w.alloc (.cells vs.toArray e)):=by
  simp only[execOp,Sem.run_bind,List.map_toArray];rw[hrun]
  rfl
 rw[hrun',Oper.upon_value];refine hK _ _ _ ⟨.slice (some ⟨w.heap.size,0,none⟩) len len,rfl⟩ ?_;have hlv:vs.length=rows.length*k:=by rw[hds.length,sZ hk]
 have hle:len<=maxLen:=by
  have:=aE6 len ht.pos;simp only[maxLen];omega
 have hR':=hR.add (w':=w.alloc (.cells vs.toArray e)) (m:=.arr (.slice (some ⟨w.heap.size,0,none⟩) len len) e k rows) (Keeps.alloc _ _ _)
  (λb o hf=>by simp[MO.foot,Value.ownBlock] at hf;omega)
  (λhm=>by
   subst hl;exact⟨vs,hds.mono hm,⟨hlv,.inr ⟨_,_,vs.toArray,rfl,aF8 _,heap_alloc_new w _,n5 _,hle,by simp[hlv],by simp[<-hlv]⟩⟩,hk⟩)
 exact hR'.put (o:=⟨some d,.buildSlice t len l.toArray,ty,pos,af,gd⟩) rfl hd (.of_lit rfl)
theorem yB[Mode](e k:Nat){ty:TypeId}{pos:String}{af:Array Edge}{gd:Option (Nat×Bool)}{op:Op}(hop:op=.assign (.const (.slice none 0 0))\/op=.move (.const (.slice none 0 0)))(hd:d<n):
  aQ P n ⟨some d,op,ty,pos,af,gd⟩ st (st.setadd d (.d (.lit (.slice none 0 0))) (.arr (.slice none 0 0) e k [])):=by
 intro A M w0 a w hR K Q hK;unfold Oper.wp;have hrun:(execOp a.eval ⟨some d,op,ty,pos,af,gd⟩).run P w=.ok (.value (.slice none 0 0)) w:=by
  rcases hop with rfl|rfl<;>rfl
 rw[hrun,Oper.upon_value];refine hK _ _ _ rfl ?_;have hR':=hR.add (w':=w) (m:=.arr (.slice none 0 0) e k []) (Keeps.refl _ _) (λb o hf=>by simp[MO.foot,Value.ownBlock] at hf)
  (λhm=>⟨[],trivial,⟨by simp,.inl ⟨rfl,rfl⟩⟩,by simp⟩)
 exact hR'.put (o:=⟨some d,op,ty,pos,af,gd⟩) rfl hd (.of_lit rfl)
theorem Keeps.setRow[Mode](w:World)(g:Nat)(cs:Array Value){Z:aR}(hz:∀o,Z g o):Keeps Z w (w.setRow g cs):=by
 have hb:∀b,(∀o,¬Z b o)->(w.setRow g cs).heap[b]?=w.heap[b]?:=λb h=>setRow_other w g b cs λe=>h 0 (e▸hz 0);have hne:∀b o,¬Z b o->b≠g:=λb o h e=>h (e▸hz o);exact⟨rfl,rfl,rfl,by simp,λb _ h=>hb b h,λb o _ h=>World.cell?_of_block (setRow_other w g b cs (hne b o h)),λb o _ h=>World.frozen?_of_block (setRow_other w g b cs (hne b o h)),λ_=>n5 _⟩
theorem DR.news{w:World}{X:aR}{k:Nat}{rows:List (List D)}{u:Value}(hu:DR w X (.sl k rows) u)(hkp:0<k)(hk2:∀r∈rows,r.length=k):
  ∃ad m c news,(u=.slice (some ad) m c\/(u=.slice none 0 0/\m=0))/\m=rows.length/\DRs w X rows.flatten news/\(∀j q,news[j]?=some q->w.cell? (ad.add j)=some q):=by
 cases hu with
 |nil=>exact⟨⟨0,0,none⟩,0,0,[],.inr ⟨rfl,rfl⟩,rfl,trivial,by simp⟩
 |e0 _ a=>exact⟨a,0,0,[],.inl rfl,rfl,trivial,by simp⟩
 | sl _ _ b o cap f hk' hcap hmax hc hr=>
  refine⟨⟨b,o,none⟩,rows.length,cap,(List.range (rows.length*k)).map λq=>f (q/k) (q % k),.inl rfl,rfl,?_,?_⟩
  ·refine DRs.of (by simp[sZ hk2]) λj dd q hd hq=>?_;have hj:j<rows.length*k:=by rw[<-sZ hk2];exact(g7.1 hd).1
   have h1:j/k<rows.length:=by rw[Nat.div_lt_iff_lt_mul hkp];exact hj
   have h2:j % k<k:=Nat.mod_lt _ hkp;have hjk:j/k*k+j % k=j:=by rw[Nat.mul_comm];exact Nat.div_add_mod j k
   have hg:=aIw hk2 (g9 h1) h2;rw[hjk,hd] at hg;have hr':=hr _ _ h1 h2;simp only[List.getD,g9 h1,u7,<-hg] at hr'
   simp[hj] at hq
   subst hq;exact hr'
  ·intro j q hq;simp only[p8,Option.map_eq_some_iff] at hq;obtain⟨j',h1,rfl⟩:=hq;have hj:j<rows.length*k:=by simpa using(g7.1 h1).1
   have:j'=j:=by simpa[hj] using h1.symm
   subst this;have h1:j'/k<rows.length:=by rw[Nat.div_lt_iff_lt_mul hkp];exact hj
   have h2:j' % k<k:=Nat.mod_lt _ hkp;have hjk:j'/k*k+j' % k=j':=by rw[Nat.mul_comm];exact Nat.div_add_mod j' k
   have:=(hc _ _ h1 h2).1;rw[hjk] at this
   rwa[Addr.add_lit]
theorem bPt[Mode]{t e k bytes:Nat}{z:Value}(ht:SliceTy P t e k bytes z){A M:aR}{w0:W0}{a:Act}{w:World}(hR:R A M w0 n st a w){i:Nat}{v u:Value}{rows rows2:List (List D)}
  (ho:st.objs[i]?=some (.arr v e k rows))(hu:DR w (aU A st.objs) (.sl k rows2) u)(hk2:∀r∈rows2,r.length=k)(hb:(rows.length+rows2.length)*bytes<=140737488355328)(hby:0<bytes)(ty:TypeId):
  ∃v' w',(Builtin.append_ #[t,t] ty #[v,u]).run P w=.ok v' w'/\v'.oneCell'=true/\R A M w0 n ⟨st.env,st.objs.set i (.arr v' e k (rows++rows2))⟩ a w'/\(v≠.slice none 0 0->v'≠.slice none 0 0):=by
 obtain⟨xs,hxs,hown,hk⟩:=hR.inv.holds _ (i8 ho);obtain⟨inf,hi,hz,hs,hbs⟩:=ht.inf;subst hs;subst hbs;have hn63:rows.length+rows2.length<=maxLen:=by
  have:=aE6 (rows.length+rows2.length) hby;simp only[maxLen];omega
 have hn64:rows.length+rows2.length<=9223372036854775807:=by simp only[maxLen] at hn63;omega
 obtain⟨ad,m,c,news,hu',rfl,hnd,hnc⟩:=hu.news ht.pos hk2;have hnl:news.length=rows2.length*inf.size:=by rw[hnd.length,sZ hk2]
 have hxl:xs.length=rows.length*inf.size:=hown.1;have hall:∀r∈rows++rows2,r.length=inf.size:=λr hr=>by
  rcases i6.1 hr with h|h
  ·exact hk r h
  ·exact hk2 r h
 have fin:∀cap (cur:Array Value),rows.length+rows2.length<=cap->cap<=maxLen->cur.size=cap*inf.size->cur.toList.take ((rows.length+rows2.length)*inf.size)=xs++news->
   R A M w0 n ⟨st.env,st.objs.set i (.arr (.slice (some ⟨w.heap.size,0,none⟩) (rows.length+rows2.length) cap) e inf.size (rows++rows2))⟩ a (w.drew.alloc (.cells cur e)):=by
  intro cap cur h1 h2 h3 h4;refine hR.replace (Z:=λ_ _=>False) ho ((Keeps.drew _ _).trans (Keeps.alloc _ _ _)) (λ_ _ h=>h.elim) (λb o hf=>.inr (by simp[MO.foot,Value.ownBlock] at hf;omega)) λhm=>?_;refine⟨xs++news,?_,⟨?_,.inr ⟨w.heap.size,cap,cur,?_,aF8 _,heap_alloc_new w.drew _,?_,h2,h3,?_⟩⟩,hall⟩
  ·rw[List.flatten_append];exact(hxs.append hnd).mono hm
  ·simp[hxl,hnl,Nat.add_mul]
  ·simp
  ·simpa using h1
  ·simpa using h4
 have zc:∀q,(Builtin.zeroCells z.cells q).size=q*inf.size:=λq=>by rw[size_zeroCells,ht.size]
 have gmax:∀old,grownCap w (rows.length+rows2.length) old e<=maxLen:=λold=>grownCap_le_maxLen w _ old e hn63;have gge:∀old,rows.length+rows2.length<=grownCap w (rows.length+rows2.length) old e:=λold=>grownCap_ge w _ old e;have tk:∀(zs:Array Value),(xs.toArray++news.toArray++zs).toList.take ((rows.length+rows2.length)*inf.size)=xs++news:=by
  intro zs;have:(rows.length+rows2.length)*inf.size=(xs++news).length:=by simp[hxl,hnl,Nat.add_mul]
  simp only[Array.toList_append,this];exact List.take_left
 have sz:∀old,(xs.toArray++news.toArray++Builtin.zeroCells z.cells (grownCap w (rows.length+rows2.length) old e-(rows.length+rows2.length))).size=grownCap w (rows.length+rows2.length) old e*inf.size:=by
  intro old;simp only[Array.size_append,List.size_toArray,zc,hxl,hnl];rw[<-Nat.add_mul,<-Nat.add_mul]
  congr 1
  have:=gge old
  omega
 have triv:news=[]->(u=.slice none 0 0/\rows2.length=0)->∃v' w',(Builtin.append_ #[t,t] ty #[v,u]).run P w=.ok v' w'/\v'.oneCell'=true/\R A M w0 n ⟨st.env,st.objs.set i (.arr v' e inf.size (rows++rows2))⟩ a w'/\(v≠.slice none 0 0->v'≠.slice none 0 0):=by
  rintro hn0 ⟨rfl,hm0⟩;have hr2:rows2=[]:=y7 hm0;subst hr2;have hset:R A M w0 n ⟨st.env,st.objs.set i (.arr v e inf.size (rows++[]))⟩ a w:=by
   rw[aA2];have:st.objs.set i (.arr v e inf.size rows)=st.objs:=by
    apply aD2;intro j;rw[aB3]
    by_cases hj:i=j
    ·subst hj;rw[if_pos rfl,if_pos (g7.1 ho).1];exact ho.symm
    ·rw[if_neg hj]
   rw[this];exact hR
  rcases hown.2 with⟨rfl,h0⟩|⟨g',cap,cur,rfl,hg1,hg2,hg3,hg4⟩
  ·exact⟨.slice none 0 0,w,by simp[Builtin.append_,run_underlying ht.und,sizeOf,typeInfo,hi,Builtin.lenOf,Builtin.firstCells],rfl,by simpa[h0] using hset,λh=>absurd rfl h⟩
  ·exact⟨.slice (some ⟨g',0,none⟩) rows.length cap,w,by simp[Builtin.append_,run_underlying ht.und,sizeOf,typeInfo,hi,Builtin.lenOf,Builtin.firstCells,hg3,storeCells],rfl,hset,λ_ h=>by cases h⟩
 rcases hu'.symm with hu'|rfl
 ·exact triv (y7 (by rw[hnl,hu'.2];simp)) hu'
 rcases hown.2 with⟨rfl,h0⟩|⟨g,cap,cur,rfl,hg1,hg2,hg3,hg4,hg5,hg6⟩
 ·have hx0:xs=[]:=y7 (by rw[hxl,h0];simp)
  by_cases hm0:rows2.length=0
  ·have hr2:rows2=[]:=y7 hm0;subst hr2;refine⟨.slice none 0 0,w,?_,rfl,?_,λh=>absurd rfl h⟩
   ·simp[Builtin.append_,run_underlying ht.und,sizeOf,typeInfo,hi,Builtin.lenOf,Builtin.firstCells,loadCells,loadCellsFrom]
   ·rw[aA2];have:st.objs.set i (.arr (.slice none 0 0) e inf.size rows)=st.objs:=by
     apply aD2;intro j;rw[aB3]
     by_cases hj:i=j
     ·subst hj;rw[if_pos rfl,if_pos (g7.1 ho).1];exact ho.symm
     ·rw[if_neg hj]
    rw[this];exact hR
  ·have hr:=run_append_nil (P:=P) w t ty e inf z ht.und hi hz ad rows2.length c news hnl hnc (by omega) (by omega) (by rw[h0,s8] at hb;omega);have hf:=fin (grownCap w (rows.length+rows2.length) 0 e) _ (gge 0) (gmax 0) (sz 0) (tk _);rw[hx0] at hf;simp only[h0,s8,Array.empty_append] at hf;exact⟨_,_,hr,rfl,hf,λ_ h=>by cases h⟩
 ·by_cases hroom:rows.length+rows2.length<=cap
  ·have hfit:rows.length*inf.size+news.length<=cur.size:=by rw[hnl,hg5,<-Nat.add_mul];exact aG0 _ hroom
   have hr:=run_append_room (P:=P) w t ty e inf ht.und hi g rows.length cap cur hg2 ad rows2.length c news hnl hnc hnd.oneCell hroom hfit;refine⟨_,_,hr,rfl,hR.replace (Z:=λb _=>b=g) ho (Keeps.setRow w g _ λ_=>rfl) (λb o hb=>by subst hb;rfl) (λb o hf=>.inl (by simpa[MO.foot,Value.ownBlock] using hf)) (λhm=>?_),λ_ h=>by cases h⟩;refine⟨xs++news,?_,⟨?_,.inr ⟨g,cap,_,?_,aF8 _,setRow_heap w g cur _ e _ hg2,?_,hg4,?_,?_⟩⟩,hall⟩
   ·rw[List.flatten_append];exact(hxs.append hnd).mono hm
   ·simp[hxl,hnl,Nat.add_mul]
   ·simp
   ·simpa using hroom
   ·simp only[List.size_toArray,aA8,List.length_take,List.length_drop,Array.length_toList]
    omega
   ·have:(rows++rows2).length*inf.size=(xs++news).length:=by simp[hxl,hnl,Nat.add_mul]
    rw[this,hg6];exact List.take_left
  ·have holds:∀(j:Nat) (q:Value),xs[j]?=some q->w.cell? ((⟨g,0,none⟩:Addr).add j)=some q:=hown.cells (g:=g) rfl;have hr:=run_append_grow (P:=P) w t ty e inf z ht.und hi hz ⟨g,0,none⟩ rows.length cap xs hxl holds ad rows2.length c news hnl hnc (by omega) (by omega) (growslice_fits (by omega) hb);exact⟨_,_,hr,rfl,fin _ _ (gge cap) (gmax cap) (sz cap) (tk _),λ_ h=>by cases h⟩
theorem aXc[Mode]{t e k bytes i:Nat}{z v:Value}{x y:Operand}{rows rows2:List (List D)}{ty:TypeId}{pos:String}{af:Array Edge}{gd:Option (Nat×Bool)}(hd:d<n)(ht:SliceTy P t e k bytes z)
  (hx:st.eval x=.d (.lit v))(ho:st.objs[i]?=some (.arr v e k rows))(hy:st.eval y=.d (.sl k rows2))(hk2:∀r∈rows2,r.length=k)
  (hb:(rows.length+rows2.length)*bytes<=140737488355328)(hby:0<bytes):
  Step P n ⟨some d,.call {callee:=.builtin .append,args:= #[x,y],argTypes:= #[t,t]},ty,pos,af,gd⟩ st
   (λs=>∃v',s=(st.setput d (.d (.lit v')) i (.arr v' e k (rows++rows2)))):=by
 intro A M w0 a w hR K Q hK;have hky:cD y=true:=by cases y with|const u=>cases hy|_=>rfl
 have h:=hR.eval' hky;rw[hy] at h
 generalize hu:a.eval y=u at h
 cases h with
 | d h=>
  obtain⟨v',w',hr,h1,hR',hnn⟩:=bPt ht hR ho h hk2 hb hby ty;unfold Oper.wp;have hrun:(execOp a.eval ⟨some d,.call {callee:=.builtin .append,args:= #[x,y],argTypes:= #[t,t]},ty,pos,af,gd⟩).run P w=.ok (.value v') w':=by
   simp[execOp,resolve,invoke,builtin,hR.lit hx,hu,hr]
  rw[hrun,Oper.upon_value];refine hK _ _ _ ⟨v',rfl⟩ ?_;exact hR'.put (o:=⟨some d,.call {callee:=.builtin .append,args:= #[x,y],argTypes:= #[t,t]},ty,pos,af,gd⟩) rfl hd (.of_lit h1)
end
end Go.Am
end
section
namespace Go.Am
theorem bHz{k:Nat}:∀{rows:List (List D)} {i:Nat} {ds:List D},(∀r∈rows,r.length=k)->rows[i]?=some ds->∀{c:Nat} {es:List D},c+es.length<=k->
  (rows.set i (dO ds c es)).flatten=dO rows.flatten (i*k+c) es
 |[],i,ds,_,h,c,es,_=>by simp at h
 | r::rows,0,ds,hk,h,c,es,hc=>by
  simp at h;subst h
  have hr:=hk r (by simp);simp only[List.set_cons_zero,aB9,Nat.zero_mul,s8,dO];rw[aE4 (by omega),List.drop_append_of_le_length (by omega)]
  simp[List.append_assoc]
 | r::rows,i+1,ds,hk,h,c,es,hc=>by
  have hr:=hk r (by simp);have ih:=bHz (rows:=rows) (i:=i) (ds:=ds) (λx hx=>hk x (j5 _ hx)) (by simpa using h) hc;simp only[List.set_cons_succ,aB9,dO];rw[show(i+1)*k+c=r.length+(i*k+c) by rw[Nat.succ_mul,hr];omega];rw[show r.length+(i*k+c)+es.length=r.length+(i*k+c+es.length) by omega];have h1:(r++rows.flatten).take (r.length+(i*k+c))=r++rows.flatten.take (i*k+c):=by simp[List.take_append,aC6]
  have h2:(r++rows.flatten).drop (r.length+(i*k+c+es.length))=rows.flatten.drop (i*k+c+es.length):=by simp[List.drop_append]
  rw[h1,h2];simp only[dO] at ih;simp only[List.append_assoc] at ih|-;rw[ih]
theorem bMf{k:Nat}{rows:List (List D)}{i:Nat}{es:List D}(h:∀r∈rows,r.length=k)(he:es.length=k):∀r∈rows.set i es,r.length=k:=by
 intro r hr
 rcases aC0 hr with h1|rfl
 ·exact h r h1
 ·exact he
section
variable{P:Program}{n d:Nat}{st:St}{o:Oper}
theorem bSm[Mode]{x y:Operand}{t m i c l k e:Nat}{u:Value}{rows rows':List (List D)}{ds es:List D}{v:AV}{ty:TypeId}{pos:String}{af:Array Edge}{gd:Option (Nat×Bool)}
  (hx:st.eval x=.ep u k i c)(ho:st.objs[l]?=some (.arr u e k rows))(hi:rows[i]?=some ds)(hy:st.eval y=v)(hk:cD y=true)(hv:v.cells=some es)(ht:∀w,(sizeOf t).run P w=.ok m w)
  (hm:es.length=m)(hm0:0<m)(hj:c+es.length<=ds.length)(hrows:rows.set i (dO ds c es)=rows'):
  aQ P n ⟨none,.store t x y,ty,pos,af,gd⟩ st (st.put1 l (.arr u e k rows')):=by
 intro A M w0 a w hR K Q hK;have hkx:cD x=true:=by cases x with|const u=>cases hx|_=>rfl
 have h:=hR.eval' hkx;rw[hx] at h;have hyv:=hR.eval' hk;rw[hy] at hyv;have hes:=hyv.cells hv;have hle:=hes.length;have hsz:(a.eval y).cells.size=m:=by rw[<-Array.length_toList,hle,hm]
 generalize hpt:a.eval x=px at h
 cases h with
 | ep g len cap=>
  obtain⟨xs,hxs,hown,hr⟩:=hR.inv.holds _ (i8 ho);obtain⟨xs',hxs',hc,_⟩:=aRc (hR.inv.holds _ (i8 ho))
  rcases hown.2 with⟨h0,_⟩|⟨g',cap',cur,heq,hg1,hg2,hg3,hg4,hg5,hg6⟩
  ·cases h0
  ·obtain⟨h1,h2,h3⟩:g=g'/\len=rows.length/\cap=cap':=by simpa using heq
   subst h1;subst h2;subst h3;have hdk:ds.length=k:=hr _ (i8 hi);have hil:i<rows.length:=(g7.1 hi).1;have hfl:=sZ hr;have hend:i*k+c+es.length<=rows.flatten.length:=by
    rw[hfl];have:(i+1)*k<=rows.length*k:=aG0 _ hil;rw[Nat.succ_mul] at this
    omega
   have hl2:=hxs.length;have hcs:rows.length*k<=cur.size:=by rw[hg5];exact aG0 _ hg3
   have hcell:∀j,j<cur.size->w.cell? ⟨g,j,none⟩=cur[j]?:=λj _=>cell_of_row w g j cur e (0,0) hg2;have hst:=aKy (P:=P) ht (w:=w) (b:=g) (o:=i*k+c) hsz (λq hq=>by rw[hcell _ (by omega),u1 (by omega)];rfl)
    (λq hq=>frozen_of_row w g _ cur e hg2) hes.oneCell
   unfold Oper.wp;have hrun:(execOp a.eval ⟨none,.store t x y,ty,pos,af,gd⟩).run P w=.ok .skip (w.setCells g (i*k+c) (a.eval y).cells.toList):=by
    simp[execOp,hpt,hst]
   rw[hrun,Oper.upon_skip];refine hK _ _ _ rfl ?_;subst hrows;have hne:(a.eval y).cells.toList≠[]:=by intro h0;rw[h0] at hle;simp at hle;omega
   have hcx:cellsAt w g 0 xs:=by
    intro j v hjv;have:=hown.cells (g:=g) rfl j v hjv
    rwa[Addr.add_lit] at this
   have hrow:∀(vs:List Value) (off:Nat) (w:World) (cur:Array Value),w.heap[g]?=some (.cells cur e (0,0))->∃cur',(w.setCells g off vs).heap[g]?=some (.cells cur' e (0,0))/\cur'.size=cur.size:=by
    intro vs
    induction vs with
    |nil=>exactλoff w cur hh=>⟨cur,hh,rfl⟩
    | cons v vs ih=>
     intro off w cur hh;obtain⟨cur',h1,h2⟩:=ih (off+1) (w.setCell ⟨g,off,none⟩ v) _ (heap_setCell_same w g off cur e v hh);exact⟨cur',h1,by simpa using h2⟩
   have hR':=hR.replace (w':=w.setCells g (i*k+c) (a.eval y).cells.toList) (m':=.arr (.slice (some ⟨g,0,none⟩) rows.length cap) e k (rows.set i (dO ds c es))) ho
    (Keeps.setCells w g (i*k+c) _ (Z:=λb _=>b=g) (λq h1 h2=>rfl) hne)
    (λb o hb=>by subst hb;rfl) (λb o hf=>.inl (by simpa[MO.foot,Value.ownBlock] using hf)) λhmono=>by
     have hp:=aVl (b:=g) (o:=0) (j:=i*k+c) hxs hcx hes hend (by simpa using hmono);simp only[s8] at hp;obtain⟨vs',h1,h2⟩:=hp;obtain⟨cur',hc1,hc2⟩:=hrow (a.eval y).cells.toList (i*k+c) w cur hg2;have hvl:=h1.length;rw[aCp hend,hfl] at hvl;refine⟨vs',by rw[bHz hr hi (by omega)];exact h1,⟨by simp[hvl],.inr ⟨g,cap,cur',by simp,hg1,hc1,by simpa using hg3,hg4,by rw[hc2,hg5],?_⟩⟩,bMf hr (by rw[aCp hj,hdk])⟩;simp only[aA7];apply aD2;intro q;rw[aF3]
     split
     ·rename_i hq
      have hq':q<vs'.length:=by omega
      have:=h2 q _ (g9 hq');rw[s8,cell_of_row _ g q cur' e (0,0) hc1] at this;rw[g9 hq',<-this]
      simp
     ·rw[aC3 (by omega)]
   exact hR'.put_none rfl
def mk{α:Type}(bytes:Nat)(m:Int)(z:α):Option (List α):=if 0<=m/\m*bytes<=140737488355328 then some (List.replicate m.toNat z) else none
theorem cGr{α:Type}{bytes:Nat}{m:Int}{z:α}{l:List α}(h:mk bytes m z=some l):0<=m/\m*bytes<=140737488355328/\l=List.replicate m.toNat z:=by
 unfold mk at h;split at h
 ·rename_i hc;cases h;exact⟨hc.1,hc.2,rfl⟩
 ·cases h
theorem bVv(zs:List Value)(hz:0<zs.length):∀(m:Nat),(madeCells zs.toArray (m*zs.length)).toList=(List.replicate m zs).flatten:=by
 intro m;apply aD2;intro i;simp only[madeCells,Array.toList_map,Array.toList_range,p8];have hfl:(List.replicate m zs).flatten.length=m*zs.length:=by simp
 by_cases hi:i<m*zs.length
 ·rw [List.getElem?_range hi];have h1:i/zs.length<m:=by rw[Nat.div_lt_iff_lt_mul hz];exact hi
  have h2:i % zs.length<zs.length:=Nat.mod_lt _ hz;have h3:i/zs.length*zs.length+i % zs.length=i:=by rw[Nat.mul_comm];exact Nat.div_add_mod i _
  have key:∀(m q r:Nat),q<m->r<zs.length->(List.replicate m zs).flatten[q*zs.length+r]?=zs[r]?:=by
   intro m
   induction m with
   |zero=>intro q r h;omega
   | succ m ih=>
    intro q r hq hr;rw[List.replicate_succ,aB9];cases q with
    |zero=>rw[Nat.zero_mul,s8,m9 hr]
    | succ q=>
     rw[p7 (by rw[Nat.succ_mul];omega),show(q+1)*zs.length+r-zs.length=q*zs.length+r by rw[Nat.succ_mul];omega];exact ih q r (by omega) hr
  have:=key m _ _ h1 h2;rw[h3] at this;rw[this]
  simp[h2]
 ·rw[aC3 (by simp;omega),aC3 (by omega)]
  rfl
theorem aQc{w:World}{X:aR}{zs:List D}{vs:List Value}(h:DRs w X zs vs):∀m,DRs w X (List.replicate m zs).flatten (List.replicate m vs).flatten
 |0=>trivial
 |m+1=>by simpa[List.replicate_succ] using h.append (aQc h m)
theorem cLo[Mode]{t e k bytes:Nat}{z:Value}{zs:List D}{x y:Operand}{k1 k2:IntKind}{m:Int}{rows:List (List D)}{ty:TypeId}{pos:String}{af:Array Edge}{gd:Option (Nat×Bool)}(hd:d<n)(ht:SliceTy P t e k bytes z)
  (hx:st.eval x=.d (.lit (.int k1 m)))(hy:st.eval y=.d (.lit (.int k2 m)))(hz:z.cells=(zs.map bD).toArray)(hok:zOK zs=true)(hm:mk bytes m zs=some rows)(hby:0<bytes):
  Step P n ⟨some d,.makeSlice t x y,ty,pos,af,gd⟩ st (λs=>∃v,s=(st.setadd d (.d (.lit v)) (.arr v e k rows))):=by
 intro A M w0 a w hR K Q hK;obtain⟨h0,hb,rfl⟩:=cGr hm;obtain⟨inf,hi,hzi,hs,hbs⟩:=ht.inf;subst hs;subst hbs;have hzl:zs.length=inf.size:=by have:=ht.size;rw[hz] at this;simpa using this
 have hm63:m<=140737488355328:=by
  have:m*1<=m*(inf.bytes:Int):=Int.mul_le_mul_of_nonneg_left (by omega) h0
  omega
 have hr:=run_make (P:=P) w t e inf z ht.und hi hzi k1 k2 m m h0 (aG5 _) (by rw[Int.mul_comm];omega) (by omega);have hcells:madeCells z.cells (m.toNat*inf.size)=((List.replicate m.toNat (zs.map bD)).flatten).toArray:=by
  apply Array.ext';have:=bVv (zs.map bD) (by simp[hzl];exact ht.pos) m.toNat;simp only[m8,hzl] at this;rw[hz,this]
 rw[hcells] at hr;unfold Oper.wp;have hrun:(execOp a.eval ⟨some d,.makeSlice t x y,ty,pos,af,gd⟩).run P w=.ok (.value (.slice (some ⟨w.heap.size,0,none⟩) m.toNat m.toNat)) (w.alloc (.cells ((List.replicate m.toNat (zs.map bD)).flatten).toArray e)):=by
  simp[execOp,hR.lit hx,hR.lit hy,hr]
 rw[hrun,Oper.upon_value];refine hK _ _ _ ⟨.slice (some ⟨w.heap.size,0,none⟩) m.toNat m.toNat,rfl⟩ ?_;have hk:∀r∈List.replicate m.toNat zs,r.length=inf.size:=λr hr=>by rw[(List.mem_replicate.1 hr).2,hzl]
 have hR':=hR.add (w':=w.alloc (.cells ((List.replicate m.toNat (zs.map bD)).flatten).toArray e)) (m:=.arr (.slice (some ⟨w.heap.size,0,none⟩) m.toNat m.toNat) e inf.size (List.replicate m.toNat zs)) (Keeps.alloc _ _ _)
  (λb o hf=>by simp[MO.foot,Value.ownBlock] at hf;omega)
  (λhmo=>by
   have hds:=(aQc (aAs (w:=w) (X:=aU A st.objs) hok) m.toNat).mono hmo;have hl:=hds.length;rw[sZ hk,List.length_replicate] at hl;refine⟨_,hds,⟨by simpa using hl,.inr ⟨w.heap.size,m.toNat,_,by simp,aF8 _,heap_alloc_new w _,by simp,by simp only[maxLen];omega,?_,?_⟩⟩,hk⟩
   ·simpa using hl
   ·rw[List.length_replicate,<-hl];exact aC4)
 exact hR'.put (o:=⟨some d,.makeSlice t x y,ty,pos,af,gd⟩) rfl hd (.of_lit rfl)
def sub{α:Type}(xs:List α)(lo hi:Int):Option (List α):=if 0<=lo/\lo<=hi/\hi<=xs.length then some ((xs.take hi.toNat).drop lo.toNat) else none
theorem aXh{α:Type}{xs ys:List α}{lo hi:Int}(h:sub xs lo hi=some ys):0<=lo/\lo<=hi/\hi<=xs.length/\ys=(xs.take hi.toNat).drop lo.toNat:=by
 unfold sub at h;split at h
 ·rename_i hc;cases h;exact⟨hc.1,hc.2.1,hc.2.2,rfl⟩
 ·cases h
theorem cId{α β:Type}(f:α->β){xs ys:List α}{lo hi:Int}(h:sub xs lo hi=some ys):sub (xs.map f) lo hi=some (ys.map f):=by
 obtain⟨h1,h2,h3,rfl⟩:=aXh h
 simp[sub,h1,h2,h3,List.map_take,List.map_drop]
theorem DR.part{w:World}{X:aR}{k:Nat}{rows:List (List D)}{v:Value}(h:DR w X (.sl k rows) v){l m:Nat}(hlm:l<=m)(hm:m<=rows.length):
  ∃a c,v=.slice a rows.length c/\rows.length<=c/\∀m',m<=m'->m'<=c->DR w X (.sl k ((rows.take m).drop l)) (.slice (if m'=l then a else a.map (·.add (l*k))) (m-l) (m'-l)):=by
 cases h with
 | nil=>
  refine⟨none,0,rfl,n5 _,λm' h1 h2=>?_⟩;simp only[aF1,Nat.le_zero] at hm h2;subst hm;subst h2;have hl0:l=0:=by omega
  subst hl0
  simp
  exact .nil k
 | e0 _ a=>
  refine⟨some a,0,rfl,n5 _,λm' h1 h2=>?_⟩;simp only[aF1,Nat.le_zero] at hm h2;subst hm;subst h2;have hl0:l=0:=by omega
  subst hl0
  simp
  exact .e0 k a
 | sl _ _ b o cap f hk hcap hmax hc hr=>
  refine⟨some ⟨b,o,none⟩,cap,rfl,hcap,λm' h1 h2=>?_⟩;have hlen:((rows.take m).drop l).length=m-l:=by simp;omega
  have key:∀o',(m=l\/o'=o+l*k)->DR w X (.sl k ((rows.take m).drop l)) (.slice (some ⟨b,o',none⟩) (m-l) (m'-l)):=by
   intro o' ho';rw[<-hlen];refine .sl k _ b o' _ (λi j=>f (l+i) j) (λr hr=>hk r (List.mem_of_mem_take (List.mem_of_mem_drop hr))) (by omega) (by omega) (λi j hi hj=>?_) (λi j hi hj=>?_)
   ·rw[hlen] at hi
    rcases ho' with h0|rfl
    ·omega
    ·have:=hc (l+i) j (by omega) hj;rw[show o+l*k+(i*k+j)=o+((l+i)*k+j) by rw[Nat.add_mul];omega];exact this
   ·rw[hlen] at hi;have:=hr (l+i) j (by omega) hj;have e:((rows.take m).drop l).getD i []=rows.getD (l+i) []:=by
     simp only[List.getD,aG9];rw[aF3,if_pos (by omega)]
    rw[e];exact this
  split
  ·rename_i hml
   exact key o (.inl (by omega))
  ·have:=key (o+l*k) (.inr rfl)
   simpa[Addr.add_lit] using this
def nE(st:St):Option Operand->Int->Option Int
 |none,z=>some z
 |some x,_=>match st.eval x with| .d (.lit (.int _ p))=>some p|_=>none
theorem aHs[Mode]{x:Operand}{t e k:Nat}{lo hi:Option Operand}{rows es:List (List D)}{p q:Int}{ty:TypeId}{pos:String}{af:Array Edge}{gd:Option (Nat×Bool)}(hd:d<n)(ht:mD P t e k)
  (hx:st.eval x=.d (.sl k rows))(hlo:nE st lo 0=some p)(hhi:nE st hi rows.length=some q)(hs:sub rows p q=some es):
  aQ P n ⟨some d,.slice t x lo hi none,ty,pos,af,gd⟩ st (st.set d (.d (.sl k es))):=
 cG rfl hd λA M w0 a w hR=>by
  have hk:cD x=true:=by cases x with|const u=>cases hx|_=>rfl
  have h:=hR.eval' hk;rw[hx] at h
  generalize hu:a.eval x=u at h
  obtain⟨h1,h2,h3,rfl⟩:=aXh hs;cases h with
  | d h=>
   obtain⟨ad,c,rfl,hcap,hp⟩:=h.part (l:=p.toNat) (m:=q.toNat) (by omega) (by omega);have hfin:=hp c (by omega) (n5 _);refine⟨_,?_,.d hfin⟩;have b1:lo=none/\p=0\/∃y kd,lo=some y/\a.eval y=.int kd p:=by
    cases lo with
    |none=>left;simp only[nE,m7] at hlo;exact⟨rfl,hlo.symm⟩
    | some y=>
     right
     simp only[nE] at hlo;split at hlo
     ·rename_i kd p' he;cases hlo;exact⟨y,kd,rfl,hR.lit he⟩
     ·cases hlo
   have b2:hi=none/\q=rows.length\/∃y kd,hi=some y/\a.eval y=.int kd q:=by
    cases hi with
    |none=>left;simp only[nE,m7] at hhi;exact⟨rfl,hhi.symm⟩
    | some y=>
     right
     simp only[nE] at hhi;split at hhi
     ·rename_i kd p' he;cases hhi;exact⟨y,kd,rfl,hR.lit he⟩
     ·cases hhi
   have e1:(Instr.sliceBounds true rows.length c (lo.map a.eval) (hi.map a.eval) none).run P w=.ok (p.toNat,q.toNat,c) w:=by
    rcases b1 with⟨rfl,rfl⟩|⟨y,kd,rfl,hy⟩<;>rcases b2 with⟨rfl,rfl⟩|⟨y',kd',rfl,hy'⟩
    ·simp[Instr.sliceBounds]
    ·simp[Instr.sliceBounds,Instr.sliceBound,asIntOf,hy',show 0<=q by omega,show q<=(c:Int) by omega]
    ·simp[Instr.sliceBounds,Instr.sliceBound,asIntOf,hy,h1,show p<=(rows.length:Int) by omega]
    ·simp[Instr.sliceBounds,Instr.sliceBound,asIntOf,hy',hy,h1,show 0<=q by omega,show q<=(c:Int) by omega]
     intro h0
     omega
   simp[execOp,Instr.sliceAt,Instr.slice,ht.1,ht.2,hu,e1]
end
inductive DV(fs:List MO):D->D->Prop where
 |same (x:D):DV fs x x
 |nil (k:Nat):DV fs (.lit (.slice none 0 0)) (.sl k [])
 |weak (k:Nat) (rows:List (List D)):DV fs (.sn k rows) (.sl k rows)
 |arrn (v:Value) (e k:Nat) (rows rows':List (List D)) (hn:v≠.slice none 0 0) (hm:DV fs (.lit v) (.sl k rows')):DV fs (.lit v) (.sn k rows')
 | arr (v:Value) (e k:Nat) (rows rows':List (List D)) (hm:MO.arr v e k rows∈fs) (hl:rows'.length=rows.length) (hk:∀r∈rows',r.length=k)
   (h:∀i j,i<rows.length->j<k->DV fs ((rows.getD i []).getD j (.lit undef)) ((rows'.getD i []).getD j (.lit undef))):DV fs (.lit v) (.sl k rows')
 | map (r:Nat) (bs:List Nat) (ck:Nat) (agg:Bool) (es:List (Value×List D)) (h1:agg=false->∀e∈es,e.2.length=1)
   (hm:MO.map r (es.map λe=>(e.1,bif agg then .agg e.2 else .d (e.2.getD 0 (.lit undef)))) bs ck∈fs):DV fs (.lit (.map (some r))) (.mp agg es)
 |mapx (r:Nat) (agg:Bool) (es:List (Value×List D)) (hm:mx r agg es∈fs):DV fs (.lit (.map (some r))) (.mp agg es)
 |box (b o:Nat) (ds es:List D) (hm:MO.box b o ds∈fs) (hl:es.length=ds.length) (h:∀j,j<ds.length->DV fs (ds.getD j (.lit undef)) (es.getD j (.lit undef))):DV fs (.lit (.pointer (some ⟨b,o,none⟩))) (.pt es)
 |ptc (xs ys:List D) (hl:ys.length=xs.length) (h:∀j,j<xs.length->DV fs (xs.getD j (.lit undef)) (ys.getD j (.lit undef))):DV fs (.pt xs) (.pt ys)
 |fc (m:Bool) (f:FuncId) (xs ys:List D) (hl:ys.length=xs.length) (h:∀j,j<xs.length->DV fs (xs.getD j (.lit undef)) (ys.getD j (.lit undef))):DV fs (.fc m f xs) (.fc m f ys)
 |nest (v0:Value) (e0 e k:Nat) (vs:List Value) (rss:List (List (List D))) (ho:MO.arr v0 e0 1 (vs.map λv=>[.lit v])∈fs) (hf:MO.fam e k vs rss∈fs):DV fs (.lit v0) (.sl 1 (rss.map λrows=>[.sl k rows]))
def DVs(fs:List MO):List D->List D->Prop
 |[],[]=>True
 |x::xs,y::ys=>DV fs x y/\DVs fs xs ys
 |_,_=>False
inductive AD:AV->D->Prop where
 |d (x:D):AD (.d x) x
 |cp (xs:List D):AD (.cp xs) (.pt xs)
 |bp (b o:Nat):AD (.bp b o 0) (.lit (.pointer (some ⟨b,o,none⟩)))
 |fn (f:FuncId) (cs:List AV) (ds:List D) (hl:ds.length=cs.length) (h:∀i,i<cs.length->AD (cs.getD i .any) (ds.getD i (.lit undef))):AD (.fn f cs) (.fc false f ds)
 |mf (f:FuncId) (cs:List AV) (ds:List D) (hl:ds.length=cs.length) (h:∀i,i<cs.length->AD (cs.getD i .any) (ds.getD i (.lit undef))):AD (.mf f cs) (.fc true f ds)
theorem DR.ofCells{w:World}{X:aR}{xs:List D}{vs:List Value}{b o:Nat}(h:DRs w X xs vs)(hc:cellsAt w b o vs)(hx:∀j,j<xs.length->¬X b (o+j)):DR w X (.pt xs) (.pointer (some ⟨b,o,none⟩)):=by
 have hl:=h.length;refine .pt xs b o (λj=>vs.getD j undef) (λj hj=>⟨?_,hx j hj⟩) λj d hj=>?_
 ·have hj':j<vs.length:=by omega
  rw[hc j _ (g9 hj')]
  simp[List.getD,g9 hj']
 ·obtain⟨v,hv,hd⟩:=h.get hj;have e1:vs.getD j undef=v:=by simp[List.getD,hv]
  rw[e1];exact hd
theorem AD.sound{w:World}{X:aR}{x:AV}{d:D}(h:AD x d):∀{v:Value},VR w X x v->DR w X d v:=by
 have key:∀{cs:List AV} {ds:List D} {us:List Value},ds.length=cs.length->us.length=cs.length->(∀i,i<cs.length->∀{v:Value},VR w X (cs.getD i .any) v->DR w X (ds.getD i (.lit undef)) v)->(∀i,i<cs.length->VR w X (cs.getD i .any) (us.getD i undef))->
   ∀(j:Nat) (d:D),ds[j]?=some d->DR w X d (us.getD j undef):=by
  intro cs ds us hl _ ih hv j d hj;have hj':j<ds.length:=(g7.1 hj).1;have:=ih j (by omega) (hv j (by omega));have e2:ds.getD j (.lit undef)=d:=by simp[List.getD,hj]
  rw[e2] at this;exact this
 induction h with
 |d x=>intro v hv;cases hv with|d h=>exact h
 |cp xs=>intro v hv;cases hv with|cp b o h hc hx=>exact .ofCells h hc hx
 |bp b o=>intro v hv;cases hv with|bp=>exact .lit _ rfl
 |fn f cs ds hl _ ih=>intro v hv;cases hv with|fn hl' hv=>rename_i us;exact .fc false f ds us (by omega) (key hl hl' ih hv)
 |mf f cs ds hl _ ih=>intro v hv;cases hv with|mf hl' hv=>rename_i us;exact .fc true f ds us (by omega) (key hl hl' ih hv)
inductive BV(fs:List MO):AV->AV->Prop where
 |same (x:AV):BV fs x x
 |any (x:AV):BV fs x .any
 |d {x y:D} (h:DV fs x y):BV fs (.d x) (.d y)
 |fl (nn:Bool) (k:Nat) (rows:List (List D)):BV fs (.fl nn k rows) (.d (.sl k rows))
 |fln (k:Nat) (rows:List (List D)):BV fs (.fl true k rows) (.d (.sn k rows))
 |agg {xs ys:List D} (h:DVs fs xs ys):BV fs (.agg xs) (.agg ys)
 |ptc (xs:List D):BV fs (.d (.pt xs)) (.cp xs)
 |cpt (xs:List D):BV fs (.cp xs) (.d (.pt xs))
 |ad {x:AV} {d:D} (h:AD x d):BV fs x (.d d)
 |lbp (b o:Nat):BV fs (.d (.lit (.pointer (some ⟨b,o,none⟩)))) (.bp b o 0)
 |bp (b o j:Nat) (ds es:List D) (hm:MO.box b o ds∈fs) (hj:j<=ds.length) (h:DVs fs (ds.drop j) es):BV fs (.bp b o j) (.cp es)
 |fn (f:FuncId) (caps caps':List AV) (hl:caps'.length=caps.length) (h:∀i,i<caps.length->BV fs (caps.getD i .any) (caps'.getD i .any)):BV fs (.fn f caps) (.fn f caps')
 |tup (caps caps':List AV) (hl:caps'.length=caps.length) (h:∀i,i<caps.length->BV fs (caps.getD i .any) (caps'.getD i .any)):BV fs (.tup caps) (.tup caps')
theorem aNo{w:World}{X X':aR}{v:Value}{e k:Nat}{rows rows':List (List D)}(h:aNn w X v e k rows)(ha:∀b o,v.ownBlock=some b->¬X' b o)(hl:rows'.length=rows.length)(hk:∀r∈rows',r.length=k)
  (hd:∀i j (_:i<rows.length) (_:j<k) (q:Value),DR w X ((rows.getD i []).getD j (.lit undef)) q->DR w X' ((rows'.getD i []).getD j (.lit undef)) q):DR w X' (.sl k rows') v:=by
 obtain⟨xs,hxs,hown,hr⟩:=h
 rcases hown.2 with⟨rfl,hn⟩|⟨g,cap,cur,rfl,_,hg,hnc,hmax,hcs,ht⟩
 ·have:rows'=[]:=y7 (by omega);subst this;exact .nil k
 ·rw[<-hl];have hcell:∀i j,i<rows.length->j<k->∃q,w.cell? ⟨g,0+(i*k+j),none⟩=some q/\DR w X ((rows.getD i []).getD j (.lit undef)) q:=by
   intro i j hi hj;have hj':j<rows[i].length:=by rw[hr _ (j9 hi)];exact hj
   have hgt:=aIw hr (g9 hi) hj;rw[g9 hj'] at hgt;obtain⟨q,hq,hdq⟩:=hxs.get hgt;refine⟨q,?_,by simpa[List.getD,g9 hi,g9 hj'] using hdq⟩;have:=hown.cells (g:=g) rfl _ _ hq
   rwa[Addr.add_lit] at this
  refine .sl k rows' g 0 cap (λi j=>(w.cell? ⟨g,0+(i*k+j),none⟩).getD undef) hk (by omega) hmax (λi j hi hj=>?_) (λi j hi hj=>?_)
  ·obtain⟨q,hq,_⟩:=hcell i j (by omega) hj;exact⟨by simp only[hq,u7],ha g _ rfl⟩
  ·obtain⟨q,hq,hdq⟩:=hcell i j (by omega) hj;simp only[hq,u7];exact hd i j (by omega) hj q hdq
theorem MRs.get'{w:World}{X:aR}:∀{es:List (Value×AV)} {ms:List MapEntry},MRs w X es ms->ms.map (·.key)=es.map (·.1)/\∀{j:Nat} {e:Value×AV},es[j]?=some e->∃m,ms[j]?=some m/\VR w X e.2 m.val
 |[],[],_=>⟨rfl,λh=>by simp at h⟩
 | (_,_)::es,m::ms,h=>by
  obtain⟨h1,h2⟩:=MRs.get' h.2.2;refine⟨by simp[h.1,h1],λ{j} {e} he=>?_⟩;cases j with
  |zero=>simp at he;subst he;exact⟨m,rfl,h.2.1⟩
  |succ j=>simpa using h2 (by simpa using he)
theorem aZi{w:World}{X X':aR}{r ck:Nat}{ms:Array MapEntry}(agg:Bool)(es:List (Value×List D))(hh:w.heap[r]?=some (.map ms ck))(hx:∀o,¬X' r o)
  (hms:MRs w X (es.map λe=>(e.1,bif agg then .agg e.2 else .d (e.2.getD 0 (.lit undef)))) ms.toList)(hp:(ms.toList.map (·.born)).Pairwise (·<·))(hc:∀b∈ms.toList.map (·.born),b<ck)
  (h1:agg=false->∀e∈es,e.2.length=1)(hm:Mono w X w X'):DR w X' (.mp agg es) (.map (some r)):=by
 obtain⟨hk,hg⟩:=hms.get';have cells:∀(m:MapEntry) (e:Value×List D),VR w X (bif agg then .agg e.2 else .d (e.2.getD 0 (.lit undef))) m.val->(agg=false->e.2.length=1)->
   ∃vs:List Value,DRs w X e.2 vs/\m.val=bif agg then .agg vs.toArray else vs.getD 0 undef:=by
  intro m e hv he;cases agg with
  | true=>
   simp only[i7] at hv|-
   generalize m.val=u at hv
   cases hv with
   |agg h=>rename_i cs;exact⟨cs.toList,h,by simp⟩
  | false=>
   simp only[g6] at hv|-;have hl:=he rfl
   generalize m.val=u at hv
   cases hv with
   | d h=>
    match he2:e.2,hl with
    | [d],_=>
     rw[he2] at h;exact⟨[u],⟨h,trivial⟩,rfl⟩
 have ex:∀i:Nat,∃vs:List Value,∀e:Value×List D,es[i]?=some e->DRs w X e.2 vs/\∀m:MapEntry,ms.toList[i]?=some m->m.val=bif agg then .agg vs.toArray else vs.getD 0 undef:=by
  intro i;cases hes:es[i]? with
  |none=>exact⟨[],λe h=>by cases h⟩
  | some e=>
   obtain⟨m,hm',hv⟩:=hg (j:=i) (e:=(e.1,bif agg then .agg e.2 else .d (e.2.getD 0 (.lit undef)))) (by simp[hes]);obtain⟨vs,hd,he⟩:=cells m e hv λh=>h1 h e (i8 hes);refine⟨vs,λe' h=>?_⟩;cases h;exact⟨hd,λm' h'=>by rw[hm'] at h';cases h';exact he⟩
 obtain⟨g,hgs⟩:=Classical.axiomOfChoice ex;refine .mp agg es r ck ms (λi j=>(g i).getD j undef) hh hx (by rw[hk];simp) hp hc (λi m e hi he=>?_) h1 (λi j e d he hd=>?_)
 ·obtain⟨hd,hval⟩:=hgs i e he;have hl:=hd.length;rw[hval m hi];cases agg with
  | true=>
   simp only[i7]
   congr 2
   refine List.ext_getElem (by simp[hl]) λq h2 h3=>?_
   simp[List.getD,h2]
  |false=>rfl
 ·obtain⟨hds,_⟩:=hgs i e he;obtain⟨v,hv,hdv⟩:=hds.get hd;have:(g i).getD j undef=v:=by simp[List.getD,hv]
  simp only[this];exact hdv.mono hm
section view
variable{w:World}{X X':aR}{fs:List MO}
theorem DV.sound[Mode](hh:∀m∈fs,m.holds w X)(hs:∀b o,X' b o->X b o)(ha:∀m∈fs,∀b o,m.foot b o->¬X' b o){x y:D}(h:DV fs x y):∀{v:Value},DR w X x v->DR w X' y v:=by
 induction h with
 |same x=>exactλh=>h.mono (Mono.sub hs)
 | nil k=>
  intro v h;cases h with
  |lit _ _=>exact .nil k
 |weak k rows=>exactλh=>(h.mono (Mono.sub hs)).weak
 | arrn v e k rows rows' hn _ ih=>
  intro u hu;refine(ih hu).strong ?_;cases hu;exact hn
 | arr v e k rows rows' hm hl hk _ ih=>
  intro u hu;cases hu with
  |lit _ _=>exact aNo (e:=e) (hh _ hm) (λb o hb=>ha _ hm b o hb) hl hk λi j hi hj q hq=>ih i j hi hj hq
 | map r bs ck agg es h1 hm=>
  intro u hu;cases hu with
  | lit _ _=>
   obtain⟨ms,hh',hms,hb1,hb2,hb3⟩:=hh _ hm;exact aZi agg es hh' (λo h=>ha _ hm r o rfl h) hms (by rw[hb1];exact hb2) (by rw[hb1];exact hb3) h1 (Mono.sub hs)
 | mapx r agg es hm=>
  intro u hu;cases hu with
  | lit _ _=>
   obtain⟨h1,bs,ck,ms,hh',hms,hb1,hb2,hb3⟩:=bRf (hh _ hm);exact aZi agg es hh' (λo h=>ha _ hm r o rfl h) hms (by rw[hb1];exact hb2) (by rw[hb1];exact hb3) h1 (Mono.sub hs)
 | box b o ds es hm hl _ ih=>
  intro u hu;cases hu with
  | lit _ _=>
   obtain⟨vs,hds,hc,_⟩:=hh _ hm;have hlen:=hds.length;refine .pt es b o (λj=>vs.getD j undef) (λj hj=>⟨?_,ha _ hm _ _ ⟨rfl,by omega,by omega⟩⟩) λj d hj=>?_
   ·have hj':j<vs.length:=by omega
    rw[hc j _ (g9 hj')]
    simp[List.getD,g9 hj']
   ·have hjl:j<es.length:=(g7.1 hj).1;have hj':j<ds.length:=by omega
    obtain⟨v,hv,hdv⟩:=hds.get (g9 hj');have e1:vs.getD j undef=v:=by simp[List.getD,hv]
    have e2:es.getD j (.lit undef)=d:=by simp[List.getD,hj]
    have e3:ds.getD j (.lit undef)=ds[j]:=by simp[List.getD,g9 hj']
    have:=ih j hj' (v:=v) (by rw[e3];exact hdv);rw[e2] at this;rw[e1];exact this
 | ptc xs ys hl _ ih=>
  intro u hu;cases hu with
  | pt _ b o f hc hr=>
   refine .pt ys b o f (λj hj=>⟨(hc j (by omega)).1,λh=>(hc j (by omega)).2 (hs _ _ h)⟩) λj d hj=>?_;have hjl:j<ys.length:=(g7.1 hj).1;have hj':j<xs.length:=by omega
   have e2:ys.getD j (.lit undef)=d:=by simp[List.getD,hj]
   have e3:xs.getD j (.lit undef)=xs[j]:=by simp[List.getD,g9 hj']
   have:=ih j hj' (v:=f j) (by rw[e3];exact hr j _ (g9 hj'));rw[e2] at this;exact this
 | fc m f xs ys hl _ ih=>
  intro u hu;cases hu with
  | fc _ _ _ us hl' hr=>
   refine .fc m f ys us (by omega) λj d hj=>?_;have hjl:j<ys.length:=(g7.1 hj).1;have hj':j<xs.length:=by omega
   have e2:ys.getD j (.lit undef)=d:=by simp[List.getD,hj]
   have e3:xs.getD j (.lit undef)=xs[j]:=by simp[List.getD,g9 hj']
   have:=ih j hj' (v:=us.getD j undef) (by rw[e3];exact hr j _ (g9 hj'));rw[e2] at this;exact this
 | nest v0 e0 e k vs rss ho hf=>
  intro u hu;cases hu with
  | lit _ _=>
   obtain⟨hlen,_,hfam⟩:=hh _ hf;have hsub:Mono w X w X':=Mono.sub hs;refine aNo (e:=e0) (hh _ ho) (λb o hb=>ha _ ho b o hb) (by simp[hlen]) (by simp) λi j hi hj q hq=>?_;simp only[m8] at hi;have hj0:j=0:=by omega
   subst hj0;have e1:((vs.map λv=>[D.lit v]).getD i []).getD 0 (.lit undef)=.lit vs[i]:=by simp[List.getD,hi]
   have hi2:i<rss.length:=by omega
   have e2:((rss.map λrows=>[D.sl k rows]).getD i []).getD 0 (.lit undef)=.sl k rss[i]:=by simp[List.getD,hi2]
   rw[e1] at hq;rw[e2];have hv:=hfam i vs[i] rss[i] (g9 hi) (g9 hi2);cases hq with
   | lit _ _=>
    obtain⟨xs,_,_,hr⟩:=id hv;exact aNo hv (λb o hb=>ha _ hf b o ⟨_,j9 hi,hb⟩) rfl hr λ_ _ _ _ _ h=>h.mono hsub
theorem DVs.sound[Mode](hh:∀m∈fs,m.holds w X)(hs:∀b o,X' b o->X b o)(ha:∀m∈fs,∀b o,m.foot b o->¬X' b o):∀{xs ys:List D} {vs:List Value},DVs fs xs ys->DRs w X xs vs->DRs w X' ys vs
 |[],[],[],_,_=>trivial
 |x::xs,y::ys,v::vs,h,h'=>⟨h.1.sound hh hs ha h'.1,DVs.sound hh hs ha h.2 h'.2⟩
theorem DVs.length:∀{xs ys:List D},DVs fs xs ys->ys.length=xs.length
 |[],[],_=>rfl
 |_::_,_::_,h=>by simp[DVs.length h.2]
theorem BV.sound[Mode](hh:∀m∈fs,m.holds w X)(hs:∀b o,X' b o->X b o)(ha:∀m∈fs,∀b o,m.foot b o->¬X' b o){x y:AV}(h:BV fs x y):∀{v:Value},VR w X x v->VR w X' y v:=by
 induction h with
 |same x=>exactλh=>h.mono (Mono.sub hs)
 |any x=>exactλ_=>.any _
 |d h=>intro v hv;cases hv with|d hv=>exact .d (h.sound hh hs ha hv)
 |fl nn k rows=>intro v hv;cases hv with|fl hv _ _=>exact .d (hv.mono (Mono.sub hs))
 |fln k rows=>intro v hv;cases hv with|fl hv _ hn=>exact .d ((hv.mono (Mono.sub hs)).strong (hn rfl))
 |agg h=>intro v hv;cases hv with|agg hv=>exact .agg (h.sound hh hs ha hv)
 |ad h=>intro v hv;exact .d (h.sound (hv.mono (Mono.sub hs)))
 |lbp b o=>intro v hv;cases hv with|d hv=>cases hv with|lit=>exact .bp b o 0
 | ptc xs=>
  intro v hv;cases hv with
  | d hv=>
   have hv:=hv.mono (Mono.sub hs);cases hv with
   | pt _ b o f hc hr=>
    refine .cp (vs:=(List.range xs.length).map f) b o (DRs.of (by simp) λj d v hj hv=>?_) (λj v hv=>?_) λj hj=>(hc j hj).2
    ·have hjl:j<xs.length:=(g7.1 hj).1
     simp[hjl] at hv
     rw[<-hv];exact hr j d hj
    ·have hjl:j<xs.length:=by
      have:=(g7.1 hv).1
      simpa using this
     simp[hjl] at hv
     rw[<-hv];exact(hc j hjl).1
 | cpt xs=>
  intro v hv;have hv:=hv.mono (Mono.sub hs);cases hv with
  | cp b o h hc hx=>
   rename_i vs
   have hlen:=h.length;refine .d (.pt xs b o (λj=>vs.getD j undef) (λj hj=>⟨?_,hx j hj⟩) λj d hj=>?_)
   ·have hj':j<vs.length:=by omega
    rw[hc j _ (g9 hj')]
    simp[List.getD,g9 hj']
   ·obtain⟨v,hv,hdv⟩:=h.get hj;have e1:vs.getD j undef=v:=by simp[List.getD,hv]
    rw[e1];exact hdv
 | bp b o j ds es hm hj h=>
  intro v hv;cases hv;obtain⟨vs,hds,hc,_⟩:=hh _ hm;refine .cp b (o+j) (h.sound hh hs ha (hds.drop j)) (hc.drop j) λq hq=>ha _ hm _ _ ⟨rfl,by omega,?_⟩;have:=h.length
  simp at this
  omega
 | fn f caps caps' hl _ ih=>
  intro v hv;cases hv with
  | fn hl' hv=>
   exact .fn (by omega) λi hi=>ih i (by omega) (hv i (by omega))
 | tup caps caps' hl _ ih=>
  intro v hv;cases hv with
  | tup hl' hv=>
   exact .tup (by omega) λi hi=>ih i (by omega) (hv i (by omega))
end view
theorem oL[Mode]{env env':Nat->AV}{objs keepers gone:List MO}(hp:objs.Perm (keepers++gone))(he:∀k,BV gone (env k) (env' k)):Ent ⟨env,objs⟩ ⟨env',keepers⟩:=by
 intro A M w0 n a w hR;have hmem:∀m,m∈keepers++gone->m∈objs:=λm hm=>hp.mem_iff.2 hm;have hsep:Sep (keepers++gone):=hp.pairwise hR.inv.sep λh b o h1 h2=>h b o h2 h1;have hsub:∀b o,aU A keepers b o->aU A objs b o:=λb o h=>h.imp id λ⟨m,hm,hf⟩=>⟨m,hmem m (i6.2 (.inl hm)),hf⟩;have hap:∀m∈gone,∀b o,m.foot b o->¬aU A keepers b o:=by
  intro m hm b o hf hl
  rcases hl with hA|⟨m',hm',hf'⟩
  ·exact hR.inv.apart m (hmem m (i6.2 (.inr hm))) b o hf hA
  ·exact(p9.1 hsep).2.2 m' hm' m hm b o hf' hf
 have hmono:Mono w (aU A objs) w (aU A keepers):=Mono.sub hsub;refine⟨hR.size,hR.defers.sub hsub,λk=>(he k).sound (λm hm=>hR.inv.holds m (hmem m (i6.2 (.inr hm)))) hsub hap (hR.env k),⟨(p9.1 hsep).1,λm hm=>hR.inv.apart m (hmem m (i6.2 (.inl hm))),
  λm hm=>cI (hR.inv.holds m (hmem m (i6.2 (.inl hm)))) (Keeps.refl (λ_ _=>False) w) (λ_ _ _ h=>h) hmono,hR.inv.amb.on hmono⟩,hR.keeps,λm hm=>hR.own m (hmem m (i6.2 (.inl hm))),hR.old⟩
theorem aTk[Mode]{env env':Nat->AV}{objs:List MO}(he:∀k,env' k=.any\/env' k=env k):Ent ⟨env,objs⟩ ⟨env',objs⟩:=
 oL (gone:=[]) (by simp) λk=>by
  rcases he k with h|h
  ·rw[h];exact .any _
  ·rw[h];exact .same _
end Go.Am
end
end
section
section
namespace Go.Am
def Fn[Mode](P:Program)(f:FuncId)(args:List AV)(r:AV):Prop:=aX P f args [] λr' o=>r'=r/\o=[]
abbrev cLy:Mode:=⟨True⟩
abbrev FnS(P:Program)(f:FuncId)(args:List AV)(r:AV):Prop:= @Fn cLy P f args r
theorem Keeps.to{m m':Mode}{M:aR}{w w':World}(h: @Keeps m M w w')(hd:m'.dr->m.dr): @Keeps m' M w w':=by
 cases h with|mk a b c d e f g i=>exact @Keeps.mk m' _ _ _ a b c d e f g λx=>i (hd x)
theorem Inv.to{m m':Mode}{w:World}{A:aR}(h: @Inv m w A []): @Inv m' w A []:=by
 cases h with|mk a b c d=>exact @Inv.mk m' _ _ _ a b (λx hx=>by simp at hx) d
theorem FnS.any{m:Mode}{P:Program}{f:FuncId}{args:List AV}{r:AV}(h:FnS P f args r): @Fn m P f args r:=by
 intro A w vs hi hA hv;refine(h A w vs hi.to hA hv).mono ?_;rintro e w' ⟨v,r',o,rfl,hk,hinv,hv,hnew,rfl,rfl⟩;exact⟨v,_,[],rfl,hk.to λ_=>trivial,hinv.to,hv,hnew,rfl,rfl⟩
def AV.one:AV->Bool
 | .d (.lit _)=>true
 |_=>false
def D.isLit:D->Bool
 | .lit _=>true
 |_=>false
theorem D.isLit_spec{x:D}(h:x.isLit=true):∃v,x=.lit v:=by
 cases x with
 |lit v=>exact⟨v,rfl⟩
 |_=>simp[D.isLit] at h
def AV.one1:AV->Bool
 | .d x=>x.isLit
 | .agg xs=>xs.all D.isLit
 |_=>false
def AV.isLit:AV->Bool
 | .tup vs=>vs.all AV.one1
 |x=>x.one1
theorem DR.isLit{w w':World}{X X':aR}{x:D}{v:Value}(hl:x.isLit=true)(h:DR w X x v):DR w' X' x v:=by
 obtain⟨u,rfl⟩:=D.isLit_spec hl;cases h with
 |lit _ h=>exact .lit _ h
theorem DRs.isLit{w w':World}{X X':aR}:∀{xs:List D} {vs:List Value},xs.all D.isLit=true->DRs w X xs vs->DRs w' X' xs vs
 |[],[],_,_=>trivial
 | x::xs,v::vs,hl,h=>by
  simp only[aA9,f4] at hl;exact⟨h.1.isLit hl.1,DRs.isLit hl.2 h.2⟩
 |[],_::_,_,h=>h.elim
 |_::_,[],_,h=>h.elim
theorem VR.one1{w w':World}{X X':aR}{x:AV}{v:Value}(hl:x.one1=true)(h:VR w X x v):VR w' X' x v:=by
 cases x with
 | d y=>
  cases h with
  |d h=>exact .d (h.isLit hl)
 | agg xs=>
  cases h with
  |agg h=>exact .agg (h.isLit hl)
 |_=>simp[AV.one1] at hl
theorem VR.isLit{w w':World}{X X':aR}{x:AV}{v:Value}(hl:x.isLit=true)(h:VR w X x v):VR w' X' x v:=by
 cases x with
 | tup vs=>
  cases h with
  | tup hl' h=>
   refine .tup hl' λi hi=>?_;have h2:(vs.getD i .any)∈vs:=by simp[List.getD,g9 hi]
   simp only[AV.isLit,k6] at hl;exact(h i hi).one1 (hl _ h2)
 |_=>exact h.one1 hl
def St.evals(st:St):List Operand->List AV
 |[]=>[]
 |x::l=>st.eval x::St.evals st l
def fU:List Operand->Bool
 |[]=>true
 |x::l=>cD x&&fU l
theorem aBd[Mode]{A M:aR}{w0:W0}{n:Nat}{st:St}{a:Act}{w:World}(hR:R A M w0 n st a w):∀{l:List Operand},fU l=true->VRs w (aU A st.objs) (st.evals l) (l.map a.eval)
 |[],_=>trivial
 | x::l,h=>by
  simp only[fU,f4] at h;exact⟨hR.eval' h.1,aBd hR h.2⟩
inductive BVs(fs:List MO):List AV->List AV->Prop where
 |nil:BVs fs [] []
 |cons {x y:AV} {xs ys:List AV} (h:BV fs x y) (hs:BVs fs xs ys):BVs fs (x::xs) (y::ys)
theorem BVs.refl(fs:List MO):∀xs:List AV,BVs fs xs xs
 |[]=>.nil
 |x::xs=>.cons (.same x) (BVs.refl fs xs)
theorem BVs.sound[Mode]{w:World}{X X':aR}{fs:List MO}(hh:∀m∈fs,m.holds w X)(hs:∀b o,X' b o->X b o)(ha:∀m∈fs,∀b o,m.foot b o->¬X' b o){xs ys:List AV}(h:BVs fs xs ys):
  ∀{vs:List Value},VRs w X xs vs->VRs w X' ys vs:=by
 induction h with
 | nil=>intro vs h;cases vs with
  |nil=>trivial
  |cons=>exact h.elim
 | cons h _ ih=>intro vs hv;cases vs with
  |nil=>exact hv.elim
  |cons v vs=>exact⟨h.sound hh hs ha hv.1,ih hv.2⟩
theorem qM{A:aR}{l l':List MO}(b o:Nat):aU A (l++l') b o↔aU (aU A l') l b o:=by
 unfold aU;rw[kT]
 constructor
 ·rintro(h|h|h)
  ·exact .inl (.inl h)
  ·exact .inr h
  ·exact .inl (.inr h)
 ·rintro((h|h)|h)
  ·exact .inl h
  ·exact .inr (.inr h)
  ·exact .inr (.inl h)
theorem Inv.none[Mode]{w:World}{A:aR}{objs:List MO}(h:Inv w A objs):Inv w A []:=⟨by simp[Sep],by simp,by simp,h.amb.on (Mono.sub λb o h=>h.imp id λ⟨m,hm,_⟩=>by simp at hm)⟩
theorem Inv.all[Mode]{w:World}{A:aR}{objs:List MO}(h:Inv w A objs):Inv w (aU A objs) []:=⟨by simp[Sep],by simp,by simp,h.amb.on (Mono.sub λb o h=>h.elim id λ⟨m,hm,_⟩=>by simp at hm)⟩
theorem R.called[Mode]{A M:aR}{w0:W0}{n:Nat}{st:St}{a:Act}{w w':World}(h:R A M w0 n st a w)(hk:Keeps (fJ []) w w'):R A M w0 n st a w':=by
 have hk':Keeps (λ_ _=>False) w w':=hk.mono λb o ⟨m,hm,_⟩=>by simp at hm
 exact h.change hk' (λ_ _ h=>h.elim) (λ_ _ _ h=>h) h.inv.sep λhm m hmm=>cI (h.inv.holds m hmm) hk' (λ_ _ _ h=>h) hm
section
variable{P:Program}{n d:Nat}{st:St}{o:Oper}
inductive lH(P:Program)(st:St):Callee->List Operand->FuncId->List AV->Prop where
 |func (f:FuncId) (l:List Operand) (h:∀args w,(callFunc f args).run P w=.ok (.enter f args) w):lH P st (.value (.func f)) l f (st.evals l)
 | clo (t:Nat) (f:FuncId) (caps:List AV) (l:List Operand) (h:∀args w,(callFunc f args).run P w=.ok (.enter f args) w) (ht:st.env t=.fn f caps):
   lH P st (.value (.tmp t)) l f (st.evals l++caps)
 | fc (t:Nat) (f:FuncId) (m:Bool) (xs:List D) (l:List Operand) (h:∀args w,(callFunc f args).run P w=.ok (.enter f args) w) (ht:st.env t=.d (.fc m f xs)):
   lH P st (.value (.tmp t)) l f (bif m then xs.map .d++st.evals l else st.evals l++xs.map .d)
theorem bFj{w:World}{X:aR}:∀{xs:List D} {us:List Value},us.length=xs.length->(∀(j:Nat) (d:D),xs[j]?=some d->DR w X d (us.getD j undef))->VRs w X (xs.map .d) us
 |[],[],_,_=>trivial
 |c::xs,u::us,hl,h=>⟨.d (by simpa using h 0 c rfl),bFj (by simpa using hl) λj d hj=>by simpa using h (j+1) d (by simpa using hj)⟩
 |[],_::_,hl,_=>by simp at hl
 |_::_,[],hl,_=>by simp at hl
theorem aDi{w:World}{X:aR}:∀{caps:List AV} {us:List Value},us.length=caps.length->(∀i,i<caps.length->VR w X (caps.getD i .any) (us.getD i undef))->VRs w X caps us
 |[],[],_,_=>trivial
 |c::caps,u::us,hl,h=>⟨by simpa using h 0 (by simp),aDi (by simpa using hl) λi hi=>by simpa using h (i+1) (by simpa using hi)⟩
 |[],_::_,hl,_=>by simp at hl
 |_::_,[],hl,_=>by simp at hl
theorem aCy[Mode]{A M:aR}{w0:W0}{a:Act}{w:World}{c:Callee}{l:List Operand}{f:FuncId}{args:List AV}{ts:Array TypeId}{ty:TypeId}{pos:String}{af:Array Edge}{gd:Option (Nat×Bool)}
  (hR:R A M w0 n st a w)(hc:lH P st c l f args)(hok:fU l=true):
  ∃vs,(execOp a.eval ⟨some d,.call {callee:=c,args:=l.toArray,argTypes:=ts},ty,pos,af,gd⟩).run P w=.ok (.enter f vs.toArray) w/\VRs w (aU A st.objs) args vs:=by
 have hl:=aBd hR hok;cases hc with
 | func f l h=>
  refine⟨l.map a.eval,?_,hl⟩
  simp[execOp,resolve,Act.eval,Deferred.ofValue,invoke,h]
 | clo t f caps l h ht=>
  have hv:=hR.env t;rw[ht] at hv
  generalize hu:a.tmps.getD t undef=u at hv
  cases hv with
  | fn hl' hcap=>
   rename_i us
   refine⟨l.map a.eval++us,?_,hl.append (aDi hl' hcap)⟩;have he:a.eval (.tmp t)=.func (.func f) #[] us.toArray:=hu
   simp[execOp,resolve,he,Deferred.ofValue,invoke,h]
 | fc t f m xs l h ht=>
  have hv:=hR.env t;rw[ht] at hv
  generalize hu:a.tmps.getD t undef=u at hv
  cases hv with
  | d hv=>
   cases hv with
   | fc _ _ _ us hl' hr=>
    have hx:=bFj hl' hr;have he:a.eval (.tmp t)=.func (.func f) (bif m then us.toArray else #[]) (bif m then #[] else us.toArray):=hu;cases m with
    |true=>exact⟨us++l.map a.eval,by simp[execOp,resolve,he,Deferred.ofValue,invoke,h],hx.append hl⟩
    |false=>exact⟨l.map a.eval++us,by simp[execOp,resolve,he,Deferred.ofValue,invoke,h],hl.append hx⟩
theorem pB[Mode]{c:Callee}{l:List Operand}{f:FuncId}{args args':List AV}{r:AV}{ts:Array TypeId}{ty:TypeId}{pos:String}{af:Array Edge}{gd:Option (Nat×Bool)}(hd:d<n)
  {a0:List AV}(hc:lH P st c l f a0)(ha:a0=args)(hok:fU l=true)(hb:BVs st.objs args args')(hf:Fn P f args' r)(hr:r.isLit=true):
  aQ P n ⟨some d,.call {callee:=c,args:=l.toArray,argTypes:=ts},ty,pos,af,gd⟩ st (st.set d r):=by
 replace ha:=ha.symm;subst ha
 intro A M w0 a w hR K Q hK;obtain⟨vs,hrun,hvs⟩:=aCy (d:=d) (ts:=ts) (ty:=ty) (pos:=pos) (af:=af) (gd:=gd) hR hc hok;unfold Oper.wp;rw[hrun,Oper.upon_enter];have hvs':VRs w (aU A []) args' vs:=hb.sound hR.inv.holds (λb o h=>h.imp id λ⟨m,hm,_⟩=>by simp at hm) (λm hm b o hf hx=>by
  rcases hx with hx|⟨m',hm',_⟩
  ·exact hR.inv.apart m hm b o hf hx
  ·simp at hm') hvs
 have hs0:=hR.keeps.size;refine(hf A w vs hR.inv.none (λb o h=>u4 (hR.old b o h) hs0) hvs').mono ?_;rintro e w' ⟨v,r',objs',rfl,hk,hinv,hv,hnew,rfl,rfl⟩;exact hK _ _ _ rfl ((hR.called hk).put (o:=⟨some d,.call {callee:=c,args:=l.toArray,argTypes:=ts},ty,pos,af,gd⟩) rfl hd (hv.isLit hr))
theorem aIh[Mode]{c:Callee}{l:List Operand}{f:FuncId}{args:List AV}{Qc:AV->List MO->Prop}{ts:Array TypeId}{ty:TypeId}{pos:String}{af:Array Edge}{gd:Option (Nat×Bool)}(hd:d<n)
  {a0:List AV}(hc:lH P st c l f a0)(ha:a0=args)(hok:fU l=true)(hf:aX P f args [] Qc):
  Step P n ⟨some d,.call {callee:=c,args:=l.toArray,argTypes:=ts},ty,pos,af,gd⟩ st (λs=>∃r objs',Qc r objs'/\s=⟨upd st.env d r,st.objs++objs'⟩):=by
 replace ha:=ha.symm;subst ha
 intro A M w0 a w hR K Q hK;obtain⟨vs,hrun,hvs⟩:=aCy (d:=d) (ts:=ts) (ty:=ty) (pos:=pos) (af:=af) (gd:=gd) hR hc hok;unfold Oper.wp;rw[hrun,Oper.upon_enter];have hs0:=hR.keeps.size;have hlt:∀b o,aU A st.objs b o->b<w.heap.size:=by
  rintro b o (h|⟨m,hm,hf⟩)
  ·exact u4 (hR.old b o h) hs0
  ·exact lU (hR.inv.holds m hm) hf
 have hvs':VRs w (aU (aU A st.objs) []) args vs:=by
  refine hvs.mono (Mono.sub λb o h=>?_)
  rcases h with h|⟨m,hm,_⟩
  ·exact h
  ·simp at hm
 refine(hf (aU A st.objs) w vs hR.inv.all hlt hvs').mono ?_;rintro e w' ⟨v,r,objs',rfl,hk,hinv,hv,hnew,hq⟩;refine hK _ _ _ ⟨r,objs',hq,rfl⟩ ?_;have hR1:=hR.called hk;have hk':Keeps (λ_ _=>False) w w':=hk.mono λb o ⟨m,hm,_⟩=>by simp at hm
 have hnew':∀m∈objs',∀b o,m.foot b o->w.heap.size<=b:=λm hm b o hf=>(hnew m hm b o hf).resolve_left λ⟨m',hm',_⟩=>by simp at hm'
 have hR2:R A M w0 n ⟨st.env,st.objs++objs'⟩ a w':=by
  refine hR.change hk' (λ_ _ h=>h.elim) (λb o hb hx=>?_) ?_ λhm m hmm=>?_
  ·rcases kT.1 hx with h|⟨m,hm,hf⟩
   ·exact h
   ·have:=hnew' m hm b o hf;omega
  ·refine p9.2 ⟨hR.inv.sep,hinv.sep,λx hx y hy b o h1 h2=>?_⟩;have:=lU (hR.inv.holds x hx) h1;have:=hnew' y hy b o h2
   omega
  ·rcases i6.1 hmm with h|h
   ·exact cI (hR.inv.holds m h) hk' (λ_ _ _ h=>h) hm
   ·have:=hinv.holds m h;refine cI this (Keeps.refl (λ_ _=>False) w') (λ_ _ _ h=>h) (Mono.sub λb o h'=>?_)
    rcases h' with h'|h'
    ·exact .inl (.inl h')
    ·rcases kT.1 h' with h'|h'
     ·exact .inl (.inr h')
     ·exact .inr h'
 refine R.put (o:=⟨some d,.call {callee:=c,args:=l.toArray,argTypes:=ts},ty,pos,af,gd⟩) hR2 rfl hd (hv.mono (Mono.sub λb o h'=>?_))
 rcases h' with h'|h'
 ·exact .inl (.inl h')
 ·rcases kT.1 h' with h'|h'
  ·exact .inl (.inr h')
  ·exact .inr h'
theorem aTz[Mode]{c:Callee}{l:List Operand}{f:FuncId}{args:List AV}{r:AV}{ts:Array TypeId}{ty:TypeId}{pos:String}{af:Array Edge}{gd:Option (Nat×Bool)}(hd:d<n)
  {a0:List AV}(hc:lH P st c l f a0)(ha:a0=args)(hok:fU l=true)(hf:Fn P f args r):
  aQ P n ⟨some d,.call {callee:=c,args:=l.toArray,argTypes:=ts},ty,pos,af,gd⟩ st (st.set d r):=by
 intro A M w0 a w hR K Q hK;refine aIh hd hc ha hok hf A M w0 a w hR K Q ?_;rintro st' a' w' ⟨r',objs',⟨rfl,rfl⟩,rfl⟩ hR';simp only[aA2] at hR';exact hK _ _ _ rfl hR'
theorem uG[Mode]{c:Callee}{l:List Operand}{f:FuncId}{args:List AV}{Qc:AV->List MO->Prop}{passed rest:List MO}{ts:Array TypeId}{ty:TypeId}{pos:String}{af:Array Edge}{gd:Option (Nat×Bool)}(hd:d<n)
  (ho:st.objs=passed++rest){a0:List AV}(hc:lH P st c l f a0)(ha:a0=args)(hok:fU l=true)(hf:aX P f args passed Qc):
  Step P n ⟨some d,.call {callee:=c,args:=l.toArray,argTypes:=ts},ty,pos,af,gd⟩ st (λs=>∃r objs',Qc r objs'/\s=⟨upd st.env d r,objs'++rest⟩):=by
 replace ha:=ha.symm;subst ha
 intro A M w0 a w hR K Q hK;obtain⟨vs,hrun,hvs⟩:=aCy (d:=d) (ts:=ts) (ty:=ty) (pos:=pos) (af:=af) (gd:=gd) hR hc hok;unfold Oper.wp;rw[hrun,Oper.upon_enter];have hs0:=hR.keeps.size;have hsep:=hR.inv.sep;rw[ho] at hsep;have hsp:=p9.1 hsep;have hlive:∀b o,aU A st.objs b o↔aU (aU A rest) passed b o:=by intro b o;rw[ho];exact qM b o
 have hlt:∀b o,aU A rest b o->b<w.heap.size:=by
  rintro b o (h|⟨m,hm,hf⟩)
  ·exact u4 (hR.old b o h) hs0
  ·exact lU (hR.inv.holds m (by rw[ho];exact i6.2 (.inr hm))) hf
 have hmo:Mono w (aU A st.objs) w (aU (aU A rest) passed):=Mono.sub λb o h=>(hlive b o).2 h;have hinv0:Inv w (aU A rest) passed:=by
  refine⟨hsp.1,λm hm b o hf hx=>?_,λm hm=>cI (hR.inv.holds m (by rw[ho];exact i6.2 (.inl hm))) (Keeps.refl (λ_ _=>False) w) (λ_ _ _ h=>h) hmo,hR.inv.amb.on hmo⟩
  rcases hx with hx|⟨m',hm',hf'⟩
  ·exact hR.inv.apart m (by rw[ho];exact i6.2 (.inl hm)) b o hf hx
  ·exact hsp.2.2 m hm m' hm' b o hf hf'
 refine(hf (aU A rest) w vs hinv0 hlt (hvs.mono hmo)).mono ?_;rintro e w' ⟨v,r,objs',rfl,hk,hinv,hv,hnew,hq⟩;refine hK _ _ _ ⟨r,objs',hq,rfl⟩ ?_;have hback:Mono w' (aU (aU A rest) objs') w' (aU A (objs'++rest)):=Mono.sub λb o h=>(qM b o).1 h;have hR2:R A M w0 n ⟨st.env,objs'++rest⟩ a w':=by
  refine hR.change hk (λb o ⟨m,hm,hf⟩=>⟨m,by rw[ho];exact i6.2 (.inl hm),hf⟩) (λb o hb hx=>?_) ?_ λhm m hmm=>?_
  ·rcases kT.1 hx with⟨m,hm,hf⟩|⟨m,hm,hf⟩
   ·rcases hnew m hm b o hf with⟨m',hm',hf'⟩|h
    ·exact⟨m',by rw[ho];exact i6.2 (.inl hm'),hf'⟩
    ·omega
   ·exact⟨m,by rw[ho];exact i6.2 (.inr hm),hf⟩
  ·refine p9.2 ⟨hinv.sep,hsp.2.1,λx hx y hy b o h1 h2=>?_⟩;exact hinv.apart x hx b o h1 (.inr ⟨y,hy,h2⟩)
  ·rcases i6.1 hmm with h|h
   ·exact cI (hinv.holds m h) (Keeps.refl (λ_ _=>False) w') (λ_ _ _ h=>h) hback
   ·exact cI (hR.inv.holds m (by rw[ho];exact i6.2 (.inr h))) hk (λb o hf ⟨m',hm',hf'⟩=>hsp.2.2 m' hm' m h b o hf' hf) hm
 exact R.put (o:=⟨some d,.call {callee:=c,args:=l.toArray,argTypes:=ts},ty,pos,af,gd⟩) hR2 rfl hd (hv.mono hback)
theorem pM[Mode]{f:FuncId}{first caps:List Operand}{m:Bool}{cs:List AV}{xs:List D}{ty:TypeId}{pos:String}{af:Array Edge}{gd:Option (Nat×Bool)}(hd:d<n)(hm:(bif m then caps else first)=[])(hc:st.evals (bif m then first else caps)=cs)
  (hok:fU (bif m then first else caps)=true)(hl:xs.length=cs.length)(hx:∀i,i<cs.length->AD (cs.getD i .any) (xs.getD i (.lit undef))):
  aQ P n ⟨some d,.makeFunc (.func f) first.toArray caps.toArray,ty,pos,af,gd⟩ st (st.set d (.d (.fc m f xs))):=
 cG rfl hd λA M w0 a w hR=>by
  have h:=aBd hR hok;rw[hc] at h;have hll:=h.length;cases m with
  | true=>
   simp only[i7] at hm h hll;subst hm;refine⟨.func (.func f) (first.map a.eval).toArray #[],by simp[execOp,Instr.makeFunc],.d (.fc true f xs (first.map a.eval) (by omega) λj e hj=>?_)⟩;have hj':j<xs.length:=(g7.1 hj).1;have:=(hx j (by omega)).sound (h.getD j)
   rwa[show xs.getD j (.lit undef)=e by simp[List.getD,hj]] at this
  | false=>
   simp only[g6] at hm h hll;subst hm;refine⟨.func (.func f) #[] (caps.map a.eval).toArray,by simp[execOp,Instr.makeFunc],.d (.fc false f xs (caps.map a.eval) (by omega) λj e hj=>?_)⟩;have hj':j<xs.length:=(g7.1 hj).1;have:=(hx j (by omega)).sound (h.getD j)
   rwa[show xs.getD j (.lit undef)=e by simp[List.getD,hj]] at this
theorem bXg[Mode]{f:FuncId}{caps:List Operand}{cs:List AV}{ty:TypeId}{pos:String}{af:Array Edge}{gd:Option (Nat×Bool)}(hd:d<n)(hc:st.evals caps=cs)(hok:fU caps=true):
  aQ P n ⟨some d,.makeFunc (.func f) #[] caps.toArray,ty,pos,af,gd⟩ st (st.set d (.fn f cs)):=
 cG rfl hd λA M w0 a w hR=>by
  have h:=aBd hR hok;rw[hc] at h;refine⟨.func (.func f) #[] (caps.map a.eval).toArray,by simp[execOp,Instr.makeFunc],.fn h.length λi _=>h.getD i⟩
end
theorem Fn.of_tr[Mode]{P:Program}{f:FuncId}{fn:Func}{c:Code}{args:List AV}{r:AV}(hf:P.funcs[f]?=some fn)(hb:fn.body=some c){rs:List ResultVar}(hr:fn.results=rs.toArray){n:Nat}(hn:fn.ntmps=n)(ha:args.length<=n)
  (h:Tr P n c ⟨entry args,[]⟩ (λe st=>e=.ret/\∃r',aNj st rs r'/\r'=r/\st.objs=[])):Fn P f args r:=by
 subst hn;exact aIn hf hb hr ha (nJ h λe s ⟨h1,r',h2,h3,h4⟩=>⟨.inl h1,r',h2,h3,h4⟩)
section
variable{P:Program}{n:Nat}{st st':St}{Q:Exit->St->Prop}{ops:Array Oper}{o:Oper}{rest:List Oper}
theorem yZ[Mode]{A M:aR}{w0:W0}{a:Act}{w:World}(hR:R A M w0 n st a w){j s:Nat}{b:Bool}(hj:(ops[j]?).bind (·.dst)=some s)(hs:s<n)(hb:st.env s=.d (.lit (.bool b))):yielded ops a.tmps j=some b:=by
 have h:=hR.env s;rw[hb] at h;have h:=h.lit;have hlt:s<a.tmps.size:=by rw[hR.size];exact hs
 rw[Array.getD_eq_getD_getElem?,u1 hlt,u7] at h
 simp[yielded,hj,u1 hlt,h]
theorem bPb[Mode]{j s:Nat}{b:Bool}{Post:St->Prop}(hg:o.guard=some (j,b))(hj:(ops[j]?).bind (·.dst)=some s)(hs:s<n){c:Bool}(hb:st.env s=.d (.lit (.bool c)))(hc:c=b)(h:Step P n o st Post)
  (hr:∀st',Post st'->TrL P n ops rest st' Q):TrL P n ops (o::rest) st Q:=
 λA M w0 a w hR=>wpListIn_step λK hK=>by
  subst hc;rw[if_pos (by simp[Region.wanted,hg,yZ hR hj hs hb])];exact h.x A M w0 a w hR K _ λst' a' w' hp hR'=>hK _ _ (hr st' hp A M w0 a' w' hR')
theorem vJ[Mode]{j s:Nat}{b:Bool}(hg:o.guard=some (j,b))(hj:(ops[j]?).bind (·.dst)=some s)(hs:s<n){c:Bool}(hb:st.env s=.d (.lit (.bool c)))(hc:c=b)(h:aQ P n o st st')
  (hr:TrL P n ops rest st' Q):TrL P n ops (o::rest) st Q:=
 bPb hg hj hs hb hc h λ_ e=>e▸hr
theorem aPy(w:World)(X:aR):VR w X (.tup []) undef:=.tup (us:=[]) rfl λi hi=>by simp at hi
theorem aNe[Mode]{j s d:Nat}{b:Bool}(hg:o.guard=some (j,b))(ho:o.dst=some d)(hd:d<n)(hj:(ops[j]?).bind (·.dst)=some s)(hs:s<n){c:Bool}(hb:st.env s=.d (.lit (.bool c)))(hc:c=!b)
  (hr:TrL P n ops rest (st.set d (.tup [])) Q):TrL P n ops (o::rest) st Q:=
 λA M w0 a w hR=>wpListIn_step λK hK=>by
  rw[if_neg (by simp[Region.wanted,hg,yZ hR hj hs hb,hc])];exact⟨λ_ _=>trivial,hK _ _ (hr A M w0 _ w (hR.put ho hd (aPy _ _)))⟩
theorem bKv[Mode]{j s d:Nat}{b:Bool}(hg:o.guard=some (j,b))(ho:o.dst=some d)(hd:d<n)(hj:(ops[j]?).bind (·.dst)=some s)(hs:s<n)(hb:st.env s=.tup [])
  (hr:TrL P n ops rest (st.set d (.tup [])) Q):TrL P n ops (o::rest) st Q:=
 λA M w0 a w hR=>wpListIn_step λK hK=>by
  have h:=hR.env s;rw[hb] at h;have hlt:s<a.tmps.size:=by rw[hR.size];exact hs
  rw[Array.getD_eq_getD_getElem?,u1 hlt,u7] at h;have hy:yielded ops a.tmps j=none:=by
   simp only[yielded,hj,c6,u1 hlt]
   generalize a.tmps[s]=u at h
   cases h;rfl
  rw[if_neg (by simp[Region.wanted,hg,hy])];exact⟨λ_ _=>trivial,hK _ _ (hr A M w0 _ w (hR.put ho hd (aPy _ _)))⟩
theorem cCu [Mode](m:Nat){l:List Oper}(mid:St)(h:TrL P n ops (l.take m) st (mM (λs=>Ent s mid) (λ_ _=>False)))(h2:TrL P n ops (l.drop m) mid Q):TrL P n ops l st Q:=by
  have key : ∀ (F :Fence) (l:List Oper) (m:Nat) (a:Act) (w:World) (Q1 Q2:Exit->Act->World->Prop),wpListIn F 0 P ops Q1 (l.take m) a w->(∀a' w',Q1 .normal a' w'->wpListIn F 0 P ops Q2 (l.drop m) a' w')->(∀e a w,e≠.normal->¬Q1 e a w)->wpListIn F 0 P ops Q2 l a w:=by
    intro F l
    induction l with
    |nil=>intro m a w Q1 Q2 h1 h2 _;simp at h1 h2;exact h2 a w h1
    | cons o l ih =>
      intro m a w Q1 Q2 h1 h2 h3;cases m with
      |zero=>exact h2 a w h1
      | succ m =>
        simp only[aD8,aG6,wpListIn] at h1 h2|-
        split
        · rename_i hw
          rw[if_pos hw] at h1;unfold Oper.wpIn at h1|-;refine⟨h1.1,?_⟩;have h1:=h1.2
          generalize(o.semAt F.round a.eval).run P w=r at h1
          cases r with
          | ok x w'=>
            cases x<;>simp only[Oper.uponIn] at h1⊢<;>first
              |exact ih m _ _ Q1 Q2 h1 h2 h3
              | (refine⟨h1.1,h1.2.mono ?_⟩
                 intro e w'' he;cases e with
                 |returned v=>exact ih m _ _ Q1 Q2 he h2 h3
                 |panicked ch=>exact absurd he (h3 _ _ _ (by simp))
                 |outgrown=>obtain⟨a',w',hq⟩:=he;exact absurd hq (h3 _ _ _ (by simp)))
              |exact⟨h1.1,RowsIn.mono h1.2 λ_ _ he=>ih m _ _ Q1 Q2 he h2 h3⟩
              |exact h1.elim
          |halt x w'=>cases x<;>simp only[Oper.uponIn] at h1⊢<;>first|exact absurd h1 (h3 _ _ _ (by simp))|exact h1.elim
        · rename_i hw
          rw[if_neg hw] at h1;exact⟨h1.1,ih m _ _ Q1 Q2 h1.2 h2 h3⟩
  intro A M w0 a w hR;refine key _ l m a w _ _ (h A M w0 a w hR) (λa' w' ⟨s,hs,hR'⟩=>h2 A M w0 a' w' (hs A M w0 n a' w' hR')) λe a w he hq=>?_;obtain⟨s,hs,_⟩:=hq;cases e<;>first|exact he rfl|exact hs
def aKa(e:Nat->AV):List (Nat×AV)->Nat->AV
 |[]=>e
 |(k,v)::l=>upd (aKa e l) k v
def AllEq(e e':Nat->AV):List Nat->Prop
 |[]=>True
 |k::l=>e k=e' k/\AllEq e e' l
theorem AllEq.get{e e':Nat->AV}:∀{l:List Nat},AllEq e e' l->∀{k:Nat},aY k l=true->e k=e' k
 |[],_,k,h=>by simp[aY] at h
 | j::l,h,k,hk=>by
  simp only[aY] at hk;cases hb:Nat.beq j k with
  |true=>have:=f7 hb;subst this;exact h.1
  |false=>rw[hb] at hk;exact AllEq.get h.2 (by simpa using hk)
def Le(e e':Nat->AV):Prop:=∀k,e' k=.any\/e' k=e k
theorem bL{e e0:Nat->AV}{l:List Nat}(h:AllEq e e0 l):Le e (keep l e0):=by
 intro k;unfold keep;cases hm:aY k l with
 |false=>simp
 |true=>exact .inr (h.get hm).symm
theorem bG{e e':Nat->AV}{k:Nat}{v:AV}(hv:e k=v)(h:Le e e'):Le e (upd e' k v):=by
 intro j
 by_cases hj:k=j
 ·subst hj;rw[fD];exact .inr hv.symm
 ·rw[lC _ _ hj];exact h j
def pick(objs:List MO):List Nat->Option (List MO)
 |[]=>some []
 | i::l=>match objs[i]?,pick objs l with
  |some m,some r=>some (m::r)
  |_,_=>none
def apart:List Nat->Bool
 |[]=>true
 |i::l=>bif aY i l then false else apart l
theorem iV{n:Nat}:∀{l:List Nat},aY n l=true↔n∈l
 |[]=>by simp[aY]
 | k::l=>by
  simp only[aY];cases hb:Nat.beq k n with
  |true=>have:=f7 hb;subst this;simp
  | false=>
   have hne:n≠k:=λe=>by subst e;simp at hb
   simp[hne,iV (l:=l)]
theorem aWu{objs:List MO}:∀{l:List Nat} {r:List MO},pick objs l=some r->∀m∈r,∃i∈l,objs[i]?=some m
 |[],r,h,m,hm=>by simp only[pick,m7] at h;subst h;simp at hm
 | i::l,r,h,m,hm=>by
  simp only[pick] at h;split at h
  ·rename_i m0 r0 h1 h2
   cases h
   rcases l4.1 hm with rfl|hm
   ·exact⟨i,by simp,h1⟩
   ·obtain⟨j,hj,hjo⟩:=aWu h2 m hm;exact⟨j,by simp[hj],hjo⟩
  ·cases h
theorem bJl{objs:List MO}(hs:Sep objs):∀{l:List Nat} {r:List MO},apart l=true->pick objs l=some r->Sep r
 |[],r,_,h=>by simp only[pick,m7] at h;subst h;exact .nil
 | i ::l,r,ha,h=>by
  simp only[pick] at h;split at h
  ·rename_i m0 r0 h1 h2
   cases h;simp only[apart] at ha;cases hm:aY i l with
   |true=>rw[hm] at ha;simp at ha
   | false=>
    rw[hm] at ha;refine aC5.2 ⟨λm hmr b o hf hf'=>?_,bJl hs (by simpa using ha) h2⟩;obtain⟨j,hj,hjo⟩:=aWu h2 m hmr;have hij:i≠j:=λe=>by subst e;rw[iV.2 hj] at hm;cases hm
    have hil:=(g7.1 h1);have hjl:=(g7.1 hjo);have hp:=u0.1 hs
    rcases Nat.lt_or_gt_of_ne hij with h3|h3
    ·exact hp i j hil.1 hjl.1 h3 b o (hil.2▸hf) (hjl.2▸hf')
    ·exact hp j i hjl.1 hil.1 h3 b o (hjl.2▸hf') (hil.2▸hf)
  ·cases h
theorem bE[Mode]{env env':Nat->AV}{objs objs':List MO}(l:List Nat)(ha:apart l=true)(ho:pick objs l=some objs')(he:Le env env'):Ent ⟨env,objs⟩ ⟨env',objs'⟩:=by
 intro A M w0 n a w hR;have hmem:∀m∈objs',m∈objs:=λm hm=>by
  obtain⟨i,_,hi⟩:=aWu ho m hm;exact i8 hi
 have hsub:∀b o,aU A objs' b o->aU A objs b o:=λb o h=>h.imp id λ⟨m,hm,hf⟩=>⟨m,hmem m hm,hf⟩;have hmono:Mono w (aU A objs) w (aU A objs'):=Mono.sub hsub;refine⟨hR.size,hR.defers.sub hsub,λk=>?_,⟨bJl hR.inv.sep ha ho,λm hm=>hR.inv.apart m (hmem m hm),
  λm hm=>cI (hR.inv.holds m (hmem m hm)) (Keeps.refl (λ_ _=>False) w) (λ_ _ _ h=>h) hmono,hR.inv.amb.on hmono⟩,hR.keeps,λm hm=>hR.own m (hmem m hm),hR.old⟩
 rcases he k with h|h
 ·show VR _ _ (env' k) _;rw[h];exact .any _
 ·show VR _ _ (env' k) _;rw[h];exact(hR.env k).mono hmono
theorem kL[Mode]{env env':Nat->AV}{objs:List MO}(he:Le env env'):Ent ⟨env,objs⟩ ⟨env',objs⟩:=aTk he
def BLe(fs:List MO)(e e':Nat->AV):Prop:=∀k,BV fs (e k) (e' k)
theorem bNc{fs:List MO}{e:Nat->AV}:BLe fs e emp:=λ_=>.any _
theorem aIa{fs:List MO}{e e':Nat->AV}{k:Nat}{v:AV}(hv:BV fs (e k) v)(h:BLe fs e e'):BLe fs e (upd e' k v):=by
 intro j
 by_cases hj:k=j
 ·subst hj;rw[fD];exact hv
 ·rw[lC _ _ hj];exact h j
theorem aEb{fs:List MO}{e e0:Nat->AV}{l:List Nat}(h:AllEq e e0 l):BLe fs e (keep l e0):=by
 intro k
 rcases bL h k with h|h
 ·rw[h];exact .any _
 ·rw[h];exact .same _
theorem aAh[Mode]{env env':Nat->AV}{objs:List MO}(h:BLe objs env env'):Ent ⟨env,objs⟩ ⟨env',[]⟩:=oL (keepers:=[]) (gone:=objs) (by simp) h
theorem vT{fs:List MO}{v:Value}{e k:Nat}{rows:List (List D)}(i:Nat)(hm:fs[i]?=some (.arr v e k rows))(hk:∀r∈rows,r.length=k):DV fs (.lit v) (.sl k rows):=
 .arr v e k rows rows (i8 hm) rfl hk λ_ _ _ _=>.same _
theorem gB{α:Type}{f:α->List D}{k:Nat}(h:∀x,(f x).length=k){xs:List α}:∀r∈xs.map f,r.length=k:=by
 intro r hr;obtain⟨x,_,rfl⟩:=l5.1 hr;exact h x
theorem vI[Mode]{l:List Oper}(m:Nat)(ks:List Nat)(t:Nat)(b:Bool)(h:TrL P n ops (l.take m) st (mM (λs=>Ent s ⟨upd (keep ks st.env) t (.b b),st.objs⟩) (λ_ _=>False)))
  (h2:TrL P n ops (l.drop m) ⟨upd (keep ks st.env) t (.b b),st.objs⟩ Q):TrL P n ops l st Q:=cCu m _ h h2
theorem aDh[Mode]{id:Nat}{c:Code}{N:St->Prop}(h:Tr P n c st (zM id N (mM N Q))):Tr P n (.block id c) st (mM N Q):=aXi h λ_ h=>h
theorem nD[Mode]{id:Nat}{N:St->Prop}(h:N st):Tr P n .skip st (zM id N Q):=λ_ _ _ _ _ hR _=>wpIn_skip ⟨st,h,hR⟩
theorem bPv{p:Prop}(c:Bool)(h1:c=true->p)(h2:c=false->p):p:=by
 cases c
 ·exact h2 rfl
 ·exact h1 rfl
theorem bind_some{α β:Type}{x:Option α}{f:α->Option β}{r:β}(h:x.bind f=some r):∃a,x=some a/\f a=some r:=aE7.1 h
theorem aMe{α:Type}{c:Bool}{x y:Option α}{r:α}(hc:c=true)(h:(bif c then x else y)=some r):x=some r:=by subst hc;exact h
theorem aMd{α:Type}{c:Bool}{x y:Option α}{r:α}(hc:c=false)(h:(bif c then x else y)=some r):y=some r:=by subst hc;exact h
theorem aC{a b:Nat}(h:Nat.blt a b=true):a<b:=by
 have:=f5 h
 omega
end
def BIG:Nat:=2^64
end Go.Am
end
section
namespace Go.Am
def aP(n:Int):List D:=[.lit (.int .i64 n)]
def tW(b:Bool):List D:=[.lit (.bool b)]
abbrev Str:=List UInt8
def sv(s:Str):Value:=.string ⟨s.toArray⟩
def wG(s:Str):List D:=[.lit (.string ⟨s.toArray⟩)]
def bYs(a b:Int):Int:=IntKind.i64.wrap ((BitVec.ofInt IntKind.i64.bits a&&&BitVec.ofInt IntKind.i64.bits b).toNat)
def bOr(a b:Int):Int:=IntKind.i64.wrap ((BitVec.ofInt IntKind.i64.bits a|||BitVec.ofInt IntKind.i64.bits b).toNat)
def bBk(a b:Int):Int:=IntKind.i64.wrap ((BitVec.ofInt IntKind.i64.bits a^^^BitVec.ofInt IntKind.i64.bits b).toNat)
def chk(b:Bool):Option Unit:=bif b then some () else none
theorem bHj{b:Bool}{u:Unit}(h:chk b=some u):b=true:=by cases b<;>simp[chk] at h|-
def app{α:Type}(bytes:Nat)(xs ys:List α):Option (List α):=if(xs.length+ys.length)*bytes<=140737488355328 then some (xs++ys) else none
theorem aIq{α:Type}{bytes:Nat}{xs ys zs:List α}(h:app bytes xs ys=some zs):(xs.length+ys.length)*bytes<=140737488355328/\zs=xs++ys:=by
 unfold app at h;split at h
 ·rename_i hc;cases h;exact⟨hc,rfl⟩
 ·cases h
theorem cHu{α:Type}(f:α->List D)(xs:List α)(i:Nat)(y:α){ds:List D}(h:ds=f y):(xs.map f).set i ds=(xs.set i y).map f:=by
 subst h;exact List.map_set.symm
theorem xZ{α:Type}(f:α->List D){xs:List α}{p:Int}{x:α}(h:idx xs p=some x):(xs.map f)[p.toNat]?=some (f x):=(aIz (fM f h)).2.2
section
variable{P:Program}{n d:Nat}{st st':St}{o:Oper}{Q:Exit->St->Prop}{N:St->Prop}{ops:Array Oper}
theorem aMy[Mode]{α:Type}{x:Operand}{k:Nat}{f:α->List D}{xs:List α}{t ty:TypeId}{pos:String}{af:Array Edge}{gd:Option (Nat×Bool)}(hd:d<n)
  (hx:st.eval x=.d (.sl k (xs.map f))){e kk:Nat}(ht:mD P t e kk):aQ P n ⟨some d,.call {callee:=.builtin .len,args:= #[x],argTypes:= #[t]},ty,pos,af,gd⟩ st (st.set d (.i xs.length)):=by
 have:=bKg (ty:=ty) (pos:=pos) (af:=af) (gd:=gd) hd hx ht
 rwa[m8] at this
theorem bSj[Mode]{α:Type}{x:Operand}{v:Value}{e k m:Nat}{f:α->List D}{xs:List α}{t ty:TypeId}{pos:String}{af:Array Edge}{gd:Option (Nat×Bool)}(hd:d<n)
  (hx:st.eval x=.d (.lit v))(ho:st.objs[m]?=some (.arr v e k (xs.map f))){e' kk:Nat}(ht:mD P t e' kk):aQ P n ⟨some d,.call {callee:=.builtin .len,args:= #[x],argTypes:= #[t]},ty,pos,af,gd⟩ st (st.set d (.i xs.length)):=by
 have:=bFa (ty:=ty) (pos:=pos) (af:=af) (gd:=gd) hd hx ho ht
 rwa[m8] at this
theorem uQ[Mode]{α:Type}{t e k bytes i:Nat}{z v:Value}{x y:Operand}{f:α->List D}{xs ys zs:List α}{ty:TypeId}{pos:String}{af:Array Edge}{gd:Option (Nat×Bool)}(hd:d<n)(ht:SliceTy P t e k bytes z)
  (hx:st.eval x=.d (.lit v))(ho:st.objs[i]?=some (.arr v e k (xs.map f)))(hy:st.eval y=.d (.sl k (ys.map f)))(hk:∀x,(f x).length=k)
  (h:app bytes xs ys=some zs)(hby:Nat.blt 0 bytes=true):
  Step P n ⟨some d,.call {callee:=.builtin .append,args:= #[x,y],argTypes:= #[t,t]},ty,pos,af,gd⟩ st
   (λs=>∃v',s=(st.setput d (.d (.lit v')) i (.arr v' e k (zs.map f)))):=by
 obtain⟨h1,rfl⟩:=aIq h;have:=aXc (ty:=ty) (pos:=pos) (af:=af) (gd:=gd) hd ht hx ho hy (gB hk) (by simpa using h1) (aC hby)
 simpa using this
theorem bSk[Mode]{x y:Operand}{k:IntKind}{p q:Int}{ts:Array TypeId}{ty:TypeId}{pos:String}{af:Array Edge}{gd:Option (Nat×Bool)}(hd:d<n)
  (hx:st.eval x=.d (.lit (.int k p)))(hy:st.eval y=.d (.lit (.int k q))):
  aQ P n ⟨some d,.call {callee:=.builtin .max,args:= #[x,y],argTypes:=ts},ty,pos,af,gd⟩ st (st.set d (.d (.lit (.int k (max p q))))):=
 gH rfl hd rfl λA M w0 a w hR=>by
  have:(if q>p then q else p)=max p q:=by simp only[Int.max_def];split<;>split<;>omega
  simp[execOp,resolve,hR.lit hx,hR.lit hy,invoke,builtin,Builtin.max_,Builtin.max2,this]
theorem cEs[Mode]{x y:Operand}{k:IntKind}{p q:Int}{ts:Array TypeId}{ty:TypeId}{pos:String}{af:Array Edge}{gd:Option (Nat×Bool)}(hd:d<n)
  (hx:st.eval x=.d (.lit (.int k p)))(hy:st.eval y=.d (.lit (.int k q))):
  aQ P n ⟨some d,.call {callee:=.builtin .min,args:= #[x,y],argTypes:=ts},ty,pos,af,gd⟩ st (st.set d (.d (.lit (.int k (min p q))))):=
 gH rfl hd rfl λA M w0 a w hR=>by
  have:(if q<p then q else p)=min p q:=by simp only[Int.min_def];split<;>split<;>omega
  simp[execOp,resolve,hR.lit hx,hR.lit hy,invoke,builtin,Builtin.min_,Builtin.min2,this]
theorem bMr[Mode]{x y:Operand}{t len e:Nat}{ds:List D}{kd:IntKind}{p:Int}{d0:D}{ty:TypeId}{pos:String}{af:Array Edge}{gd:Option (Nat×Bool)}(hd:d<n)
  (hx:st.eval x=.agg ds)(hy:st.eval y=.d (.lit (.int kd p)))(ht:aXl P t len e 1)(h1:fN P e)(hp:0<=p/\p<len)(hj:ds[p.toNat*1]?=some d0):
  aQ P n ⟨some d,.index t x y,ty,pos,af,gd⟩ st (st.set d (.d d0)):=
 cG rfl hd λA M w0 a w hR=>by
  have hk:cD x=true:=by cases x with|const u=>cases hx|_=>rfl
  have h:=hR.eval' hk;rw[hx] at h
  generalize hu:a.eval x=u at h
  cases h with
  | agg h=>
   rename_i cs
   obtain⟨v,hv,hdv⟩:=h.get hj;refine⟨v,?_,.d hdv⟩;have hv':cs[p.toNat]?=some v:=by simpa using hv
   simp[execOp,hu,hR.lit hy,Instr.index,asIntOf,ht.1,ht.2,hp.1,hp.2,part,h1.1,hv']
theorem cLn[Mode]{x:Operand}{k k':IntKind}{p:Int}{t u ty:TypeId}{td:TypeDesc}{pos:String}{af:Array Edge}{gd:Option (Nat×Bool)}(hd:d<n)
  (hx:st.eval x=.d (.lit (.int k p)))(ht:∀w,(underlying t).run P w=.ok td w)(hu:∀w,(underlying u).run P w=.ok (.int k') w):
  aQ P n ⟨some d,.convert t u x,ty,pos,af,gd⟩ st (st.set d (.d (.lit (.int k' (k'.wrap p))))):=
 gH rfl hd rfl λA M w0 a w hR=>by simp[execOp,hR.lit hx,convert,ht,hu,Conv.intToInt]
theorem jR[Mode]{ks:List Nat}{t:Nat}{v:AV}{s:St}(ho:s.objs=st.objs)(he:AllEq s.env st.env ks)(hv:s.env t=v):Ent s ⟨upd (keep ks st.env) t v,st.objs⟩:=by
 rw[<-ho];exact kL (bG hv (bL he))
theorem fC[Mode]{S T:Type}(l:List Nat)(us:S->List (Nat×AV))(objs:S->List MO)(F:Nat->S->Option T){r:T}{c:Code}(hz:∀s,F 0 s=none){k0:Nat}(s0:S)(h0:F k0 s0=some r)
  (he:Ent st ⟨aKa (keep l st.env) (us s0),objs s0⟩)
  (body:∀k s,F (k+1) s=some r->Tr P n c ⟨aKa (keep l st.env) (us s),objs s⟩ (mM (λst'=>∃s',F k s'=some r/\Ent st' ⟨aKa (keep l st.env) (us s'),objs s'⟩) Q)):Tr P n (.loop c) st Q:=
 jZ he (aUg (λs=>⟨aKa (keep l st.env) (us s),objs s⟩) F r hz body k0 s0 h0)
theorem cIi[Mode](h:Q .normal st):TrL P n ops [] st Q:=λ_ _ _ _ _ hR=>wpListIn_nil ⟨st,h,hR⟩
theorem bXw[Mode]{l:Nat}(h:N st):Tr P n (.label l) st (mM N Q):=bKt h
theorem aIj[Mode]{id id':Nat}{c:Code}(h:Tr P n c st (zM id N (zM id' N Q))):Tr P n (.block id c) st (zM id' N Q):=aXi h λ_ h=>h
end
def inb(len:Nat)(p:Int):Option Unit:=if 0<=p/\p<len then some () else none
theorem iU{len:Nat}{p:Int}{u:Unit}(h:inb len p=some u):0<=p/\p<len:=by
 unfold inb at h;split at h
 ·assumption
 ·cases h
def okI(n:Int):Prop:= -9223372036854775808<=n/\n<=9223372036854775807
def okB(_:Bool):Prop:=True
def okL{α:Type}(ok:α->Prop)(xs:List α):Prop:=xs.length<=maxLen/\∀x∈xs,ok x
end Go.Am
end
end
