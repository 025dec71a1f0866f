/- Several texts, one behind the other. -/
import Derived.Test.YtiohgpipanopaaaGreatAmOps
import Derived.Laws.IdiomCopy
import Derived.Laws.MakeOwn
section
namespace Go.Am
theorem Keeps.alloc(Z:bH)(w:World)(o:Obj):Keeps Z w (w.alloc o):=
  ⟨rfl,rfl,rfl,by simp,λb hb _=>heap_alloc_old w o b hb,λb _ hb _=>World.cell?_alloc_lt w o _ hb,
   λb _ hb _=>World.frozen?_alloc_old w o ⟨b,_,none⟩ (Nat.ne_of_lt hb),Nat.le_refl _⟩
theorem Keeps.drew(Z:bH)(w:World):Keeps Z w w.drew:=
 ⟨rfl,rfl,rfl,Nat.le_refl _,λ_ _ _=>rfl,λ_ _ _ _=>rfl,λ_ _ _ _=>rfl,Nat.le_succ _⟩
theorem aGv(b:Nat):∀(vs:List Value) (o:Nat) (w:World) (i:Nat),i≠b->(w.setCells b o vs).heap[i]?=w.heap[i]?
 |[],_,_,_,_=>rfl
 | v::vs,o,w,i,h=>by
  rw[World.setCells,aGv b vs _ _ i h,heap_setCell_other _ _ _ _ h]
theorem aQc(b:Nat):∀(vs:List Value) (o:Nat) (w:World),(w.setCells b o vs).os=w.os/\(w.setCells b o vs).tape=w.tape/\(w.setCells b o vs).output=w.output/\(w.setCells b o vs).heap.size=w.heap.size/\(w.setCells b o vs).drawn=w.drawn
 |[],_,_=>⟨rfl,rfl,rfl,rfl,rfl⟩
 | v::vs,o,w=>by
  rw[World.setCells];have:=aQc b vs (o+1) (w.setCell ⟨b,o,none⟩ v)
  simpa[World.setCell] using this
theorem Keeps.setCells(w:World)(b o:Nat)(vs:List Value){Z:bH}(hz:∀y,o<=y->y<o+vs.length->Z b y)(hne:vs≠[]):Keeps Z w (w.setCells b o vs):=by
 have hf:=aQc b vs o w;refine⟨hf.1,hf.2.1,hf.2.2.1,by rw[hf.2.2.2.1];exact Nat.le_refl _,λi hi h=>?_,λi y hi h=>?_,λ_ _ _ _=>World.frozen?_setCells b vs o w _,by rw[hf.2.2.2.2];exact Nat.le_refl _⟩
 ·by_cases hib:i=b
  ·subst hib;have:0<vs.length:=List.length_pos_iff.2 hne;exact absurd (hz o (Nat.le_refl _) (by omega)) (h o)
  ·exact aGv b vs o w i hib
 ·refine World.cell?_setCells_out b vs o w ⟨i,y,none⟩ λhb _=>?_;simp only at hb|-;subst hb
  rcases Nat.lt_or_ge y o with h1|h1
  ·exact .inl h1
  ·rcases Nat.lt_or_ge y (o+vs.length) with h2|h2
   ·exact absurd (hz y h1 h2) h
   ·exact .inr h2
theorem R.change{A M Z:bH}{w0:W0}{n:Nat}{st:St}{a:Act}{w w':World}{objs':List MO}(h:R A M w0 n st a w)(hk:Keeps Z w w')
  (hz:∀b o,Z b o->fC st.objs b o)(hl:∀b o,b<w.heap.size->fC objs' b o->fC st.objs b o)(hsep:Sep objs')
  (hh:Mono w (bF A st.objs) w' (bF A objs')->∀m∈objs',m.holds w' (bF A objs')):R A M w0 n ⟨st.env,objs'⟩ a w':=by
 have hm:Mono w (bF A st.objs) w' (bF A objs'):=nJ hk (λb o hb=>.inr (hz b o hb)) λb o hb hx=>hx.imp id (hl b o hb);have hs0:=h.keeps.size;refine⟨h.size,h.defers.step hk (λb o hb=>.inr (hz b o hb)) (λb o hb hx=>hx.imp id (hl b o hb)),λk=>(h.env k).mono hm,⟨hsep,λm hm' b o hf hA=>?_,hh hm⟩,h.keeps.weaken hk λb o hb=>?_,λm hm' b o hf=>?_,h.old⟩
 ·have hlt:=Nat.lt_of_lt_of_le (h.old b o hA) hs0;obtain⟨m2,h2,h3⟩:=hl b o hlt ⟨m,hm',hf⟩;exact h.inv.apart m2 h2 b o h3 hA
 ·obtain⟨m2,h2,h3⟩:=hz b o hb;exact h.own m2 h2 b o h3
 ·rcases Nat.lt_or_ge b w.heap.size with hlt|hge
  ·obtain⟨m2,h2,h3⟩:=hl b o hlt ⟨m,hm',hf⟩;exact h.own m2 h2 b o h3
  ·exact .inr (Nat.le_trans hs0 hge)
theorem qN{l l':List MO}{b o:Nat}:fC (l++l') b o↔fC l b o\/fC l' b o:=by
 constructor
 ·rintro⟨m,hm,hf⟩
  rcases List.mem_append.1 hm with h|h
  ·exact .inl ⟨m,h,hf⟩
  ·exact .inr ⟨m,h,hf⟩
 ·rintro(⟨m,hm,hf⟩|⟨m,hm,hf⟩)
  ·exact⟨m,List.mem_append.2 (.inl hm),hf⟩
  ·exact⟨m,List.mem_append.2 (.inr hm),hf⟩
theorem bRf{m:MO}{b o:Nat}:fC [m] b o↔m.foot b o:=by simp[fC]
theorem R.add{A M:bH}{w0:W0}{n:Nat}{st:St}{a:Act}{w w':World}{m:MO}(h:R A M w0 n st a w)(hk:Keeps (λ_ _=>False) w w')
  (hf:∀b o,m.foot b o->w.heap.size<=b)(hh:Mono w (bF A st.objs) w' (bF A (st.objs++[m]))->m.holds w' (bF A (st.objs++[m]))):R A M w0 n ⟨st.env,st.objs++[m]⟩ a w':=by
 have hlt:∀x∈st.objs,∀b o,x.foot b o->b<w.heap.size:=λx hx b o hxf=>oK (h.inv.holds x hx) hxf;refine h.change hk (λ_ _ hx=>hx.elim) (λb o hb hx=>?_) ?_ λhm x hx=>?_
 ·rcases qN.1 hx with h1|h1
  ·exact h1
  ·have:=hf b o (bRf.1 h1);omega
 ·refine List.pairwise_append.2 ⟨h.inv.sep,by simp,λx hx y hy b o hxf hyf=>?_⟩
  simp at hy;subst hy
  have:=hlt x hx b o hxf;have:=hf b o hyf
  omega
 ·rcases List.mem_append.1 hx with h1|h1
  ·exact bY (h.inv.holds x h1) hk (λ_ _ _ hx=>hx) hm
  ·simp at h1;subst h1;exact hh hm
theorem R.replace{A M Z:bH}{w0:W0}{n:Nat}{st:St}{a:Act}{w w':World}{i:Nat}{m m':MO}(h:R A M w0 n st a w)(hi:st.objs[i]?=some m)(hk:Keeps Z w w')
  (hz:∀b o,Z b o->m.foot b o)(hf:∀b o,m'.foot b o->m.foot b o\/w.heap.size<=b)
  (hh:Mono w (bF A st.objs) w' (bF A (st.objs.set i m'))->m'.holds w' (bF A (st.objs.set i m'))):R A M w0 n ⟨st.env,st.objs.set i m'⟩ a w':=by
 have hlt:∀x∈st.objs,∀b o,x.foot b o->b<w.heap.size:=λx hx b o hxf=>oK (h.inv.holds x hx) hxf;have hil:i<st.objs.length:=(List.getElem?_eq_some_iff.1 hi).1;have hmi:st.objs[i]=m:=(List.getElem?_eq_some_iff.1 hi).2;have hsep:=List.pairwise_iff_getElem.1 h.inv.sep;refine h.change hk (λb o hb=>⟨m,List.mem_of_getElem? hi,hz b o hb⟩) (λb o hb hx=>?_) ?_ λhm x hx=>?_
 ·obtain⟨x,hx,hxf⟩:=hx
  rcases List.mem_or_eq_of_mem_set hx with h1|rfl
  ·exact⟨x,h1,hxf⟩
  ·rcases hf b o hxf with h1|h1
   ·exact⟨m,List.mem_of_getElem? hi,h1⟩
   ·omega
 ·refine List.pairwise_iff_getElem.2 λp q hp hq hpq b o hpf hqf=>?_;simp only[List.length_set] at hp hq;simp only[List.getElem_set] at hpf hqf;split at hpf
  ·rename_i hip
   split at hqf
   ·omega
   ·subst hip
    rcases hf b o hpf with h1|h1
    ·exact hsep i q hil hq hpq b o (hmi▸h1) hqf
    ·have:=hlt _ (List.getElem_mem hq) b o hqf;omega
  ·split at hqf
   ·rename_i hiq
    subst hiq
    rcases hf b o hqf with h1|h1
    ·exact hsep p i hp hil hpq b o hpf (hmi▸h1)
    ·have:=hlt _ (List.getElem_mem hp) b o hpf;omega
   ·exact hsep p q hp hq hpq b o hpf hqf
 ·obtain⟨q,hq⟩:=List.getElem?_of_mem hx;rw[List.getElem?_set] at hq
  by_cases hne:i=q
  ·subst hne;rw[if_pos rfl,if_pos hil] at hq;cases hq;exact hh hm
  ·rw[if_neg hne] at hq;have hql:q<st.objs.length:=(List.getElem?_eq_some_iff.1 hq).1;have hqe:st.objs[q]=x:=(List.getElem?_eq_some_iff.1 hq).2;have hxm:x∈st.objs:=List.mem_of_getElem? hq;refine bY (h.inv.holds x hxm) hk (λb o hxf hzb=>?_) hm;have hmf:=hz b o hzb
   rcases Nat.lt_or_gt_of_ne hne with h1|h1
   ·exact hsep i q hil hql h1 b o (hmi▸hmf) (hqe▸hxf)
   ·exact hsep q i hql hil h1 b o (hqe▸hxf) (hmi▸hmf)
def AV.cells:AV->Option (List D)
 | .d x=>some [x]
 | .agg xs=>some xs
 |_=>none
theorem VR.cells{w:World}{X:bH}{x:AV}{v:Value}{ds:List D}(h:VR w X x v)(hc:x.cells=some ds):DRs w X ds v.cells.toList:=by
 cases h with
 | d h=>
  cases hc;have:=h.oneCell;cases v<;>first|(exact⟨h,trivial⟩)|(simp[Value.oneCell'] at this)
 |agg h=>cases hc;exact h
 |_=>cases hc
section
variable{P:Program}{n d:Nat}{st:St}{o:Oper}
theorem aZm{w:World}{X X':bH}{ds:List D}{cs:Array Value}{e:TypeId}(h:DRs w X ds cs.toList)(hm:Mono w X (w.alloc (.cells cs e)) X'):(MO.box w.heap.size 0 ds).holds (w.alloc (.cells cs e)) X':=by
 refine⟨cs.toList,h.mono hm,λj v hj=>?_,λj _=>?_⟩
 ·rw[World.cell?_alloc_new];simpa using hj
 ·simp
theorem lC{x:Operand}{t:TypeId}{v:AV}{ds:List D}{ty:TypeId}{pos:String}{af:Array Edge}{gd:Option (Nat×Bool)}(hd:d<n)
  (hx:st.eval x=v)(hk:cT x=true)(hv:v.cells=some ds):
  Step P n ⟨some d,.box t x,ty,pos,af,gd⟩ st (λs=>∃b,s=(st.setadd d (.bp b 0 0) (.box b 0 ds))):=by
 intro A M w0 a w hR K Q hK;have h:=hR.eval' hk;rw[hx] at h;have hds:=h.cells hv;unfold Oper.wp;have hrun:(execOp a.eval ⟨some d,.box t x,ty,pos,af,gd⟩).run P w=.ok (.value (.pointer (some ⟨w.heap.size,0,none⟩))) (w.alloc (.cells (a.eval x).cells t)):=by
  simp[execOp,Instr.box,newVar,newRow]
 rw[hrun,Oper.upon_value];refine hK _ _ _ ⟨w.heap.size,rfl⟩ ?_;have hR':=hR.add (w':=w.alloc (.cells (a.eval x).cells t)) (m:=.box w.heap.size 0 ds) (Keeps.alloc _ _ _) (λb o hf=>by cases hf.1;exact Nat.le_refl _)
  (λhm=>aZm hds hm)
 exact hR'.put (o:=⟨some d,.box t x,ty,pos,af,gd⟩) rfl hd (.bp _ 0 0)
def bA:D->Value
 | .lit v=>v
 | .sl _ _=>.slice none 0 0
 | .sn _ _=>.slice none 0 0
 | .mp _ _=>.map none
 | .pt _=>.pointer none
 | .hv .. =>undef
def zOK:List D->Bool
 |[]=>true
 | .lit v::l=>v.oneCell'&&zOK l
 | .sl _ []::l=>zOK l
 |_=>false
theorem aDj{w:World}{X:bH}:∀{zs:List D},zOK zs=true->DRs w X zs (zs.map bA)
 |[],_=>trivial
 | .lit v::l,h=>by
  simp only[zOK,Bool.and_eq_true] at h;exact⟨.lit v h.1,aDj h.2⟩
 | .sl k []::l,h=>⟨.nil k,aDj (by simpa[zOK] using h)⟩
 | .sl k (r::rs)::l,h=>by simp[zOK] at h
 | .sn k rs::l,h=>by simp[zOK] at h
 | .mp _ _::l,h=>by simp[zOK] at h
 | .pt _::l,h=>by simp[zOK] at h
 | .hv .. ::l,h=>by simp[zOK] at h
theorem dG{t:TypeId}{z:Value}{zs:List D}{ty:TypeId}{pos:String}{af:Array Edge}{gd:Option (Nat×Bool)}(hd:d<n)
  (hz:∀w,(zeroValue t).run P w=.ok z w)(hzs:z.cells=(zs.map bA).toArray)(hok:zOK zs=true):
  Step P n ⟨some d,.alloc t,ty,pos,af,gd⟩ st (λs=>∃b,s=(st.setadd d (.bp b 0 0) (.box b 0 zs))):=by
 intro A M w0 a w hR K Q hK;unfold Oper.wp;have hrun:(execOp a.eval ⟨some d,.alloc t,ty,pos,af,gd⟩).run P w=.ok (.value (.pointer (some ⟨w.heap.size,0,none⟩))) (w.alloc (.cells (zs.map bA).toArray t)):=by
  simp[execOp,Instr.alloc,newVar,newRow,hz,hzs]
 rw[hrun,Oper.upon_value];refine hK _ _ _ ⟨w.heap.size,rfl⟩ ?_;have hR':=hR.add (w':=w.alloc (.cells (zs.map bA).toArray t)) (m:=.box w.heap.size 0 zs) (Keeps.alloc _ _ _) (λb o hf=>by cases hf.1;exact Nat.le_refl _)
  (λhm=>aZm (by simpa using aDj (w:=w) (X:=bF A st.objs) hok) hm)
 exact hR'.put (o:=⟨some d,.alloc t,ty,pos,af,gd⟩) rfl hd (.bp _ 0 0)
theorem aBy{t m:Nat}(hs:∀w,(sizeOf t).run P w=.ok m w){w:World}{b o:Nat}{v:Value}(hm:v.cells.size=m)
  (hc:∀j,j<m->(w.cell? ⟨b,o+j,none⟩).isSome=true)(hf:∀j,j<m->w.frozen? ⟨b,o+j,none⟩=false)(h1:∀u∈v.cells.toList,u.oneCell'=true):
  (Instr.storeAt t (.pointer (some ⟨b,o,none⟩)) v).run P w=.ok () (w.setCells b o v.cells.toList):=by
 have:=run_storeCells_cells (P:=P) b o v.cells.toList 0 w (by simpa[hm] using hc) (by simpa[hm] using hf) h1
 simp[Instr.storeAt,Instr.sureAddr,storeVar,hs,hm]
 simpa using this
def gD(ds:List D)(j:Nat)(es:List D):List D:=ds.take j++es++ds.drop (j+es.length)
theorem aBm{ds es:List D}{j:Nat}(h:j+es.length<=ds.length):(gD ds j es).length=ds.length:=by
 simp[gD];omega
theorem aRz{w:World}{X X':bH}{b o:Nat}{ds es:List D}{vs us:List Value}{j:Nat}(hds:DRs w X ds vs)(hc:cellsAt w b o vs)(hes:DRs w X es us)(hj:j+es.length<=ds.length)
  (hm:Mono w X (w.setCells b (o+j) us) X'):
  ∃vs',DRs (w.setCells b (o+j) us) X' (gD ds j es) vs'/\cellsAt (w.setCells b (o+j) us) b o vs':=by
 have hlv:=hds.length;have hlu:=hes.length;refine⟨vs.take j++us++vs.drop (j+es.length),(((hds.take j).append hes).append (hds.drop _)).mono hm,λq v hq=>?_⟩;have hcell:∀i,i<vs.length->(w.cell? ⟨b,o+i,none⟩).isSome=true:=λi hi=>by rw[hc i _ (List.getElem?_eq_getElem hi)];rfl
 rcases Nat.lt_or_ge q j with h1|h1
 ·rw[List.append_assoc,List.getElem?_append_left (by simp;omega),List.getElem?_take,if_pos h1] at hq;rw[World.cell?_setCells_out b us (o+j) w ⟨b,o+q,none⟩ λ_ _=>.inl (by simp only;omega)];exact hc q v hq
 ·rcases Nat.lt_or_ge q (j+us.length) with h2|h2
  ·rw[List.append_assoc,List.getElem?_append_right (by simp;omega),List.getElem?_append_left (by simp;omega)] at hq;have hq':q-(List.take j vs).length=q-j:=by simp;omega
   rw[hq'] at hq;have:=World.cell?_setCells_in b us (o+j) w (λi hi=>by rw[Nat.add_assoc];exact hcell (j+i) (by omega)) (q-j) (by omega);rw[show o+j+(q-j)=o+q by omega] at this;rw[this,<-hq,List.getElem?_eq_getElem]
  ·rw[List.getElem?_append_right (by simp;omega),List.getElem?_drop] at hq;have hq':j+es.length+(q-(List.take j vs++us).length)=q:=by simp;omega
   rw[hq'] at hq;rw[World.cell?_setCells_out b us (o+j) w ⟨b,o+q,none⟩ λ_ _=>.inr (by simp only;omega)];exact hc q v hq
theorem vG{x y:Operand}{t m b o0 j i:Nat}{ds es ds':List D}{v:AV}{ty:TypeId}{pos:String}{af:Array Edge}{gd:Option (Nat×Bool)}
  (hx:st.eval x=.bp b o0 j)(ho:st.objs[i]?=some (.box b o0 ds))(hy:st.eval y=v)(hk:cT y=true)(hv:v.cells=some es)(ht:∀w,(sizeOf t).run P w=.ok m w)(hm:es.length=m)(hm0:0<m)
  (hj:j+es.length<=ds.length)(hds:gD ds j es=ds'):
  bB P n ⟨none,.store t x y,ty,pos,af,gd⟩ st (st.put1 i (.box b o0 ds')):=by
 intro A M w0 a w hR K Q hK;have hkx:cT x=true:=by cases x with|const u=>cases hx|_=>rfl
 have h:=hR.eval' hkx;rw[hx] at h;have hyv:=hR.eval' hk;rw[hy] at hyv;have hes:=hyv.cells hv;obtain⟨vs,hvs,hc,hf⟩:=hR.inv.holds _ (List.mem_of_getElem? ho);have hlv:=hvs.length;have hle:=hes.length;have hsz:(a.eval y).cells.size=m:=by rw[<-Array.length_toList,hle,hm]
 have hcell:∀i,i<vs.length->(w.cell? ⟨b,o0+i,none⟩).isSome=true:=λi hi=>by rw[hc i _ (List.getElem?_eq_getElem hi)];rfl
 have hpt:a.eval x=.pointer (some ⟨b,o0+j,none⟩):=by
  generalize hu:a.eval x=u at h
  cases h;rfl
 have hst:=aBy (P:=P) ht (w:=w) (b:=b) (o:=o0+j) hsz (λq hq=>by rw[Nat.add_assoc];exact hcell _ (by omega)) (λq hq=>by rw[Nat.add_assoc];exact hf _ (by omega)) hes.oneCell;unfold Oper.wp;have hrun:(execOp a.eval ⟨none,.store t x y,ty,pos,af,gd⟩).run P w=.ok .skip (w.setCells b (o0+j) (a.eval y).cells.toList):=by
  simp[execOp,hpt,hst]
 rw[hrun,Oper.upon_skip];refine hK _ _ _ rfl ?_;subst hds;have hne:(a.eval y).cells.toList≠[]:=by intro h0;rw[h0] at hle;simp at hle;omega
 have hR':=hR.replace (w':=w.setCells b (o0+j) (a.eval y).cells.toList) (m':=.box b o0 (gD ds j es)) ho (Keeps.setCells w b (o0+j) _ (Z:=(MO.box b o0 ds).foot) (λq h1 h2=>⟨rfl,by omega,by omega⟩) hne)
  (λ_ _ hz=>hz) (λp q hf'=>.inl ⟨hf'.1,hf'.2.1,by have:=hf'.2.2;rwa[aBm hj] at this⟩) λhmono=>by
   obtain⟨vs',h1,h2⟩:=aRz hvs hc hes hj hmono;exact⟨vs',h1,h2,λq hq=>by rw[World.frozen?_setCells];exact hf q (by rwa[aBm hj] at hq)⟩
 exact hR'.put_none rfl
end
end Go.Am
end
section
namespace Go.Am
theorem aPb:∀(vs:List Value) (off k:Nat) (cs:Array Value),off+k+vs.length<=cs.size->
  ((vs.zipIdx k).foldl (λcs x=>cs.setIfInBounds (off+x.2) x.1) cs).toList=cs.toList.take (off+k)++vs++cs.toList.drop (off+k+vs.length)
 |[],off,k,cs,_=>by simp
 | v::vs,off,k,cs,h=>by
  simp only[List.length_cons] at h;simp only[List.zipIdx_cons,List.foldl_cons];rw[aPb vs off (k+1) (cs.setIfInBounds (off+k) v) (by simp;omega)];rw[Array.toList_setIfInBounds];have hl:off+k<cs.toList.length:=by simp;omega
  rw[show off+(k+1)=off+k+1 by omega,List.take_succ_eq_append_getElem (by simpa using hl),List.take_set_of_le (by omega)];rw[List.drop_set_of_lt (by omega)];simp only[List.getElem_set_self,List.length_cons,List.append_assoc,List.singleton_append,List.cons_append,List.nil_append];rw[show off+k+1+vs.length=off+k+(vs.length+1) by omega]
def aBg(place:Nat->Option (Nat×Nat))(ds:List D):List (Nat×AV)->Option (List D)
 |[]=>some ds
 | (i,x)::rest=>
  match place i,x.cells with
  |some (off,size),some es=>if es.length=size/\off+es.length<=ds.length then aBg place (gD ds off es) rest else none
  |_,_=>none
def PRs(w:World)(X:bH):List (Nat×AV)->List (Nat×Value)->Prop
 |[],[]=>True
 |(i,x)::l,(j,v)::l'=>i=j/\VR w X x v/\PRs w X l l'
 |_,_=>False
theorem bDq{w:World}{X:bH}{place:Nat->Option (Nat×Nat)}:∀{l:List (Nat×AV)} {l':List (Nat×Value)} {ds ds':List D} {cs:Array Value},
  DRs w X ds cs.toList->PRs w X l l'->aBg place ds l=some ds'->∃cs',Instr.fill place cs l'=some cs'/\DRs w X ds' cs'.toList
 | [],[],ds,ds',cs,h,_,hf=>by
  simp only[aBg,Option.some.injEq] at hf;subst hf;exact⟨cs,rfl,h⟩
 | (i,x)::l,(j,v)::l',ds,ds',cs,h,hp,hf=>by
  obtain⟨rfl,hv,hp'⟩:=hp;simp only[aBg] at hf;split at hf
  ·rename_i off size es hpl hcell
   split at hf
   ·rename_i hcond
    obtain⟨h1,h2⟩:=hcond;have hes:=hv.cells hcell;have hle:=hes.length;have hlc:=h.length;simp only[Array.length_toList] at hle hlc;have hfold:=aPb v.cells.toList off 0 cs (by simp;omega);simp only[Nat.add_zero] at hfold;have harr:v.cells.zipIdx.foldl (λcs (c,j)=>cs.setIfInBounds (off+j) c) cs=(cs.toList.take off++v.cells.toList++cs.toList.drop (off+v.cells.toList.length)).toArray:=by
     apply Array.ext';rw[<-hfold,<-Array.foldl_toList]
     simp
    have hd':DRs w X (gD ds off es) (cs.toList.take off++v.cells.toList++cs.toList.drop (off+v.cells.toList.length)):=by
     unfold gD;rw[show v.cells.toList.length=es.length by simp;omega];exact((h.take off).append hes).append (h.drop _)
    obtain⟨cs',hc1,hc2⟩:=bDq (l:=l) (l':=l') (cs:=(cs.toList.take off++v.cells.toList++cs.toList.drop (off+v.cells.toList.length)).toArray) (by simpa using hd') hp' hf;refine⟨cs',?_,hc2⟩;simp only[Instr.fill,hpl,harr];rw[if_neg (by simp;omega)];exact hc1
   ·cases hf
  ·cases hf
section
variable{P:Program}{n d:Nat}{st:St}{o:Oper}
def St.parts(st:St):List (Nat×Operand)->List (Nat×AV)
 |[]=>[]
 |(i,x)::l=>(i,st.eval x)::St.parts st l
def yU:List (Nat×Operand)->Bool
 |[]=>true
 |(_,x)::l=>cT x&&yU l
theorem aEh{A M:bH}{w0:W0}{a:Act}{w:World}(hR:R A M w0 n st a w):∀{l:List (Nat×Operand)},yU l=true->
  PRs w (bF A st.objs) (st.parts l) (l.map λ(i,x)=>(i,a.eval x))
 |[],_=>trivial
 | (i,x)::l,h=>by
  simp only[yU,Bool.and_eq_true] at h;exact⟨rfl,hR.eval' h.1,aEh hR h.2⟩
def qW(P:Program)(t:TypeId)(z:Value)(pl:List (Nat×Nat)):Prop:=
 (∀w,(zeroValue t).run P w=.ok z w)/\∃fs,(∀w,(underlying t).run P w=.ok (.struct fs) w)/\
  (∀w,(fs.mapM λf=>(do pure (f.offset,<-sizeOf f.type):Sem (Nat×Nat))).run P w=.ok pl.toArray w)
theorem jT{t:TypeId}{z:Value}{pl:List (Nat×Nat)}{l:List (Nat×Operand)}{zs es:List D}{ty:TypeId}{pos:String}{af:Array Edge}{gd:Option (Nat×Bool)}(hd:d<n)
  (ht:qW P t z pl)(hzs:z.cells=(zs.map bA).toArray)(hok:zOK zs=true)(hp:yU l=true){ps:List (Nat×AV)}(hps:st.parts l=ps)(he:aBg (λi=>pl[i]?) zs ps=some es):
  bB P n ⟨some d,.build t l.toArray,ty,pos,af,gd⟩ st (st.set d (.agg es)):=
 cO rfl hd λA M w0 a w hR=>by
  replace hps:=hps.symm;subst hps
  obtain⟨hz,fs,hu,hm⟩:=ht;obtain⟨cs',h1,h2⟩:=bDq (place:=λi=>pl[i]?) (cs:=(zs.map bA).toArray) (by simpa using aDj (w:=w) (X:=bF A st.objs) hok) (aEh hR hp) he;refine⟨.agg cs',?_,.agg h2⟩;have h1':Instr.fill (λx=>pl.toArray[x]?) (zs.map bA).toArray (l.map λ(i,x)=>(i,a.eval x))=some cs':=by
   rw[<-h1];congr 1;funext i;simp
  simp only[execOp,Instr.build,Sem.run_bind,hz,Result.andThen_ok,hu,hm,hzs,List.map_toArray];rw[h1']
  simp
def rJ:Nat->List (Nat×AV)->Option (List (List D))
 |_,[]=>some []
 | k,(i,x)::l=>match x.cells,rJ (k+1) l with
  |some ds,some rows=>if i=k then some (ds::rows) else none
  |_,_=>none
theorem bAa{w:World}{X:bH}{size len:Nat}:∀{l:List (Nat×AV)} {l':List (Nat×Value)} {k:Nat} {rows:List (List D)} {cs:Array Value} {pre:List Value},PRs w X l l'->rJ k l=some rows->(∀r∈rows,r.length=size)->
  cs.toList.take (k*size)=pre->cs.size=len*size->k+rows.length=len->
  ∃vs,Instr.fill (λi=>some (i*size,size)) cs l'=some (pre++vs).toArray/\DRs w X rows.flatten vs
 | [],[],k,rows,cs,pre,_,hr,hs,hpre,hc,hl=>by
  simp only[rJ,Option.some.injEq] at hr;subst hr;refine⟨[],?_,trivial⟩;simp only[List.length_nil,Nat.add_zero] at hl;subst hl;rw[List.take_of_length_le (by simp[hc])] at hpre;subst hpre
  simp[Instr.fill]
 | (i, x)::l,(j,v)::l',k,rows,cs,pre,hp,hr,hs,hpre,hc,hl=>by
  obtain⟨rfl,hv,hp'⟩:=hp;simp only[rJ] at hr;split at hr
  ·rename_i ds rows' hcell hrows'
   split at hr
   ·rename_i hik
    subst hik;cases hr;have hes:=hv.cells hcell;have hle:=hes.length;have hds:ds.length=size:=hs ds (by simp);simp only[Array.length_toList] at hle;simp only[List.length_cons] at hl;have hsum:i*size+size<=cs.size:=by rw[hc,<-hl,<-Nat.succ_mul];exact Nat.mul_le_mul_right _ (by omega)
    have hfold:=aPb v.cells.toList (i*size) 0 cs (by simp;omega);simp only[Nat.add_zero] at hfold;have harr:v.cells.zipIdx.foldl (λcs (c,j)=>cs.setIfInBounds (i*size+j) c) cs=(cs.toList.take (i*size)++v.cells.toList++cs.toList.drop (i*size+v.cells.toList.length)).toArray:=by
     apply Array.ext';rw[<-hfold,<-Array.foldl_toList]
     simp
    have hvl:v.cells.toList.length=size:=by simp;omega
    obtain⟨vs,h1,h2⟩:=bAa (l:=l) (l':=l') (k:=i+1) (len:=len) (size:=size) (cs:=(cs.toList.take (i*size)++v.cells.toList++cs.toList.drop (i*size+v.cells.toList.length)).toArray) (pre:=pre++v.cells.toList) hp' hrows'
     (λr h=>hs r (List.mem_cons_of_mem _ h)) (by
      rw[<-hpre,Nat.succ_mul,List.toList_toArray];rw[List.take_append_of_le_length (by simp;omega),List.take_of_length_le (by simp;omega)])
     (by simp only[List.size_toArray,List.length_append,List.length_take,List.length_drop,hvl,Array.length_toList];omega) (by omega)
    refine⟨v.cells.toList++vs,?_,by simpa using hes.append h2⟩;simp only[Instr.fill,harr];rw[if_neg (by simp;omega),<-List.append_assoc];exact h1
   ·cases hr
  ·cases hr
theorem aDb{t e k:Nat}(ht:gU P t e k){z:Value}(hz:∀w,(zeroValue e).run P w=.ok z w)(hzc:z.cells.size=k){w:World}{X:bH}{len:Nat}{l:List (Nat×AV)}{l':List (Nat×Value)}{rows:List (List D)}
  (hp:PRs w X l l')(hr:rJ 0 l=some rows)(hk:∀r∈rows,r.length=k)(hl:rows.length=len)(hb:len*k<=16777216):
  ∃vs,(Instr.buildSlice t len l'.toArray).run P w=.ok (.slice (some ⟨w.heap.size,0,none⟩) len len) (w.alloc (.cells vs.toArray e))/\DRs w X rows.flatten vs:=by
 have key:∀cs:Array Value,cs.size=len*k->
   ∃vs,Instr.fill (λi=>some (i*k,k)) cs l'=some vs.toArray/\DRs w X rows.flatten vs:=by
  intro cs hcs;obtain⟨vs,h1,h2⟩:=bAa (l:=l) (l':=l') (k:=0) (len:=len) (size:=k) (cs:=cs) (pre:=[]) hp hr hk (by simp) hcs (by omega);exact⟨vs,by simpa using h1,h2⟩
 by_cases h0:len*k=0
 ·obtain⟨vs,h1,h2⟩:=key ((Array.range (len*k)).map ((#[]:Array Value)[·%(#[]:Array Value).size]!)) (by simp);refine⟨vs,?_,h2⟩;simp only[Instr.buildSlice,Sem.run_bind,ht.1,ht.2,Result.andThen_ok,h0,if_true];rw[h0,Array.range_zero',Array.map_empty] at h1
  simp[newRow,Array.range_zero',h1]
 ·obtain⟨vs,h1,h2⟩:=key ((Array.range (len*k)).map (z.cells[·% z.cells.size]!)) (by simp);refine⟨vs,?_,h2⟩;simp only[Instr.buildSlice,Sem.run_bind,ht.1,ht.2,Result.andThen_ok,h0,if_false,show¬2^24<len*k by omega,gt_iff_lt,hz,Sem.run_pure,h1]
  simp[newRow]
end
end Go.Am
end
