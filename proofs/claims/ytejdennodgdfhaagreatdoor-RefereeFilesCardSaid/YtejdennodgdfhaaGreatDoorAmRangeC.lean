/- Several texts, one behind the other. -/
import Derived.Test.YtejdennodgdfhaaGreatDoorAmSortF0
import Derived.Test.YtejdennodgdfhaaGreatDoorAmClo
import Derived.Shelf.SlSortCmp.NoneTotal
import Derived.Test.YtejdennodgdfhaaGreatDoorAmRange
section
namespace Go.Am
open Go.Sort Go.Proofs
theorem aVy{w w':World}(h: @Keeps aGu (dR []) w w'):∃q os,w'=grow (w.drewN q) os:=by
 letI:=aGu
 refine⟨w'.drawn-w.drawn,w'.heap.extract w.heap.size w'.heap.size,?_⟩;have hd:=h.drawn trivial;have hs:=h.size;have hh:w.heap++w'.heap.extract w.heap.size w'.heap.size=w'.heap:=by
  apply Array.ext_getElem?;intro i
  by_cases hi:i<w.heap.size
  ·rw[Array.getElem?_append_left hi];exact(h.block i hi λo ⟨m,hm,_⟩=>by simp at hm).symm
  ·rw[Array.getElem?_append_right (by omega),Array.getElem?_extract]
   by_cases hi2:i<w'.heap.size
   ·rw[if_pos (by omega),show w.heap.size+(i-w.heap.size)=i by omega]
   ·rw[if_neg (by omega),Array.getElem?_eq_none (by omega)]
 have hq:w.drawn+(w'.drawn-w.drawn)=w'.drawn:=by omega
 unfold grow World.drewN;simp only[hh,hq];rw[<-h.tape,<-h.os,<-h.output]
theorem aNq{γ:Type}[Inhabited γ](E:γ->Value){w:World}{X:bE}{g m:Nat}{F:Array γ}{os:Array Obj}(hg:∀o,X g o):Mono w X (grow (putRow E (Sort.ahead w m) g 0 F) os) X:=by
 have hne:∀b,b≠g->b<w.heap.size->(grow (putRow E (Sort.ahead w m) g 0 F) os).heap[b]?=w.heap[b]?:=λb hb hlt=>by
  rw[heap_grow_old _ _ (by simpa using hlt)]
  simp[putRow,mapBlock,Sort.ahead,Array.getElem?_modify,Ne.symm hb]
 refine⟨λb o v hc hx=>⟨?_,hx⟩,λr ms c hr hx=>⟨?_,hx⟩,λr c e f hr hx=>⟨?_,hx⟩⟩
 ·have hb:b≠g:=λe=>hx (e▸hg o);have hlt:b<w.heap.size:=by
   refine Nat.lt_of_not_le λhle=>?_
   simp[World.cell?,Array.getElem?_eq_none hle] at hc
  simp only[World.cell?,hne b hb hlt];exact hc
 ·have hb:r≠g:=λe=>hx 0 (e▸hg 0);rw[hne r hb (Array.getElem?_eq_some_iff.1 hr).1];exact hr
 ·have hb:r≠g:=λe=>hx 0 (e▸hg 0);rw[hne r hb (Array.getElem?_eq_some_iff.1 hr).1];exact hr
theorem aNw{γ:Type}[Inhabited γ](E:γ->Value)(w:World)(g m:Nat)(F:Array γ)(os:Array Obj):w.heap.size<=(grow (putRow E (Sort.ahead w m) g 0 F) os).heap.size:=by
 show _<=((putRow E (Sort.ahead w m) g 0 F).heap++os).size;rw[Array.size_append,Proofs.size_putRow];exact Nat.le_add_right _ _
theorem bNy{P:Program}{f:FuncId}{args caps:List AV}{r:Int}(h:FnS P f (args++caps) (.d (.lit (.int .i64 r)))){w W:World}{avs cbs:List Value}{X:bE}(hX:VRs w X caps cbs)(hm:Mono w X W X)(hs:∀b o,X b o->b<W.heap.size)(hamb:Amb w X)(ha:VRs W X args avs):
  Calls P f (avs++cbs).toArray W λe w'=>e=.returned (.int .i64 r)/\∃q os,w'=grow (W.drewN q) os:=by
 letI:=aGu
 have hz:Mono W X W (aV X []):=Mono.sub λb o h=>h.elim id λ⟨m,hm,_⟩=>by simp at hm
 refine(h X W (avs++cbs) ⟨by simp[Sep],by simp,by simp,(hamb.on hm).on hz⟩ hs ((ha.mono hz).append (hX.mono (hm.trans hz)))).mono ?_;rintro e w' ⟨v,r',objs',rfl,hk,_,hv,_,rfl,_⟩;have hv':=hv.lit;subst hv';exact⟨rfl,aVy hk⟩
theorem bJp[Mode]{P:Program}{N f:FuncId}{caps:List AV}{cmp:Int->Int->Option Int}
  (kit:∀{β:Type} [Inhabited β] (enc:β->Value),OneCell enc->∀(cf:β->β->Int),SWO (ltOf cf)->∀(g:Nat) (cb:Array Value) (blk off cap:Nat) (d:Array β) (w:World),(∀args w,(callFunc g args).run P w=.ok (.enter g args) w)->CmpLays1 P g cb enc cf blk off d.size w->Holds enc w blk off d->blk<w.heap.size->d.size<4611686018427387904->
   (∀x y,(ltOf cf) x y=false->(ltOf cf) y x=false->x=y)->Calls P N #[.slice (some ⟨blk,off,none⟩) d.size cap,.func (.func g) #[] cb] w λe w'=>e=.returned (.tuple #[])/\∃n os,w'=sortWorld enc w blk off n (d.toList.mergeSort λx y=>!(ltOf cf) y x).toArray os)
  (kit0:∀(p:Option Addr) (cap:Nat) (fv:Value) (w:World),Calls P N #[.slice p 0 cap,fv] w λe w'=>e=.returned (.tuple #[])/\w'=w)
  (he:∀args w,(callFunc f args).run P w=.ok (.enter f args) w)(hc:∀x y r,cmp x y=some r->FnS P f ([.d (.lit (.int .i64 x)),.d (.lit (.int .i64 y))]++caps) (.d (.lit (.int .i64 r))))
  {v:Value}{e:TypeId}{zs r:List Int}(h:zT zs cmp=some r):
  bI P N [.d (.lit v),.fn f caps] [.arr v e 1 (zs.map aE)] (λr' o=>r'=.tup []/\o=[.arr v e 1 (r.map aE)]):=by
 unfold zT at h;split at h
 case isFalse=>cases h
 rename_i hh
 obtain⟨hok,hl⟩:=hh;cases h;intro A w vs hI hA hv;obtain⟨u1,u2,hvs⟩:∃u1 u2,vs=[u1,u2]:=by
  match vs,hv with
  |[u1,u2],_=>exact⟨u1,u2,rfl⟩
 subst hvs;obtain⟨hv1,hv2,_⟩:=hv;have e1:=hv1.lit;subst e1;obtain⟨xs,hd,hown,hr⟩:=hI.holds _ (List.mem_singleton.2 rfl);have hx:=bAy hd;subst hx;rw[List.length_map] at hown;have hvr:∀w' X,VR w' X (.tup []) (.tuple #[]):=λw' X=>.tup (us:=[]) rfl λi hi=>by simp at hi
 cases hv2 with
 | fn hlc hcap=>
  rename_i us
  rcases hown.2 with⟨hn,hz⟩|⟨g,cap,cur,rfl,hb,hg,h2,h3,h4,h5⟩
  ·subst hn;have hz0:zs=[]:=List.length_eq_zero_iff.1 hz;subst hz0;refine(kit0 none 0 _ w).mono ?_;rintro e' w' ⟨rfl,rfl⟩;exact⟨_,.tup [],_,rfl,Keeps.refl _ _,hI,hvr _ _,λm hm b o hf=>.inl ⟨m,hm,hf⟩,rfl,by simp[eO]⟩
  ·rw [Nat.mul_one] at h5;have hcaps:VRs w (aV A [.arr (.slice (some ⟨g,0,none⟩) zs.length cap) e 1 (zs.map aE)]) caps us:=qR hlc hcap;have hgX:∀o,aV A [.arr (.slice (some ⟨g,0,none⟩) zs.length cap) e 1 (zs.map aE)] g o:=λo=>.inr ⟨_,List.mem_singleton.2 rfl,rfl⟩;have hgs:g<w.heap.size:=(Array.getElem?_eq_some_iff.1 hg).1;have hXs:∀b o,aV A [.arr (.slice (some ⟨g,0,none⟩) zs.length cap) e 1 (zs.map aE)] b o->b<w.heap.size:=λb o hx=>by
    rcases hx with hx|⟨m,hm,hf⟩
    ·exact hA b o hx
    ·cases List.mem_singleton.1 hm;have:some g=some b:=hf;cases this;exact hgs
   have hsl:(eO cmp zs).length=zs.length:=by simp[eO]
   by_cases hne:zs=[]
   ·subst hne;refine(kit0 _ cap _ w).mono ?_;rintro e' w' ⟨rfl,rfl⟩;exact⟨_,.tup [],_,rfl,Keeps.refl _ _,hI,hvr _ _,λm hm b o hf=>.inl ⟨m,hm,hf⟩,rfl,by simp[eO]⟩
   ·obtain⟨z0,hz0⟩:=List.exists_mem_of_ne_nil zs hne
    haveI:Inhabited {x // x∈zs}:=⟨⟨z0,hz0⟩⟩
    have hat:zs.attach.toArray.size=zs.length:=by simp
    have hH:Holds (λx:{x // x∈zs}=>Value.int .i64 x.1) w g 0 zs.attach.toArray:=by
     intro j hj;have hj':j<zs.length:=by simpa using hj
     have:=holds_of_blockI hg (by simpa using h5) j (by simpa using hj');refine⟨?_,this.2⟩;rw[this.1]
     simp[hj']
    have hk:=kit (β:={x // x∈zs}) (λx=>Value.int .i64 x.1) (λ_=>rfl) (cfS zs cmp) (aXm hok) f us.toArray g 0 cap zs.attach.toArray w he (λm os dk hs x y=>?_) hH hgs (by simpa using hl) (bGn hok)
    ·rw [hat] at hk;refine hk.mono ?_;rintro e' w' ⟨rfl,n,os,rfl⟩;have hd':sortWorld (λx:{x // x∈zs}=>Value.int .i64 x.1) w g 0 n (zs.attach.toArray.toList.mergeSort λx y=>!(ltOf (cfS zs cmp)) y x).toArray os=grow (putRow (Value.int .i64) (Sort.ahead w n) g 0 (eO cmp zs).toArray) os:=by
      unfold sortWorld
      congr 1
      unfold putRow
      congr 1
      funext c
      unfold putCells;have hsize:(zs.attach.toArray.toList.mergeSort λx y=>!(ltOf (cfS zs cmp)) y x).toArray.size=(eO cmp zs).toArray.size:=by simp[eO]
      refine congrArg (λh=>Array.mapIdx h c) ?_
      funext k x
      rw[hsize]
      split
      ·rename_i hkk
       have h1:k-0<(eO cmp zs).length:=by simpa using hkk
       have h2:k-0<(zs.attach.toArray.toList.mergeSort λx y=>!(ltOf (cfS zs cmp)) y x).length:=by simpa[eO] using h1
       have:=congrArg (λl=>l[k-0]?) (aFy hok);simp only[List.getElem?_map,List.getElem?_eq_getElem h1] at this;rw[List.getElem?_eq_getElem (by simpa using h2)] at this;simp only[Option.map_some,Option.some.injEq] at this;rw[getElem!_pos _ _ (by simpa using h2),getElem!_pos _ _ (by simpa using h1)];simp only[List.getElem_toArray];rw[<-this]
      ·rfl
     rw[hd'];have hgb:=grownBy_sortedI (w:=w) (g:=g) (n:=n) (os:=os) (eO cmp zs).toArray;have hk':=aNn (v:=.slice (some ⟨g,0,none⟩) zs.length cap) hgb (Nat.le_add_right _ _);refine⟨_,.tup [],[.arr (.slice (some ⟨g,0,none⟩) zs.length cap) e 1 ((eO cmp zs).map aE)],rfl,hk'.mono λb o h=>⟨_,List.mem_singleton.2 rfl,h⟩,⟨?_,λm hm b o hf=>?_,λm hm=>?_,hI.amb.on (gK hk' (λb o h=>.inr ⟨_,List.mem_singleton.2 rfl,h⟩) λb o _ h=>h.imp id λ⟨m,hm,hf⟩=>by cases List.mem_singleton.1 hm;exact⟨_,List.mem_singleton.2 rfl,hf⟩)⟩,hvr _ _,λm hm b o hf=>?_,rfl,rfl⟩
     ·exact List.pairwise_singleton _ _
     ·cases List.mem_singleton.1 hm;exact hI.apart _ (List.mem_singleton.2 rfl) b o hf
     ·cases List.mem_singleton.1 hm;refine⟨_,aXw (eO cmp zs),?_,λr hr'=>?_⟩
      ·have:=ownsRow_sortedI (base:=0) (n:=n) (os:=os) (ss:=zs) (ts:=eO cmp zs) hsl hb hg h2 h3 h4;rw[List.length_map,hsl];exact this
      ·obtain⟨x,_,rfl⟩:=List.mem_map.1 hr'
       rfl
     ·cases List.mem_singleton.1 hm;exact .inl ⟨_,List.mem_singleton.2 rfl,hf⟩
    ·obtain⟨q,hq⟩:=(yU hok).2.1 x.1 x.2 y.1 y.2;have hcq:cfS zs cmp x y=q:=by unfold cfS;rw[hq];rfl
     rw[hcq];have:=bNy (hc x.1 y.1 q hq) hcaps (W:=sortWorld (λx:{x // x∈zs}=>Value.int .i64 x.1) w g 0 m dk os) (aNq _ hgX) (λb o hb=>Nat.lt_of_lt_of_le (hXs b o hb) (aNw _ _ _ _ _ _)) hI.amb (avs:=[.int .i64 x.1,.int .i64 y.1]) ⟨.of_lit rfl,.of_lit rfl,trivial⟩
     simpa using this
theorem aQo{w:World}{g:Nat}{cur:Array Value}{e:TypeId}{ss:List Value}(hb:w.heap[g]?=some (.cells cur e (0,0)))(ht:cur.toList.take ss.length=ss):Holds id w g 0 ss.toArray:=by
 intro j hj;have hj':j<ss.length:=by simpa using hj
 refine⟨?_,by simp[World.frozen?,hb]⟩;have h1:(cur.toList.take ss.length)[j]?=ss[j]?:=by rw[ht]
 rw[List.getElem?_take_of_lt hj'] at h1;simp only[World.cell?,hb,Nat.zero_add];simp only[Option.isSome_none,Bool.false_eq_true,if_false];rw[<-Array.getElem?_toList,h1]
 simp[hj']
theorem aYm{w:World}{g n:Nat}{os:Array Obj}{cur:Array Value}{e:TypeId}{fr:Nat×Nat}(d:Array Value)(hb:w.heap[g]?=some (.cells cur e fr)):
  (grow (putRow id (Sort.ahead w n) g 0 d) os).heap[g]?=some (.cells (putCells id 0 d cur) e fr):=by
 have hg:g<w.heap.size:=(Array.getElem?_eq_some_iff.1 hb).1;rw[heap_grow_old _ _ (by simpa using hg)]
 simp[putRow,mapBlock,Sort.ahead,Array.getElem?_modify,hb,onCells]
theorem aQk{w:World}{g n:Nat}{os:Array Obj}(d:Array Value):w.grownBy (grow (putRow id (Sort.ahead w n) g 0 d) os) (some g):=by
 refine⟨rfl,rfl,rfl,by simp,λk hk hne=>?_⟩;rw[heap_grow_old _ _ (by simpa using hk)];have:g≠k:=λe=>hne (by rw[e])
 simp[putRow,mapBlock,Sort.ahead,Array.getElem?_modify,this]
theorem aTr(cur:Array Value)(ts:List Value)(h:ts.length<=cur.size):(putCells id 0 ts.toArray cur).toList.take ts.length=ts:=by
 apply List.ext_getElem?;intro j
 by_cases hj:j<ts.length
 ·rw[List.getElem?_take_of_lt hj,Array.getElem?_toList]
  simp[putCells,hj,show j<cur.size by omega]
 ·rw[List.getElem?_take_eq_none (by omega),List.getElem?_eq_none (by omega)]
theorem aKl{k:Nat}:∀{rows:List (List Value)},(∀r∈rows,r.length=k)->rows.flatten.length=rows.length*k
 |[],_=>by simp
 | r::rows,h=>by
  rw[List.flatten_cons,List.length_append,h r (by simp),aKl λr hr=>h r (by simp[hr]),List.length_cons,Nat.succ_mul,Nat.add_comm]
theorem aUm{k:Nat}:∀{rows:List (List Value)} {i:Nat} {ds:List Value},(∀r∈rows,r.length=k)->rows[i]?=some ds->∀{j:Nat},j<k->rows.flatten[i*k+j]?=ds[j]?
 |[],i,ds,_,h,j,_=>by simp at h
 | r::rows,0,ds,hk,h,j,hj=>by
  simp at h;subst h
  simp only[List.flatten_cons,Nat.zero_mul,Nat.zero_add];rw[List.getElem?_append_left (by rw[hk r (by simp)];exact hj)]
 | r::rows,i+1,ds,hk,h,j,hj=>by
  rw[List.flatten_cons,List.getElem?_append_right (by rw[hk r (by simp),Nat.succ_mul];omega),hk r (by simp),show(i+1)*k+j-k=i*k+j by rw[Nat.succ_mul];omega];exact aUm (λr hr=>hk r (by simp[hr])) (by simpa using h) hj
theorem bKo{α:Type}[Inhabited α]{enc:α->List Value}{k:Nat}(hk:∀x,(enc x).length=k)(d:Array α):flatK enc k d=((d.toList.map enc).flatten).toArray:=by
 have hr:∀r∈d.toList.map enc,r.length=k:=λr hr=>by
  obtain⟨x,_,rfl⟩:=List.mem_map.1 hr;exact hk x
 have hlen:((d.toList.map enc).flatten).length=d.size*k:=by
  rw[aKl hr,List.length_map,Array.length_toList]
 refine ext_get! (by simp[hlen]) λt ht=>?_;have ht':t<d.size*k:=by simpa using ht
 have k0:0<k:=by
  rcases Nat.eq_zero_or_pos k with h|h
  ·subst h;simp at ht'
  ·exact h
 have hq:t/k<d.size:=Nat.div_lt_of_lt_mul (by rwa[Nat.mul_comm]);have hm:t % k<k:=Nat.mod_lt _ k0;rw[get_flatK _ _ _ t ht'];have h1:=aUm hr (i:=t/k) (j:=t % k) (ds:=enc d[t/k]) (by simp[hq]) hm;rw[show t/k*k+t % k=t from Nat.div_add_mod' t k] at h1;rw[getElem!_pos d _ hq];have h2:t % k<(enc d[t/k]).length:=by rw[hk];exact hm
 rw[getElem!_pos (enc d[t/k]) (t % k) h2,getElem!_pos (((d.toList.map enc).flatten).toArray) t (by simpa[hlen] using ht')];have h3:t<((d.toList.map enc).flatten).length:=by rw[hlen];exact ht'
 rw[List.getElem?_eq_getElem h3,List.getElem?_eq_getElem h2] at h1
 simpa using(Option.some.inj h1).symm
theorem aBd:∀rows:List (List D),rows.flatten.map bD=(rows.map λr=>r.map bD).flatten
 |[]=>rfl
 |r::rows=>by simp only[List.flatten_cons,List.map_append,List.map_cons,aBd rows]
theorem aFh{w:World}{X:bE}:∀{ds:List D},dH ds=true->(∀v∈ds.map bD,v.oneCell'=true)->DRs w X ds (ds.map bD)
 |[],_,_=>trivial
 | .lit v::ds,h,h1=>⟨.lit v (h1 v (by simp[bD])),aFh (ds:=ds) h λu hu=>h1 u (by simp only[List.map_cons];exact List.mem_cons_of_mem _ hu)⟩
 | .sl _ _::_,h,_=>by simp[dH] at h
 | .sn _ _::_,h,_=>by simp[dH] at h
 | .mp _ _::_,h,_=>by simp[dH] at h
 | .pt _::_,h,_=>by simp[dH] at h
 | .fc .. ::_,h,_=>by simp[dH] at h
 | .hv .. ::_,h,_=>by simp[dH] at h
section
variable{α:Type}[DecidableEq α]
theorem bQi[Mode]{P:Program}{N f:FuncId}{caps:List AV}{cmp:α->α->Option Int}{enc:α->List D}{k:Nat}(hlit:∀x,dH (enc x)=true)(hk:∀x,(enc x).length=k)(hone:∀x,∀v∈(enc x).map bD,v.oneCell'=true)
  (kit:∀{β:Type} [Inhabited β] (enc:β->List Value),(∀x,(enc x).length=k)->(∀x,∀v∈enc x,v.oneCell'=true)->∀(cf:β->β->Int),SWO (ltOf cf)->∀(g:Nat) (cb:Array Value) (blk off cap:Nat) (d:Array β) (w:World),(∀args w,(callFunc g args).run P w=.ok (.enter g args) w)->CmpLays P g cb enc k cf blk off d.size w->HoldsK enc k w blk off d->blk<w.heap.size->d.size<4611686018427387904->
   (∀x y,(ltOf cf) x y=false->(ltOf cf) y x=false->x=y)->Calls P N #[.slice (some ⟨blk,off,none⟩) d.size cap,.func (.func g) #[] cb] w λe w'=>e=.returned (.tuple #[])/\∃n os,w'=sortWorldK enc k w blk off n (d.toList.mergeSort λx y=>!(ltOf cf) y x).toArray os)
  (kit0:∀(p:Option Addr) (cap:Nat) (fv:Value) (w:World),Calls P N #[.slice p 0 cap,fv] w λe w'=>e=.returned (.tuple #[])/\w'=w)
  (he:∀args w,(callFunc f args).run P w=.ok (.enter f args) w)(hc:∀x y r,cmp x y=some r->FnS P f ([.agg (enc x),.agg (enc y)]++caps) (.d (.lit (.int .i64 r))))
  {v:Value}{e:TypeId}{zs r:List α}(h:zT zs cmp=some r):
  bI P N [.d (.lit v),.fn f caps] [.arr v e k (zs.map enc)] (λr' o=>r'=.tup []/\o=[.arr v e k (r.map enc)]):=by
 unfold zT at h;split at h
 case isFalse=>cases h
 rename_i hh
 obtain⟨hok,hl⟩:=hh;cases h;intro A w vs hI hA hv;obtain⟨u1,u2,hvs⟩:∃u1 u2,vs=[u1,u2]:=by
  match vs,hv with
  |[u1,u2],_=>exact⟨u1,u2,rfl⟩
 subst hvs;obtain⟨hv1,hv2,_⟩:=hv;have e1:=hv1.lit;subst e1;obtain⟨xs,hd,hown,hr⟩:=hI.holds _ (List.mem_singleton.2 rfl);have hx:=aDa (aEi hlit zs) hd;rw[aBd,List.map_map] at hx;subst hx;rw[List.length_map] at hown;have hvr:∀w' X,VR w' X (.tup []) (.tuple #[]):=λw' X=>.tup (us:=[]) rfl λi hi=>by simp at hi
 cases hv2 with
 | fn hlc hcap=>
  rename_i us
  rcases hown.2 with⟨hn,hz⟩|⟨g,cap,cur,rfl,hb,hg,h2,h3,h4,h5⟩
  ·subst hn;have hz0:zs=[]:=List.length_eq_zero_iff.1 hz;subst hz0;refine(kit0 none 0 _ w).mono ?_;rintro e' w' ⟨rfl,rfl⟩;exact⟨_,.tup [],_,rfl,Keeps.refl _ _,hI,hvr _ _,λm hm b o hf=>.inl ⟨m,hm,hf⟩,rfl,by simp[eO]⟩
  ·have hcaps:VRs w (aV A [.arr (.slice (some ⟨g,0,none⟩) zs.length cap) e k (zs.map enc)]) caps us:=qR hlc hcap;have hgX:∀o,aV A [.arr (.slice (some ⟨g,0,none⟩) zs.length cap) e k (zs.map enc)] g o:=λo=>.inr ⟨_,List.mem_singleton.2 rfl,rfl⟩;have hgs:g<w.heap.size:=(Array.getElem?_eq_some_iff.1 hg).1;have hXs:∀b o,aV A [.arr (.slice (some ⟨g,0,none⟩) zs.length cap) e k (zs.map enc)] b o->b<w.heap.size:=λb o hx=>by
    rcases hx with hx|⟨m,hm,hf⟩
    ·exact hA b o hx
    ·cases List.mem_singleton.1 hm;have:some g=some b:=hf;cases this;exact hgs
   have hsl:(eO cmp zs).length=zs.length:=by simp[eO]
   have hkr:∀l:List α,((l.map ((λr=>r.map bD)∘enc)).flatten).length=l.length*k:=λl=>by
    rw[aKl (k:=k) λr hr=>by obtain⟨x,_,rfl⟩:=List.mem_map.1 hr;simp[hk x],List.length_map]
   by_cases hne:zs=[]
   ·subst hne;refine(kit0 _ cap _ w).mono ?_;rintro e' w' ⟨rfl,rfl⟩;exact⟨_,.tup [],_,rfl,Keeps.refl _ _,hI,hvr _ _,λm hm b o hf=>.inl ⟨m,hm,hf⟩,rfl,by simp[eO]⟩
   ·obtain⟨z0,hz0⟩:=List.exists_mem_of_ne_nil zs hne
    haveI:Inhabited {x // x∈zs}:=⟨⟨z0,hz0⟩⟩
    have hat:zs.attach.toArray.size=zs.length:=by simp
    have hkE:∀x:{x // x∈zs},((enc x.1).map bD).length=k:=λx=>by simp[hk]
    have hfl:∀l:List {x // x∈zs},flatK (λx:{x // x∈zs}=>(enc x.1).map bD) k l.toArray=((l.map Subtype.val).map ((λr=>r.map bD)∘enc)).flatten.toArray:=λl=>by
     rw[bKo hkE]
     simp[List.map_map,Function.comp_def]
    have hH:HoldsK (λx:{x // x∈zs}=>(enc x.1).map bD) k w g 0 zs.attach.toArray:=by
     unfold HoldsK;rw[hfl,List.attach_map_subtype_val];exact aQo hg (by rw[hkr];exact h5)
    have hkit:=kit (β:={x // x∈zs}) (λx=>(enc x.1).map bD) hkE (λx=>hone x.1) (cfS zs cmp) (aXm hok) f us.toArray g 0 cap zs.attach.toArray w he (λm os dk hs x y=>?_) hH hgs (by simpa using hl) (bGn hok)
    ·rw [hat] at hkit;refine hkit.mono ?_;rintro e' w' ⟨rfl,n,os,rfl⟩;have hd':sortWorldK (λx:{x // x∈zs}=>(enc x.1).map bD) k w g 0 n (zs.attach.toArray.toList.mergeSort λx y=>!(ltOf (cfS zs cmp)) y x).toArray os=grow (putRow id (Sort.ahead w n) g 0 (((eO cmp zs).map ((λr=>r.map bD)∘enc)).flatten).toArray) os:=by
      unfold sortWorldK putRowK;rw[hfl,<-aFy hok]
     rw[hd'];have hgb:=aQk (w:=w) (g:=g) (n:=n) (os:=os) (((eO cmp zs).map ((λr=>r.map bD)∘enc)).flatten).toArray;have hk':=aNn (v:=.slice (some ⟨g,0,none⟩) zs.length cap) hgb (Nat.le_add_right _ _);refine⟨_,.tup [],[.arr (.slice (some ⟨g,0,none⟩) zs.length cap) e k ((eO cmp zs).map enc)],rfl,hk'.mono λb o h=>⟨_,List.mem_singleton.2 rfl,h⟩,⟨?_,λm hm b o hf=>?_,λm hm=>?_,hI.amb.on (gK hk' (λb o h=>.inr ⟨_,List.mem_singleton.2 rfl,h⟩) λb o _ h=>h.imp id λ⟨m,hm,hf⟩=>by cases List.mem_singleton.1 hm;exact⟨_,List.mem_singleton.2 rfl,hf⟩)⟩,hvr _ _,λm hm b o hf=>?_,rfl,rfl⟩
     ·exact List.pairwise_singleton _ _
     ·cases List.mem_singleton.1 hm;exact hI.apart _ (List.mem_singleton.2 rfl) b o hf
     ·cases List.mem_singleton.1 hm;have hz:(((eO cmp zs).map enc).flatten).map bD=((eO cmp zs).map ((λr=>r.map bD)∘enc)).flatten:=by rw[aBd,List.map_map]
      have hlen2:=hkr (eO cmp zs);rw[hsl] at hlen2;have hle:zs.length*k<=cur.size:=by rw[h4];exact Nat.mul_le_mul_right k h2
      refine⟨_,aFh (aEi hlit _) (λu hu=>by
       rw[hz] at hu;obtain⟨r,hr,hu⟩:=List.mem_flatten.1 hu;obtain⟨x,_,rfl⟩:=List.mem_map.1 hr;exact hone x u hu),?_,λr hr'=>?_⟩
      ·rw[List.length_map,hsl,hz];refine⟨hlen2,.inr ⟨g,cap,_,rfl,hb,aYm _ hg,h2,h3,by simp[putCells,h4],?_⟩⟩;have:=aTr cur _ (by rw[hlen2];exact hle)
       rwa[hlen2] at this
      ·obtain⟨x,_,rfl⟩:=List.mem_map.1 hr';exact hk x
     ·cases List.mem_singleton.1 hm;exact .inl ⟨_,List.mem_singleton.2 rfl,hf⟩
    ·obtain⟨q,hq⟩:=(yU hok).2.1 x.1 x.2 y.1 y.2;have hcq:cfS zs cmp x y=q:=by unfold cfS;rw[hq];rfl
     rw[hcq];have hagg:∀(W:World) (X:bE) (x:α),VR W X (.agg (enc x)) (.agg ((enc x).map bD).toArray):=λW X x=>.agg (aFh (hlit x) (hone x));have hmono:Mono w (aV A [.arr (.slice (some ⟨g,0,none⟩) zs.length cap) e k (zs.map enc)]) (sortWorldK (λx:{x // x∈zs}=>(enc x.1).map bD) k w g 0 m dk os) (aV A [.arr (.slice (some ⟨g,0,none⟩) zs.length cap) e k (zs.map enc)]):=aNq id hgX;have hsz:w.heap.size<=(sortWorldK (λx:{x // x∈zs}=>(enc x.1).map bD) k w g 0 m dk os).heap.size:=aNw id _ _ _ _ _;have:=bNy (hc x.1 y.1 q hq) hcaps (W:=sortWorldK (λx:{x // x∈zs}=>(enc x.1).map bD) k w g 0 m dk os) hmono (λb o hb=>Nat.lt_of_lt_of_le (hXs b o hb) hsz) hI.amb (avs:=[.agg ((enc x.1).map bD).toArray,.agg ((enc y.1).map bD).toArray]) ⟨hagg _ _ _,hagg _ _ _,trivial⟩
     simpa using this
end
end Go.Am
end
section
namespace Go.Am
def aFz[Mode](P:Program)(l:Nat)(args:List AV)(m:MO)(Q:Bool->MO->Prop):Prop:=
 ∀ (A:bE) (w:World) (vs:List Value),Inv w A [m]->(∀b o,A b o->b<w.heap.size)->VRs w (aV A [m]) args vs->
  YieldAt Fence.wide 0 P l vs.toArray w λe w'=>∃b,e=.returned (.bool b)/\∃m',Keeps (dR [m]) w w'/\Inv w' A [m']/\(∀b o,m'.foot b o->dR [m] b o\/w.heap.size<=b)/\Q b m'
def JK{S0:Type}(J K:S0->MO->Prop)(x:S0×Bool)(m:MO):Prop:=match x.2 with
 |true=>J x.1 m
 |false=>K x.1 m
section
variable{P:Program}{n d:Nat}{st:St}
theorem bMr[Mode]{t l':Nat}{l:List Operand}{args:List AV}{m:MO}{rest:List MO}{Qm:Bool->MO->Prop}{ts:Array TypeId}{ty:TypeId}{pos:String}{af:Array Edge}{gd:Option (Nat×Bool)}(hd:d<n)
  (ho:st.objs=m::rest)(ht:st.env t=.d (.lit (yv l')))(ha:st.evals l=args)(hok:iE l=true)(hy:aFz P l' args m Qm):
  aWh P n ⟨some d,.call {callee:=.value (.tmp t),args:=l.toArray,argTypes:=ts},ty,pos,af,gd⟩ st (λs=>∃b m',Qm b m'/\s=⟨upd st.env d (.d (.lit (.bool b))),m'::rest⟩):=by
 subst ha;intro A M w0 a w hR K Q hK;have hvs:=tG hR hok;have hv:a.eval (.tmp t)=yv l':=by
  have:=hR.env t;rw[ht] at this;exact this.lit
 have hs0:=hR.keeps.size;have hsep:=hR.inv.sep;rw[ho] at hsep;have hsp:=List.pairwise_cons.1 hsep;have hmm:m∈st.objs:=by rw[ho];simp
 have hrr:∀x∈rest,x∈st.objs:=λx hx=>by rw[ho];simp[hx]
 have hlive:∀b o,aV A st.objs b o↔aV (aV A rest) [m] b o:=by
  intro b o;rw[ho,show m::rest=[m]++rest from rfl];exact nN b o
 have hlt:∀b o,aV A rest b o->b<w.heap.size:=by
  rintro b o (h|⟨x,hx,hf⟩)
  ·exact Nat.lt_of_lt_of_le (hR.old b o h) hs0
  ·exact kH (hR.inv.holds x (hrr x hx)) hf
 have hmo:Mono w (aV A st.objs) w (aV (aV A rest) [m]):=Mono.sub λb o h=>(hlive b o).2 h;have hinv0:Inv w (aV A rest) [m]:=by
  refine⟨by simp[Sep],λx hx b o hf hX=>?_,λx hx=>?_,hR.inv.amb.on hmo⟩
  ·simp at hx;subst hx
   rcases hX with hX|⟨m',hm',hf'⟩
   ·exact hR.inv.apart x hmm b o hf hX
   ·exact hsp.1 m' hm' b o hf hf'
  ·simp at hx;subst hx
   exact bV (hR.inv.holds x hmm) (Keeps.refl (λ_ _=>False) w) (λ_ _ _ h=>h) hmo
 obtain⟨fn,tmps,assign,body,hrun,hround⟩:=hy (aV A rest) w _ hinv0 hlt (hvs.mono hmo);refine⟨λ_ _=>trivial,?_⟩;rw[Oper.semAt_eq _ _ _ (by simp)];have he:(execOp a.eval ⟨some d,.call {callee:=.value (.tmp t),args:=l.toArray,argTypes:=ts},ty,pos,af,gd⟩).run P w=.ok (.round l' fn tmps assign body) w:=by
  simp[execOp,resolve,hv,yv,Deferred.ofValue,invoke]
  simpa using hrun
 rw [he,Oper.uponIn_round];refine⟨λh=>(by cases h),?_⟩;refine RoundIn.mono (F:=Fence.wide) hround ?_;rintro e w' ⟨b0,rfl,m',hk,hinv,hnew,hq⟩;refine hK _ _ _ ⟨b0,m',hq,rfl⟩ ?_;have hback:Mono w' (aV (aV A rest) [m']) w' (aV A (m'::rest)):=Mono.sub λb o h=>(nN (l:=[m']) (l':=rest) b o).1 h;have hR2:R A M w0 n ⟨st.env,m'::rest⟩ a w':=by
  refine hR.change hk (λb o ⟨x,hx,hf⟩=>⟨x,by simp at hx;subst hx;exact hmm,hf⟩) (λb o hb hx=>?_) ?_ λhm x hxx=>?_
  ·obtain⟨x,hx,hf⟩:=hx
   rcases List.mem_cons.1 hx with rfl|hx
   ·rcases hnew b o hf with⟨x',hx',hf'⟩|h
    ·simp at hx';subst hx';exact⟨_,hmm,hf'⟩
    ·omega
   ·exact⟨x,hrr x hx,hf⟩
  ·refine List.pairwise_cons.2 ⟨λy hy b o h1 h2=>?_,hsp.2⟩;exact hinv.apart m' (by simp) b o h1 (.inr ⟨y,hy,h2⟩)
  ·rcases List.mem_cons.1 hxx with rfl|h
   ·exact bV (hinv.holds _ (by simp)) (Keeps.refl (λ_ _=>False) w') (λ_ _ _ h=>h) hback
   ·exact bV (hR.inv.holds x (hrr x h)) hk (λb o hf ⟨m',hm',hf'⟩=>by
     simp at hm';subst hm'
     exact hsp.1 x h b o hf' hf) hm
 exact R.put (o:=⟨some d,.call {callee:=.value (.tmp t),args:=l.toArray,argTypes:=ts},ty,pos,af,gd⟩) hR2 rfl hd (.d (.lit _ rfl))
end
section
variable{P:Program}{n:Nat}{st:St}{Q:Exit->St->Prop}{N:St->Prop}
theorem aWg[Mode]{S S0:Type}{t:Nat}{f:FuncId}{caps:List AV}{ps:List Nat}{assign body:Code}{env:Nat->AV}(π:S->S0)(objs:S->List MO)(Y:S0->List AV->S0×Bool->Prop)(s0:S)(x0:S0)(x1:S0×Bool)
  (he:Ent st ⟨env,objs s0⟩)(hg:env t=.fn f caps)(hcf:∀args w,(callFunc f args).run P w=.ok (.enter f args) w)(h0:π s0=x0)
  (hps:∀p∈ps,p<n)(hna:sH assign=true)(hnb:sH body=true)
  (hI:∀(l:Nat) (J K:S0->MO->Prop),(∀x m args x',J x m->Y x args x'->aFz P l args m (λb m'=>b=x'.2/\JK J K x' m'))->∀m0,J x0 m0->bI P f (.d (.lit (yv l))::caps) [m0] (λ_ o=>∃m',JK J K x1 m'/\o=[m']))
  (hbody:∀s args x',Y (π s) args x'->args.length=ps.length/\Tr P n assign ⟨aDw env ps args,objs s⟩ (λe s1=>e=.normal/\Tr P n body s1 (λe s2=>(e=.normal/\x'.2=true\/e=.ret/\x'.2=false)/\∃s',π s'=x'.1/\s2.objs=objs s')))
  (hN:∀s,x1.2=true->π s=x1.1->Q .normal ⟨env,objs s⟩)(hX:∀s,x1.2=false->π s=x1.1->Tr P n .ret ⟨env,objs s⟩ Q):Tr P n (.rangeFunc (.tmp t) ps.toArray assign body) st Q:=by
 intro A M w0 a w hR hn;have hro:w0.ro=none:=hn.resolve_right (by simp[sH])
 replace hR:=he A M w0 n a w hR
 rw[hro];have hbv:VR w (aV A (objs s0)) (.fn f caps) (a.tmps.getD t undef):=by
  have:=hR.env t;exact hg▸this
 generalize hu:a.tmps.getD t undef=u at hbv
 cases hbv with
 |fn hl hb=>
 rename_i us
 have hev:a.eval (.tmp t)=.func (.func f) #[] us.toArray:=hu;refine wpIn_rangeFunc λfn _=>?_;obtain⟨rec,hrec⟩:∃rec:LoopState->Option Code->Loop,rec=λst pe=>{state:=st,pending:=pe,fn,tmps:=a.tmps,params:=ps.toArray,assign,body,defers:=w.heap.size}:=⟨_,rfl⟩;obtain⟨W1,hW1⟩:∃W1,(w.alloc (.deferred (some []))).alloc (.loop (rec .ready none))=W1:=⟨_,rfl⟩;have hL1:W1.heap[w.heap.size+1]?=some (.loop (rec .ready none)):=by
  rw[<-hW1];have:=World.alloc_heap_new (w.alloc (.deferred (some []))) (.loop (rec .ready none));rwa[World.size_alloc] at this
 have hD1:W1.heap[w.heap.size]?=some (.deferred (some [])):=by
  rw[<-hW1];have h1:=World.alloc_heap_new w (.deferred (some []));rw[<-h1];exact Go.heap_alloc_old _ _ (by simp)
 have hk1:Keeps (λ_ _=>False) w W1:=by rw[<-hW1];exact(Keeps.alloc _ w _).trans (Keeps.alloc _ _ _)
 have hs1:W1.heap.size=w.heap.size+2:=by rw[<-hW1];simp
 let l:=w.heap.size+1
 let dd:=w.heap.size
 let oK:Bool->Loop:=λb=>bif b then rec .ready none else rec .done (some .ret)
 let EB:Bool->S->MO:=λb s=>Est env a.tmps (objs s) l dd (oK b)
 let E:S->MO:=λs=>Est env a.tmps (objs s) l dd (rec .ready none)
 have hm1:Mono w (aV A (objs s0)) W1 (aV A [E s0]):=by
  refine gK (objs:=objs s0) (objs':=[E s0]) hk1 (λ_ _ h=>h.elim) λb o hb hx=>?_
  rcases hx with hx|⟨m,hm,hf⟩
  ·exact .inl hx
  ·simp at hm;subst hm
   rcases hf with hf|rfl|rfl
   ·exact .inr hf
   ·show aV A (objs s0) _ o;simp only[l] at hb;omega
   ·show aV A (objs s0) _ o;simp only[dd] at hb;omega
 have hinv1:Inv W1 A [E s0]:=by
  refine⟨by simp[Sep],λm hm b o hf hA=>?_,λm hm=>?_,hR.inv.amb.on hm1⟩
  ·simp at hm;subst hm
   have hlt:=Nat.lt_of_lt_of_le (hR.old b o hA) hR.keeps.size
   rcases hf with⟨m,hm,hf⟩|rfl|rfl
   ·exact hR.inv.apart m hm b o hf hA
   ·simp only[l] at hlt;omega
   ·simp only[dd] at hlt;omega
  ·simp at hm;subst hm
   exact aEf ⟨⟨hR.inv.sep,λb o ⟨m,hm,hf⟩=>by
    have:=kH (hR.inv.holds m hm) hf;simp only[l,dd]
    omega⟩,λk=>(hR.env k).mono hm1,λm hm=>bV (hR.inv.holds m hm) hk1 (λ_ _ _ h=>h) hm1,hL1,hD1⟩
 have hA1:∀b o,A b o->b<W1.heap.size:=λb o h=>by
  have:=hR.old b o h;have:=hR.keeps.size
  omega
 let J:S0->MO->Prop:=λx m=>∃s,π s=x/\m=E s
 let K:S0->MO->Prop:=λx m=>∃s,π s=x/\m=EB false s
 have hround:∀x m args x',J x m->Y x args x'->aFz P l args m (λb m'=>b=x'.2/\JK J K x' m'):=by
  rintro _ _ args x' ⟨s,rfl,rfl⟩ hY A' W vs hinv hA' hvs;obtain⟨hlen,hb⟩:=hbody s args x' hY;obtain⟨⟨es,ef⟩,e1,e2,e3,e4⟩:=aMh (hinv.holds _ (List.mem_singleton.2 rfl));have hyr:=run_yield (P:=P) (args:=vs.toArray) e3 (by rw[hrec];simp[hvs.length,hlen]);rw[hrec] at hyr;have hll:l<W.heap.size:=(Array.getElem?_eq_some_iff.1 e3).1;have hdl:dd<W.heap.size:=(Array.getElem?_eq_some_iff.1 e4).1;have hld:l≠dd:=by simp only[l,dd];omega
  let Ar:bE:=λb o=>A' b o\/b=l\/b=dd
  have hset:∀s b o,aV Ar (objs s) b o↔aV A' [E s] b o:=by
   intro s b o
   constructor
   ·rintro((h|h)|h)
    ·exact .inl h
    ·exact .inr ⟨E s,by simp,.inr h⟩
    ·exact .inr ⟨E s,by simp,.inl h⟩
   ·rintro(h|⟨m,hm,hf⟩)
    ·exact .inl (.inl h)
    ·simp at hm;subst hm
     rcases hf with hf|hf
     ·exact .inr hf
     ·exact .inl (.inr hf)
  have hmX:∀W s,Mono W (aV A' [E s]) W (aV Ar (objs s)):=λW s=>Mono.sub λb o h=>(hset s b o).1 h;have hmX':∀W s,Mono W (aV Ar (objs s)) W (aV A' [E s]):=λW s=>Mono.sub λb o h=>(hset s b o).2 h;have hup:=aPf (X:=aV Ar (objs s)) (n:=n) ps args vs env a.tmps hR.size hps (hvs.mono (hmX W s)) λk=>(e1 k).mono (hmX W s);have hRr:R Ar (dR (objs s)) ⟨W,[],some l⟩ n ⟨aDw env ps args,objs s⟩ {tmps:=(ps.zip vs).foldl (λt (p,v)=>t.setIfInBounds p v) a.tmps,defers:=[]} W:=by
   refine⟨hup.2,Marks.nil _ ⟨W,[],some l⟩ _,hup.1,⟨es,λm hm b o hf hA=>?_,λm hm=>bV (e2 m hm) (Keeps.refl (λ_ _=>False) W) (λ_ _ _ h=>h) (hmX W s),hinv.amb.on (hmX W s)⟩,Keeps.refl _ _,λm hm b o hf=>.inl ⟨m,hm,hf⟩,λb o hA=>?_⟩
   ·rcases hA with hA|hA|hA
    ·exact hinv.apart (E s) (by simp) b o (.inl ⟨m,hm,hf⟩) hA
    ·exact(ef b o ⟨m,hm,hf⟩).1 hA
    ·exact(ef b o ⟨m,hm,hf⟩).2 hA
   ·rcases hA with hA|rfl|rfl
    ·exact hA' b o hA
    ·exact hll
    ·exact hdl
  have htm:(ps.toArray.zip vs.toArray).foldl (λ(t:Array Value) (p:Nat×Value)=>t.setIfInBounds p.1 p.2) a.tmps=(ps.zip vs).foldl (λt (p,v)=>t.setIfInBounds p v) a.tmps:=by simp
  have hyr':(Instr.yield l vs.toArray).run P W=.ok (.round l fn ((ps.zip vs).foldl (λt (p,v)=>t.setIfInBounds p v) a.tmps) assign body) W:=by
   rw[<-htm];exact hyr
  refine⟨fn,_,assign,body,hyr',roundIn_of_wpIn trivial ?_⟩;refine wpIn_mono (F:=fen (some l)) (hb Ar (dR (objs s)) ⟨W,[],some l⟩ _ W hRr (.inr hna)) ?_;rintro e a1 w1 ⟨s1,⟨rfl,hb2⟩,hR1⟩;have hl1:w1.heap[l]?=some (.loop (rec .ready none)):=(hR1.keeps.block l hll λo h=>(ef l o h).1 rfl).trans e3;have hd1:w1.heap[dd]?=some (.deferred (some [])):=(hR1.keeps.block dd hdl λo h=>(ef dd o h).2 rfl).trans e4;refine⟨_,run_beginRound hl1 (by rw[hrec]),?_⟩;obtain⟨w2,hw2⟩:∃w2,w1.putObj l (.loop {rec .ready none with state:=.busy})=w2:=⟨_,rfl⟩;rw[hw2];have hl1lt:=(Array.getElem?_eq_some_iff.1 hl1).1;have hk12:Keeps (λb _=>b=l) w1 w2:=by rw[<-hw2];exact qE λ_=>rfl
  have hm12:∀X,Mono w1 X w2 X:=λX=>by rw[<-hw2];exact sC hl1 (by simp) (by simp)
  have hl2:w2.heap[l]?=some (.loop {rec .ready none with state:=.busy}):=by rw[<-hw2];exact World.putObj_heap_same hl1lt
  have hd2:w2.heap[dd]?=some (.deferred (some [])):=by rw[<-hw2];exact(World.putObj_heap_other (Ne.symm hld)).trans hd1
  have hR2:R Ar (dR s1.objs) ⟨w2,a1.defers,some l⟩ n s1 a1 w2:=by
   refine⟨hR1.size,Marks.nil _ ⟨w2,a1.defers,some l⟩ _,λk=>(hR1.env k).mono (hm12 _),⟨hR1.inv.sep,hR1.inv.apart,λm hm=>bV (hR1.inv.holds m hm) hk12 (λb o hf e=>hR1.inv.apart m hm b o hf (.inr (.inl e))) (hm12 _),hR1.inv.amb.on (hm12 _)⟩,Keeps.refl _ _,λm hm b o hf=>.inl ⟨m,hm,hf⟩,λb o hA=>?_⟩;exact Nat.lt_of_lt_of_le (Nat.lt_of_lt_of_le (hR1.old b o hA) hR1.keeps.size) hk12.size
  refine wpIn_mono (F:=fen (some l)) (hb2 Ar (dR s1.objs) ⟨w2,a1.defers,some l⟩ a1 w2 hR2 (.inr hnb)) ?_;rintro e a3 w3 ⟨s2,⟨he,s',hπ,hobj⟩,hR3⟩;have hap1:∀o,¬dR s1.objs l o/\¬dR s1.objs dd o:=λo=>⟨λ⟨m,hm,hf⟩=>hR1.inv.apart m hm _ _ hf (.inr (.inl rfl)),λ⟨m,hm,hf⟩=>hR1.inv.apart m hm _ _ hf (.inr (.inr rfl))⟩;have hl3:w3.heap[l]?=some (.loop {rec .ready none with state:=.busy}):=(hR3.keeps.block l (Array.getElem?_eq_some_iff.1 hl2).1 λo h=>(hap1 o).1 h).trans hl2;have hd3:w3.heap[dd]?=some (.deferred (some [])):=(hR3.keeps.block dd (Array.getElem?_eq_some_iff.1 hd2).1 λo h=>(hap1 o).2 h).trans hd2;have hl3lt:=(Array.getElem?_eq_some_iff.1 hl3).1;obtain⟨x1',bb⟩:=x';simp only at he hπ;obtain⟨w4,hw4⟩:∃w4,w3.putObj l (.loop (oK bb))=w4:=⟨_,rfl⟩
  suffices hgoal:∃m',Keeps (dR [E s]) W w4/\Inv w4 A' [m']/\(∀b o,m'.foot b o->dR [E s] b o\/W.heap.size<=b)/\m'=EB bb s' by
   have hjk:∀m',m'=EB bb s'->JK J K (x1',bb) m':=by
    rintro _ rfl;cases bb with
    |true=>exact⟨s',hπ,rfl⟩
    |false=>exact⟨s',hπ,rfl⟩
   obtain⟨m',g1,g2,g3,g4⟩:=hgoal
   rcases he with⟨rfl,hb⟩|⟨rfl,hb⟩
   ·subst hb;have hend:=run_endRound (P:=P) none hl3;have hrec4:({({rec .ready none with state:=.busy}:Loop) with state:=if(none:Option Code).isNone then .ready else .done,pending:=none}:Loop)=oK true:=by simp only[oK];rw[hrec];rfl
    rw[hrec4,hw4] at hend;exact⟨_,_,hend,true,rfl,m',g1,g2,g3,rfl,hjk m' g4⟩
   ·subst hb;have hend:=run_endRound (P:=P) (some .ret) hl3;have hrec4:({({rec .ready none with state:=.busy}:Loop) with state:=if(some Code.ret:Option Code).isNone then .ready else .done,pending:=some .ret}:Loop)=oK false:=by simp only[oK];rw[hrec];rfl
    rw[hrec4,hw4] at hend;exact⟨_,_,hend,false,rfl,m',g1,g2,g3,rfl,hjk m' g4⟩
  refine⟨EB bb s',?_⟩;have hk34:Keeps (λb _=>b=l) w3 w4:=by rw[<-hw4];exact qE λ_=>rfl
  have hm34:∀X,Mono w3 X w4 X:=λX=>by rw[<-hw4];exact sC hl3 (by simp) (by simp)
  have hl4:w4.heap[l]?=some (.loop (oK bb)):=by rw[<-hw4];exact World.putObj_heap_same hl3lt
  have hd4:w4.heap[dd]?=some (.deferred (some [])):=by rw[<-hw4];exact(World.putObj_heap_other (Ne.symm hld)).trans hd3
  have hsz2:W.heap.size<=w2.heap.size:=Nat.le_trans hR1.keeps.size hk12.size;have hkF:Keeps (dR [E s]) W w4:=by
   have k1:Keeps (dR [E s]) W w1:=hR1.keeps.mono λb o h=>⟨E s,by simp,.inl h⟩;have k2:Keeps (dR [E s]) W w2:=k1.trans (hk12.mono λb o h=>⟨E s,by simp,.inr (.inl h)⟩);have k3:Keeps (dR [E s]) W w3:=k2.weaken hR3.keeps λb o ⟨m,hm,hf⟩=>by
    rcases hR1.own m hm b o hf with h|h
    ·exact .inl ⟨E s,by simp,.inl h⟩
    ·exact .inr h
   exact k3.trans (hk34.mono λb o h=>⟨E s,by simp,.inr (.inl h)⟩)
  have hF':∀b o,Fst (objs s') l dd b o->Fst (objs s) l dd b o\/W.heap.size<=b:=by
   rintro b o (⟨m,hm,hf⟩|h)
   ·rw[<-hobj] at hm
    rcases hR3.own m hm b o hf with⟨m1,hm1,hf1⟩|h
    ·rcases hR1.own m1 hm1 b o hf1 with h|h
     ·exact .inl (.inl h)
     ·exact .inr h
    ·exact .inr (Nat.le_trans hsz2 h)
   ·exact .inl (.inr h)
  have hmW:Mono W (aV A' [E s]) w4 (aV A' [EB bb s']):=gK (objs:=[E s]) (objs':=[EB bb s']) hkF (λb o h=>.inr h) λb o hb hx=>by
   rcases hx with hx|⟨m,hm,hf⟩
   ·exact .inl hx
   ·simp at hm;subst hm
    rcases hF' b o hf with h|h
    ·exact .inr ⟨E s,by simp,h⟩
    ·omega
  have hmR:Mono w3 (aV Ar (objs s')) w4 (aV A' [EB bb s']):=(hm34 _).trans (Mono.sub λb o h=>by
   rcases h with h|⟨m,hm,hf⟩
   ·exact .inl (.inl h)
   ·simp at hm;subst hm
    rcases hf with hf|hf
    ·exact .inr hf
    ·exact .inl (.inr hf))
  refine⟨hkF,⟨by simp[Sep],λm hm b o hf hA=>?_,λm hm=>?_,hinv.amb.on hmW⟩,λb o hf=>?_,rfl⟩
  ·simp at hm;subst hm
   rcases hf with⟨m,hm,hf⟩|hf
   ·rw[<-hobj] at hm;exact hR3.inv.apart m hm b o hf (.inl hA)
   ·exact hinv.apart (E s) (by simp) b o (.inr hf) hA
  ·simp at hm;subst hm
   refine aEf ⟨⟨by rw[<-hobj];exact hR3.inv.sep,λb o ⟨m,hm,hf⟩=>?_⟩,λk=>(e1 k).mono hmW,λm hm=>?_,hl4,hd4⟩
   ·rw[<-hobj] at hm;exact⟨λe=>hR3.inv.apart m hm b o hf (.inr (.inl e)),λe=>hR3.inv.apart m hm b o hf (.inr (.inr e))⟩
   ·rw[<-hobj] at hm;have h3:=hR3.inv.holds m hm;rw[hobj] at h3;exact bV h3 hk34 (λb o hf e=>hR3.inv.apart m hm b o hf (.inr (.inl e))) hmR
  ·rcases hF' b o hf with h|h
   ·exact .inl ⟨E s,by simp,h⟩
   ·exact .inr h
 have hbd:VRs w (aV A (objs s0)) caps us:=qR hl hb;have hargs:VRs W1 (aV A [E s0]) (.d (.lit (yv l))::caps) (yv l::us):=⟨.d (.lit _ rfl),hbd.mono hm1⟩;have hcall:=hI l J K hround (E s0) ⟨s0,h0,rfl⟩ A W1 (yv l::us) hinv1 hA1 hargs;refine⟨l,[{target:=.collected dd,args:= #[]}],W1,{target:=.fn (.func f) us.toArray,args:= #[yv l]},W1,f,(yv l::us).toArray,W1,?_,?_,λ_ _=>trivial,?_,λh=>(by cases h),?_⟩
 ·rw[<-hW1,hrec];exact run_enterLoop_outer _ _ _ _ _
 ·have hres:resolve a.eval (rangeCall (.tmp t) l) 0=Deferred.ofValue (a.eval (.tmp t)) #[yv l]:=by
   unfold resolve;have e:(#[Operand.const (.func (.yield l) #[] #[])]:Array Operand).map a.eval= #[yv l]:=by simp[yv,Act.eval]
   simp only[rangeCall,e]
  rw[hres,hev]
  simp[Deferred.ofValue,go_sem]
 ·simp[invoke,go_sem,hcf]
 ·refine CallsIn.mono ((callsIn_wide (n:=0)).2 hcall) ?_;rintro e w3 ⟨v,r,objs',rfl,hk,hinv,hv,hnew,m',hjk,rfl⟩;obtain⟨x1',bb⟩:=x1;obtain⟨s',hπ,hm'⟩:∃s',π s'=x1'/\m'=EB bb s':=by
   cases bb with
   |true=>exact hjk
   |false=>exact hjk
  subst hm';obtain⟨⟨es,ef⟩,e1,e2,e3,e4⟩:=aMh (hinv.holds _ (List.mem_singleton.2 rfl));have hld:l≠dd:=by simp only[l,dd];omega
  have hst:(oK bb).state≠.busy:=by simp only[oK];rw[hrec];cases bb<;>simp
  have hend:=run_endLoop (P:=P) e3 hst;have hpe:(oK bb).pending=bif bb then none else some .ret:=by simp only[oK];rw[hrec];cases bb<;>rfl
  rw[hpe] at hend;obtain⟨ob,hob⟩:∃ob:Loop,(Instr.endLoop l).run P w3=.ok (bif bb then none else some .ret) (w3.putObj l (.loop ob)):=⟨_,hend⟩;obtain⟨w4,hw4⟩:∃w4,w3.putObj l (.loop ob)=w4:=⟨_,rfl⟩;rw[hw4] at hob;refine⟨_,w4,hob,?_⟩;have hl3lt:=(Array.getElem?_eq_some_iff.1 e3).1;have hk34:Keeps (λb _=>b=l) w3 w4:=by rw[<-hw4];exact qE λ_=>rfl
  have hm34:∀X,Mono w3 X w4 X:=λX=>by rw[<-hw4];exact sC e3 (by simp) (by simp)
  have hd4:w4.heap[dd]?=some (.deferred (some [])):=by rw[<-hw4];exact(World.putObj_heap_other (Ne.symm hld)).trans e4
  have hmX:Mono w3 (aV A [EB bb s']) w4 (aV A (objs s')):=(hm34 _).trans (Mono.sub λb o h=>h.imp id λh=>⟨EB bb s',by simp,.inl h⟩);have hs0:=hR.keeps.size;have hF0:∀b o,Fst (objs s0) l dd b o->M b o\/w0.w.heap.size<=b:=by
   rintro b o (⟨m,hm,hf⟩|rfl|rfl)
   ·exact hR.own m hm b o hf
   ·exact .inr (by simp only[l];omega)
   ·exact .inr hs0
  have hF1:∀b o,dR (objs s') b o->Fst (objs s0) l dd b o\/W1.heap.size<=b:=λb o h=>by
   rcases hnew (EB bb s') (by simp) b o (.inl h) with⟨m,hm,hf⟩|h
   ·simp at hm;subst hm;exact .inl hf
   ·exact .inr h
  suffices hR4:R A M w0 n ⟨env,objs s'⟩ {a with defers:=[{target:=.collected dd,args:= #[]}]++a.defers} w4 by
   cases bb with
   |true=>exact⟨⟨env,objs s'⟩,hN s' rfl hπ,hR4⟩
   | false=>
    have hx:=hX s' rfl hπ A M w0 _ w4 hR4 (.inl hro);rw[hro] at hx;exact hx
  refine⟨hR.size,?_,λk=>(e1 k).mono hmX,⟨es,λm hm b o hf hA=>hinv.apart (EB bb s') (by simp) b o (.inl ⟨m,hm,hf⟩) hA,λm hm=>bV (e2 m hm) hk34 (λb o hf e=>(ef b o ⟨m,hm,hf⟩).1 e) hmX,hinv.amb.on hmX⟩,?_,λm hm b o hf=>?_,hR.old⟩
  ·obtain⟨Ds,g1,g2,g3⟩:=hR.defers;refine⟨dd::Ds,by simp[g1],List.nodup_cons.2 ⟨λhm=>?_,g2⟩,λD hD=>?_⟩
   ·have:=(Array.getElem?_eq_some_iff.1 (g3 dd hm).1).1;simp only[dd] at this;omega
   ·rcases List.mem_cons.1 hD with rfl|hD
    ·refine⟨hd4,hs0,λo ho=>?_⟩
     rcases ho with ho|ho
     ·have:=hR.old dd o ho;simp only[dd] at this;omega
     ·exact(ef dd o ho).2 rfl
    ·obtain⟨q1,q2,q3⟩:=g3 D hD;have hlt:=(Array.getElem?_eq_some_iff.1 q1).1;have hDl:D≠l/\D≠dd:=by simp only[l,dd];omega
     have hk1w:W1.heap[D]?=some (.deferred (some [])):=(hk1.block D hlt λ_ h=>h).trans q1;have hk3w:w3.heap[D]?=some (.deferred (some [])):=(hk.block D (Array.getElem?_eq_some_iff.1 hk1w).1 λo ⟨m,hm,hf⟩=>by
      simp at hm;subst hm
      rcases hf with hf|hf|hf
      ·exact q3 o (.inr hf)
      ·exact hDl.1 hf
      ·exact hDl.2 hf).trans hk1w
     have hk4w:w4.heap[D]?=some (.deferred (some [])):=(hk34.block D (Array.getElem?_eq_some_iff.1 hk3w).1 λ_ h=>hDl.1 h).trans hk3w;refine⟨hk4w,q2,λo ho=>?_⟩
     rcases ho with ho|ho
     ·exact q3 o (.inl ho)
     ·rcases hF1 D o ho with(h|h|h)|h
      ·exact q3 o (.inr h)
      ·exact hDl.1 h
      ·exact hDl.2 h
      ·omega
  ·have k1:Keeps M w0.w W1:=hR.keeps.weaken hk1 λ_ _ h=>h.elim;have k3:Keeps M w0.w w3:=k1.weaken hk λb o ⟨m,hm,hf⟩=>by
    simp at hm;subst hm;exact hF0 b o hf
   exact k3.weaken hk34 λb o h=>by subst h;exact .inr (by simp only[l];omega)
  ·rcases hF1 b o ⟨m,hm,hf⟩ with h|h
   ·exact hF0 b o h
   ·exact .inr (by omega)
theorem bJs[Mode]{S S0:Type}{t:Nat}{f:FuncId}{caps:List AV}{ps:List Nat}{assign body:Code}{env:Nat->AV}(π:S->S0)(objs:S->List MO)(Y:S0->List AV->S0×Bool->Prop)(s0:S)(x0:S0)(x1:S0×Bool)
  (he:Ent st ⟨env,objs s0⟩)(hg:env t=.fn f caps)(hcf:∀args w,(callFunc f args).run P w=.ok (.enter f args) w)(h0:π s0=x0)
  (hps:(ps.all λp=>Nat.blt p n)=true)(hna:sH assign=true)(hnb:sH body=true)
  (hI:∀(l:Nat) (J K:S0->MO->Prop),(∀x m args x',J x m->Y x args x'->aFz P l args m (λb m'=>b=x'.2/\JK J K x' m'))->∀m0,J x0 m0->bI P f (.d (.lit (yv l))::caps) [m0] (λ_ o=>∃m',JK J K x1 m'/\o=[m']))
  (hbody:∀s args x',Y (π s) args x'->args.length=ps.length/\Tr P n assign ⟨aDw env ps args,objs s⟩ (jI (λs1=>Tr P n body s1 (jI (λs2=>x'.2=true/\∃s',π s'=x'.1/\Ent s2 ⟨emp,objs s'⟩) (λe s2=>e=.ret/\x'.2=false/\∃s',π s'=x'.1/\Ent s2 ⟨emp,objs s'⟩))) (λ_ _=>False)))
  (hN:∀s,x1.2=true->π s=x1.1->Q .normal ⟨env,objs s⟩)(hX:∀s,x1.2=false->π s=x1.1->Tr P n .ret ⟨env,objs s⟩ Q):Tr P n (.rangeFunc (.tmp t) ps.toArray assign body) st Q:=by
 refine aWg π objs Y s0 x0 x1 he hg hcf h0 (λp hp=>aA (List.all_eq_true.1 hps p hp)) hna hnb hI (λs args x' hy=>?_) hN hX;obtain⟨h1,h2⟩:=hbody s args x' hy;refine⟨h1,oU h2 λe s1 h=>?_⟩;obtain⟨he,h3⟩:=aTb e s1 h;refine⟨he,λA M w0 a w hR hn=>wpIn_mono (h3 A M w0 a w hR hn) ?_⟩;rintro e a' w' ⟨s2,hq,hR2⟩;have key:(e=.normal/\x'.2=true\/e=.ret/\x'.2=false)/\∃s',π s'=x'.1/\Ent s2 ⟨emp,objs s'⟩:=by
  cases e<;>first|exact⟨.inl ⟨rfl,hq.1⟩,hq.2⟩|exact⟨.inr ⟨rfl,hq.2.1⟩,hq.2.2⟩|(cases hq.1)
 obtain⟨he2,s',hs',hent⟩:=key;exact⟨⟨emp,objs s'⟩,⟨he2,s',hs',rfl⟩,hent A M w0 n a' w' hR2⟩
theorem bTh{id:Nat}{s:St}(h:N s):uS id N Q .normal s:=h
abbrev bTg{S A:Type}(e1:A->AV)(f:S->A->Option (S×Bool)):S->List AV->S×Bool->Prop:=λx args x'=>∃a,args=[e1 a]/\f x a=some x'
theorem bnf{b:Bool}(h:(!b)=false):b=true:=by cases b<;>first|rfl|cases h
theorem bUj{S0:Type}{J K:S0->MO->Prop}{x:S0×Bool}{m:MO}(h:JK J K x m)(hb:x.2=true):J x.1 m:=by
 unfold JK at h;rw[hb] at h;exact h
end
end Go.Am
end
