/- Several texts, one behind the other. -/
import Derived.Test.YtejdennodgdfhaaGreatDoorAmRange
import Derived.Sort.OwnSortedInts
import Derived.Test.YtejdennodgdfhaaGreatDoorAmNd
import Derived.Test.YtejdennodgdfhaaGreatDoorAmSub
import Derived.Lib.BitFns
section
section
section
namespace Go.Am
open Go.Sort
theorem aUn:∀zs:List Int,(zs.map aE).flatten=zs.map λx=>.lit (.int .i64 x)
 |[]=>rfl
 |z::zs=>by simp only[List.map_cons,List.flatten_cons,aUn zs];rfl
theorem aXw{w:World}{X:bE}:∀(zs:List Int),DRs w X ((zs.map aE).flatten) (zs.map (Value.int .i64))
 |[]=>trivial
 |z::zs=>⟨.lit _ rfl,aXw zs⟩
theorem bAy{w:World}{X:bE}{zs:List Int}{xs:List Value}(h:DRs w X ((zs.map aE).flatten) xs):xs=zs.map (Value.int .i64):=by
 have hl:∀zs:List Int,dH ((zs.map aE).flatten)=true:=by
  intro zs
  induction zs with
  |nil=>rfl
  |cons z zs ih=>rw[List.map_cons,List.flatten_cons];exact ih
 rw[aDa (hl zs) h,aUn,List.map_map]
 rfl
theorem aNn[Mode]{w w':World}{v:Value}(h:w.grownBy w' v.ownBlock)(hd:w.drawn<=w'.drawn):Keeps (λb _=>v.ownBlock=some b) w w':=by
 obtain⟨h1,h2,h3,h4,h5⟩:=h;have hb:∀b,b<w.heap.size->v.ownBlock≠some b->w'.heap[b]?=w.heap[b]?:=λb hb hn=>h5 b hb (Ne.symm hn);refine⟨h1,h2,h3,h4,λb hlt hz=>hb b hlt (hz 0),λb o hlt hz=>?_,λb o hlt hz=>?_,λ_=>hd⟩
 ·simp only[World.cell?,hb b hlt hz]
 ·simp only[World.frozen?,hb b hlt hz]
end Go.Am
end
section
namespace Go.Am
def sR{α:Type}(enc:α->List D)(o:Option α)(v:Value):MO:=.ext (λ_ _=>False) (λw X=>VR w X (cK enc o) v)
section
variable{P:Program}{n d:Nat}{st:St}{Q:Exit->St->Prop}
theorem bNf[Mode]{α:Type}{enc:α->List D}{o:Option α}{ops:Array Oper}{l:List Oper}{env:Nat->AV}{objs:List MO}(k:Nat)(hk:env k=cK enc o)
  (h:∀v:Value,TrL P n ops l ⟨upd env k (.d (.lit v)),objs++[sR enc o v]⟩ Q):TrL P n ops l ⟨env,objs⟩ Q:=λA M w0 a w hR=>by
 have hv:=hR.env k;rw[show(⟨env,objs⟩:St).env k=cK enc o from hk] at hv;have h1:=hR.add (m:=sR enc o (a.tmps.getD k undef)) (Keeps.refl _ _) (λb o hf=>hf.elim) (λhm=>⟨λ_ _ h=>h.elim,λw' X' hm' _=>(hv.mono hm).mono hm'⟩);refine h (a.tmps.getD k undef) A M w0 a w ⟨h1.size,h1.defers,λj=>?_,h1.inv,h1.keeps,h1.own,h1.old⟩
 by_cases hj:k=j
 ·subst hj;rw[show(⟨upd env k (.d (.lit (a.tmps.getD k undef))),objs++[sR enc o (a.tmps.getD k undef)]⟩:St).env k=.d (.lit (a.tmps.getD k undef)) from fS _ _ _];refine .d (.lit _ ?_)
  generalize a.tmps.getD k undef=v at hv
  cases o with
  |none=>cases hv with|d h=>exact h.oneCell
  |some x=>cases hv with|cp=>rfl
 ·rw[show(⟨upd env k (.d (.lit (a.tmps.getD k undef))),objs++[sR enc o (a.tmps.getD k undef)]⟩:St).env j=env j from mJ _ _ hj];exact h1.env j
theorem aVm[Mode]{α:Type}{enc:α->List D}{oo:Option α}{x:Operand}{t:TypeId}{b o j i i2:Nat}{ds:List D}{v:Value}{ty:TypeId}{pos:String}{af:Array Edge}{gd:Option (Nat×Bool)}(hd:d<n)
  (hx:st.eval x=.bp b o j)(ho:st.objs[i]?=some (.box b o ds))(hj:ds[j]?=some (.lit v))(h2:st.objs[i2]?=some (sR enc oo v))(ht:dJ P t):aY P n ⟨some d,.load t x,ty,pos,af,gd⟩ st (st.set d (cK enc oo)):=
 cA rfl hd λA M w0 a w hR=>by
  have hk:cJ x=true:=by cases x with|const u=>cases hx|_=>rfl
  have h:=hR.eval' hk;rw[hx] at h
  generalize hu:a.eval x=u at h
  obtain⟨vs,hds,hc,_⟩:=hR.inv.holds _ (List.mem_of_getElem? ho);obtain⟨_,hf⟩:=hR.inv.holds _ (List.mem_of_getElem? h2);obtain⟨u',hv,hdv⟩:=hds.get hj;have hu':u'=v:=by cases hdv;rfl
  subst hu';cases h with
  |bp=>exact⟨u',by simp[execOp,hu,xM ht (hc j u' hv)],hf _ _ (Mono.refl _ _) (Keeps.refl _ _)⟩
theorem bJb[Mode]{α:Type}{enc:α->List D}{y:α}{x:Operand}{t:TypeId}{b o j i i2:Nat}{ds:List D}{v:Value}{ty:TypeId}{pos:String}{af:Array Edge}{gd:Option (Nat×Bool)}(hd:d<n)
  (hx:st.eval x=.bp b o j)(ho:st.objs[i]?=some (.box b o ds))(hj:ds[j]?=some (.lit v))(h2:st.objs[i2]?=some (sR enc (some y) v))(ht:dJ P t):aY P n ⟨some d,.load t x,ty,pos,af,gd⟩ st (st.set d (.cp (enc y))):=
 aVm hd hx ho hj h2 ht
theorem bGv[Mode]{α:Type}{enc:α->List D}{o:Option α}{y:α}{v:Value}{env:Nat->AV}{objs:List MO}{i:Nat}(ho:objs[i]?=some (sR enc o v))(h:o=some y):Ent ⟨env,objs⟩ ⟨env,objs.set i (sR enc (some y) v)⟩:=by
 subst h;have hi:i<objs.length:=(List.getElem?_eq_some_iff.1 ho).1;have:objs.set i (sR enc (some y) v)=objs:=by
  rw[<-(List.getElem?_eq_some_iff.1 ho).2];exact List.set_getElem_self hi
 rw[this];exact Ent.refl _
theorem bKm[Mode]{α:Type}{enc:α->List D}{o:Option α}{y:α}{v:Value}{env:Nat->AV}{objs:List MO}{i:Nat}(ho:objs[i]?=some (sR enc (some y) v))(h:o=some y):Ent ⟨env,objs⟩ ⟨env,objs.set i (sR enc o v)⟩:=by
 subst h;exact bGv ho rfl
end
end Go.Am
end
section
namespace Go.Am
theorem bBb{a b:List D}(h1:dH a=true)(h2:dH b=true):dH (a++b)=true:=by
 induction a with
 |nil=>exact h2
 | cons x a ih=>
  cases x with
  |lit v=>exact ih h1
  |_=>simp[dH] at h1
theorem aEi{α:Type}{enc:α->List D}(h:∀x,dH (enc x)=true):∀xs:List α,dH (xs.map enc).flatten=true
 |[]=>rfl
 |x::xs=>by rw[List.map_cons,List.flatten_cons];exact bBb (h x) (aEi h xs)
theorem pmn[Mode]:∀m∈([]:List MO),yW m:=λ_ h=>by cases h
theorem pmc[Mode]{a:MO}{l:List MO}(h:yW a)(hl:∀m∈l,yW m):∀m∈a::l,yW m:=λm hm=>by
 rcases List.mem_cons.1 hm with rfl|hm
 ·exact h
 ·exact hl m hm
end Go.Am
end
section
namespace Go.Am
section
variable{P:Program}{n d:Nat}{st:St}{o:Oper}
end
end Go.Am
end
end
section
namespace Go.Am
theorem bRm[Mode]{env:Nat->AV}{objs:List MO}{x y:AV}(k:Nat)(h:env k=x)(hb:BV [] x y):Ent ⟨env,objs⟩ ⟨upd env k y,objs⟩:=
 kD (gone:=[]) (by simp) λj=>by
  by_cases hj:k=j
  ·subst hj;rw[fS,h];exact hb
  ·rw[mJ _ _ hj];exact .same _
def zJ{α β:Type}(kv:α->Value)(av:β->AV)(l:List (α×β))(r:Nat)(bs:List Nat)(ck:Nat):MO:=
 .ext (λ_ _=>False) λw X=>∃ms,w.heap[r]?=some (.map ms ck)/\(∀o,¬X r o)/\MRs w X (l.map λp=>(kv p.1,av p.2)) ms.toList/\ms.toList.map (·.born)=bs/\bs.Pairwise (·<·)/\∀b∈bs,b<ck
theorem bBd[Mode]{α β:Type}{kv:α->Value}{av:β->AV}{l:List (α×β)}{r:Nat}{bs:List Nat}{ck:Nat}{w:World}{X:bE}
  (h:∃ms,w.heap[r]?=some (.map ms ck)/\(∀o,¬X r o)/\MRs w X (l.map λp=>(kv p.1,av p.2)) ms.toList/\ms.toList.map (·.born)=bs/\bs.Pairwise (·<·)/\∀b∈bs,b<ck):(zJ kv av l r bs ck).holds w X:=by
 refine⟨λ_ _ h=>h.elim,λw' X' hm _=>?_⟩;obtain⟨ms,h1,h2,h3,h4⟩:=h;obtain⟨k1,k2⟩:=hm.map r ms ck h1 h2;exact⟨ms,k1,k2,h3.mono hm,h4⟩
theorem aZb[Mode]{α β:Type}{kv:α->Value}{av:β->AV}{l:List (α×β)}{r:Nat}{bs:List Nat}{ck:Nat}{w:World}{X:bE}(h:(zJ kv av l r bs ck).holds w X):
  ∃ms,w.heap[r]?=some (.map ms ck)/\MRs w X (l.map λp=>(kv p.1,av p.2)) ms.toList/\ms.toList.map (·.born)=bs/\bs.Pairwise (·<·)/\∀b∈bs,b<ck:=by
 obtain⟨ms,h1,_,h3⟩:=h.2 w X (Mono.refl _ _) (Keeps.refl _ _);exact⟨ms,h1,h3⟩
theorem MRs.of{w:World}{X:bE}:∀{es:List (Value×AV)} {ms:List MapEntry},ms.map (·.key)=es.map (·.1)->(∀(i:Nat) (m:MapEntry) (e:Value×AV),ms[i]?=some m->es[i]?=some e->VR w X e.2 m.val)->MRs w X es ms
 |[],[],_,_=>trivial
 | (k,x)::es,m::ms,hk,h=>by
  simp only[List.map_cons,List.cons.injEq] at hk;exact⟨hk.1,h 0 m (k,x) rfl rfl,MRs.of hk.2 λi m' e h1 h2=>h (i+1) m' e (by simpa using h1) (by simpa using h2)⟩
 |[],_::_,hk,_=>by simp at hk
 |_::_,[],hk,_=>by simp at hk
theorem bPm[Mode]{w:World}{X:bE}{α β:Type}{kv:α->Value}{enc:β->List D}{agg:Bool}{l:List (α×β)}{av:β->AV}(ha:∀v,av v=aCu agg (enc v)){u:Value}(h:DR w X (.mp agg (l.map λp=>(kv p.1,enc p.2))) u):
  ∃r bs ck,u=.map (some r)/\bs.length=l.length/\(zJ kv av l r bs ck).holds w X/\∃ms,w.heap[r]?=some (.map ms ck):=by
 have hp:=aOt h;cases h with
 | mp _ _ r clock ms f hb hx hk hpw hc hv h1 hr=>
  obtain⟨r',c',ms',e,hb',hk',hval⟩:=hp;cases e;rw[hb] at hb';cases hb';refine⟨r,ms.toList.map (·.born),clock,rfl,?_,bBd ⟨ms,hb,hx,?_,rfl,hpw,hc⟩,ms,hb⟩
  ·have:=congrArg List.length hk
   simpa using this
  ·refine MRs.of (by rw[hk];simp) λi m e hi he=>?_;simp only[List.getElem?_map,Option.map_eq_some_iff] at he;obtain⟨p,hp,rfl⟩:=he;have:=hval i m (kv p.1,enc p.2) hi (by simp[hp]);simp only[ha];exact this
section
variable{P:Program}{n d:Nat}{st:St}
theorem bFo[Mode]{t kt et:TypeId}{α β:Type}{kv:α->Value}{enc:β->List D}{agg:Bool}{l:List (α×β)}{av:β->AV}(ha:∀v,av v=aCu agg (enc v)){x:Operand}{ty:TypeId}{pos:String}{af:Array Edge}{gd:Option (Nat×Bool)}(hd:d<n)
  (ht:P.underlying t=some (.map kt et))(hx:st.eval x=.d (.mp agg (l.map λp=>(kv p.1,enc p.2))))(hxk:cJ x=true):
  Step P n ⟨some d,.range t x,ty,pos,af,gd⟩ st (λs=>∃q r bs ck,jY l bs []=l/\s=⟨upd st.env d (.d (.lit (.pointer (some ⟨q,0,none⟩)))),(st.objs++[zJ kv av l r bs ck])++[.iter q r ck [] ck]⟩):=by
 intro A M w0 ac w hR K Q hK;have h:=hR.eval' hxk;rw[hx] at h
 generalize hu:ac.eval x=u at h
 cases h with
 | d h=>
  obtain⟨r,bs,ck,rfl,hlen,hfact,ms,hh⟩:=bPm ha h;have hrun:(execOp ac.eval ⟨some d,.range t x,ty,pos,af,gd⟩).run P w=.ok (.value (.pointer (some ⟨w.heap.size,0,none⟩))) (w.alloc (.mapIter (some r) ck #[] ck)):=by
   simp[execOp,hu,Instr.range,run_underlying ht,dF hh]
  unfold Oper.wp;rw[hrun,Oper.upon_value];refine hK _ _ _ ⟨w.heap.size,r,bs,ck,aUy hlen,rfl⟩ ?_;have hR1:=hR.add (w':=w) (m:=zJ kv av l r bs ck) (Keeps.refl _ _) (λb o hf=>hf.elim) (λhm=>by
   obtain⟨h1,h2⟩:=hfact;exact⟨λ_ _ h=>h.elim,λw' X' hm' hk'=>h2 w' X' (hm.trans hm') hk'⟩)
  have hR':=hR1.add (w':=w.alloc (.mapIter (some r) ck #[] ck)) (m:=.iter w.heap.size r ck [] ck) (Keeps.alloc _ _ _) (λb o hf=>by simp[MO.foot] at hf;omega) (λhm=>by
   show(w.alloc (.mapIter (some r) ck #[] ck)).heap[w.heap.size]?=_;exact heap_alloc_new w _)
  exact hR'.put (o:=⟨some d,.range t x,ty,pos,af,gd⟩) rfl hd (.of_lit rfl)
theorem bJf[Mode]{α β:Type}{kv:α->Value}{av:β->AV}{l:List (α×β)}{x:Operand}{q r mi mm:Nat}{bs seen:List Nat}{ck:Nat}{ty:TypeId}{pos:String}{af:Array Edge}{gd:Option (Nat×Bool)}(hd:d<n)
  (hx:st.eval x=.d (.lit (.pointer (some ⟨q,0,none⟩))))(hi:st.objs[mi]?=some (.iter q r ck seen ck))(ho:st.objs[mm]?=some (zJ kv av l r bs ck)):
  Step P n ⟨some d,.next x false,ty,pos,af,gd⟩ st (λs=>(jY l bs seen=[]/\s=st.set d (.tup [.d (.lit (.bool false))]))\/
   ∃(j b:Nat) (p:α×β),(bs.Pairwise (·<·)/\l[j]?=some p/\bs[j]?=some b/\b∉seen)/\s=⟨upd st.env d (.tup [.d (.lit (.bool true)),.any,.any]),st.objs.set mi (.iter q r ck (seen++[b]) ck)⟩):=by
 intro A M w0 ac w hR K Q hK;obtain⟨ms,hh,hms,hb1,hb2,hb3⟩:=aZb (hR.inv.holds _ (List.mem_of_getElem? ho));have hq:w.heap[q]?=some (.mapIter (some r) ck seen.toArray ck):=hR.inv.holds _ (List.mem_of_getElem? hi);have hlen:bs.length=l.length:=by rw[<-hb1,List.length_map,hms.len,List.length_map]
 have hbj:∀j (hj:j<ms.toList.length),bs[j]?=some ms.toList[j].born:=by intro j hj;rw[<-hb1,List.getElem?_map,List.getElem?_eq_getElem hj];rfl
 rcases run_next_at (P:=P) w ty q r ck ck seen.toArray ms ck hq hh (λe he=>hb3 _ (by rw[<-hb1];exact List.mem_map_of_mem he)) (Nat.le_refl _) with⟨h0,hrun⟩|⟨e,he,w1,hw1,hrun⟩
 ·unfold Oper.wp;have hrun':(execOp ac.eval ⟨some d,.next x false,ty,pos,af,gd⟩).run P w=.ok (.value (.tuple #[.bool false])) w:=by
   simp[execOp,hR.lit hx,hrun]
  rw[hrun',Oper.upon_value];refine hK _ _ _ (.inl ⟨?_,rfl⟩) (hR.put (o:=⟨some d,.next x false,ty,pos,af,gd⟩) rfl hd (.tup (us:=[_]) rfl λi hi=>by
   match i,hi with
   |0,_=>exact .d (.lit _ rfl)))
  unfold jY;rw[List.map_eq_nil_iff,List.filter_eq_nil_iff];intro z hz;have hz2:=(List.of_mem_zip hz).2;rw[<-hb1] at hz2;obtain⟨e,he,hez⟩:=List.mem_map.1 hz2;have h1:leftOf ms seen.toArray= #[]:=Array.eq_empty_of_size_eq_zero h0;have h2:e∉(leftOf ms seen.toArray):=by rw[h1];simp
  simp only[leftOf,Array.mem_filter,not_and] at h2;have:=h2 (by simpa using he)
  simp at this
  simp[<-hez,this]
 ·unfold Oper.wp;have hrun':(execOp ac.eval ⟨some d,.next x false,ty,pos,af,gd⟩).run P w=.ok (.value (.tuple #[.bool true,e.key,e.val])) (ChangeMaps.setBlock w1 q (.mapIter (some r) ck (seen.toArray.push e.born) ck)):=by
   simp[execOp,hR.lit hx,hrun]
  rw[hrun',Oper.upon_value];obtain⟨hem,hes⟩:=mem_left he;obtain⟨j,hj,rfl⟩:=List.getElem_of_mem hem;have hjl:j<l.length:=by rw[<-hlen,<-hb1];simpa using hj
  refine hK _ _ _ (.inr ⟨j,ms.toList[j].born,l[j],⟨hb2,List.getElem?_eq_getElem hjl,hbj j hj,by simpa using hes⟩,rfl⟩) ?_;exact(aYp hR hi hw1).put (o:=⟨some d,.next x false,ty,pos,af,gd⟩) rfl hd (.tup (us:=[_,_,_]) rfl λi hi=>by
   match i,hi with
   |0,_=>exact .d (.lit _ rfl)
   |1,_=>exact .any _
   |2,_=>exact .any _)
theorem bFl[Mode]{α β:Type}{kv:α->Value}{av:β->AV}{l:List (α×β)}{x:Operand}{q r mi mm j b:Nat}{p:α×β}{bs seen:List Nat}{ck:Nat}{ka:AV}{ty:TypeId}{pos:String}{af:Array Edge}{gd:Option (Nat×Bool)}(hd:d<n)
  (hx:st.eval x=.d (.lit (.pointer (some ⟨q,0,none⟩))))(hi:st.objs[mi]?=some (.iter q r ck (seen++[b]) ck))(ho:st.objs[mm]?=some (zJ kv av l r bs ck))
  (hp:bs.Pairwise (·<·)/\l[j]?=some p/\bs[j]?=some b/\b∉seen)(hk:∀w X,VR w X ka (kv p.1)):
  aY P n ⟨some d,.entry x,ty,pos,af,gd⟩ st (st.set d (.tup [ka,av p.2])):=
 cA rfl hd λA M w0 ac w hR=>by
  obtain⟨ms,hh,hms,hb1,hb2,hb3⟩:=aZb (hR.inv.holds _ (List.mem_of_getElem? ho));have hq:w.heap[q]?=some (.mapIter (some r) ck (seen++[b]).toArray ck):=hR.inv.holds _ (List.mem_of_getElem? hi);obtain⟨e,he,hv⟩:=hms.get (j:=j) (e:=(kv p.1,av p.2)) (by simp[hp.2.1]);have hborn:e.born=b:=by
   have:=hp.2.2.1;rw[<-hb1] at this;simp only[List.getElem?_map,he,Option.map_some,Option.some.injEq] at this;exact this
  have hkey:e.key=kv p.1:=by
   have:=congrArg (λz=>z[j]?) hms.keys;simp only[List.getElem?_map,he,hp.2.1,Option.map_some,Option.some.injEq] at this;exact this
  have hq2:w.heap[q]?=some (.mapIter (some r) ck (seen.toArray.push e.born) ck):=by rw[hq,hborn];simp
  have hrun:=run_entry_at (P:=P) w q r ck seen.toArray ms ck e hq2 hh (List.mem_of_getElem? he) (by rw[hb1];exact hb2.imp λh=>Nat.ne_of_lt h);refine⟨.tuple #[e.key,e.val],by simp[execOp,hR.lit hx,hrun],.tup (us:=[_,_]) rfl λi hi=>by
   match i,hi with
   |0,_=>exact hkey▸hk _ _
   |1,_=>exact hv⟩
end
section
variable{P:Program}{n d:Nat}{st:St}
def bRn(i j:Nat):Option Nat:=if j<i then some j else if j=i then none else some (j-1)
theorem er{α:Type}{l:List α}{i j:Nat}(j':Nat){x:α}(hj:bRn i j'=some j)(h:l[j']?=some x):(l.eraseIdx i)[j]?=some x:=by
 unfold bRn at hj;split at hj
 ·cases hj;rw[List.getElem?_eraseIdx,if_pos (by assumption)];exact h
 ·split at hj
  ·cases hj
  ·cases hj;rw[List.getElem?_eraseIdx,if_neg (by omega),show j'-1+1=j' by omega];exact h
theorem pI[Mode]{env:Nat->AV}{objs objs':List MO}(h:objs.Perm objs'):Ent ⟨env,objs⟩ ⟨env,objs'⟩:=
 kD (gone:=[]) (by simpa using h) λ_=>.same _
theorem bBl[Mode]{c:Callee}{l:List Operand}{f:FuncId}{args args':List AV}{e k:Nat}{rows:List (List D)}{ts:Array TypeId}{ty:TypeId}{pos:String}{af:Array Edge}{gd:Option (Nat×Bool)}(hd:d<n)
  {a0:List AV}(hc:kL P st c l f a0)(ha:a0=args)(hok:iE l=true)(hb:BVs st.objs args args')(hf:bI P f args' [] (λr' o'=>∃w,r'=.d (.lit w)/\o'=[.arr w e k rows]))(hp:dH rows.flatten=true):
  Step P n ⟨some d,.call {callee:=c,args:=l.toArray,argTypes:=ts},ty,pos,af,gd⟩ st (λs=>∃w,s=(st.setadd d (.d (.lit w)) (.arr w e k rows))):=by
 intro A M w0 a w hR K Q hK;refine bMl (passed:=[]) hd rfl hc ha hok hb hf pmn (by rintro _ _ ⟨w,rfl,rfl⟩;exact⟨rfl,pmc (bIs hp) pmn⟩) A M w0 a w hR K Q ?_;rintro s a' w' ⟨_,_,⟨v,rfl,rfl⟩,rfl⟩ hR';refine hK _ a' w' ⟨v,rfl⟩ (pI ?_ A M w0 n a' w' hR');exact List.perm_append_comm
end
theorem bHr[Mode]{P:Program}{f:FuncId}{args:List AV}{e k:Nat}{rows:List (List D)}(h:bI P f args [] (λr' o'=>∃w,r'=.d (.lit w)/\o'=[.arr w e k rows])):Fn P f args (.d (.sl k rows)):=by
 intro A w vs h1 h2 h3;refine(h A w vs h1 h2 h3).mono ?_;rintro e' w' ⟨v,r,o,rfl,hk,hinv,hv,hnew,u,rfl,rfl⟩;have hsub:Mono w' (aV A [.arr u e k rows]) w' (aV A []):=Mono.sub λb o h=>h.imp id λ⟨m,hm,_⟩=>by simp at hm
 have hu:=hv.lit;subst hu;have hh:=hinv.holds _ (List.mem_singleton.2 rfl);have hlen:∀r∈rows,r.length=k:=hh.choose_spec.2.2;refine⟨_,_,[],rfl,hk,hinv.none,.d (aBr (X':=aV A []) hh (λb o hb hx=>?_) rfl hlen λi j _ _ q hq=>hq.mono hsub),by simp,rfl,rfl⟩
 rcases hx with hx|⟨m,hm,_⟩
 ·exact hinv.apart _ (List.mem_singleton.2 rfl) b o hb hx
 ·simp at hm
theorem bIq[Mode]{P:Program}{f:FuncId}{args:List AV}{α:Type}{e k:Nat}{enc:α->List (List D)}{r:α}(h:bI P f args [] (λr' o'=>∃(x:α) (w:Value),x=r/\r'=.d (.lit w)/\o'=[.arr w e k (enc x)])):bI P f args [] (λr' o'=>∃w,r'=.d (.lit w)/\o'=[.arr w e k (enc r)]):=
 oW h λ_ _ ⟨_,w,hx,h1,h2⟩=>⟨w,h1,hx▸h2⟩
end Go.Am
end
end
section
namespace Go.Am
theorem ad0:∀i,i<([]:List AV).length->AD (([]:List AV).getD i .any) (([]:List D).getD i (.lit undef)):=λ_ h=>by simp at h
theorem ad1{x:AV}{d:D}(h:AD x d):∀i,i<[x].length->AD ([x].getD i .any) ([d].getD i (.lit undef))
 |0,_=>h
theorem ad2{x y:AV}{d e:D}(h:AD x d)(h':AD y e):∀i,i<[x,y].length->AD ([x,y].getD i .any) ([d,e].getD i (.lit undef))
 |0,_=>h
 |1,_=>h'
theorem aAd{fs:List MO}{m:Bool}{f:FuncId}{x y:D}(h:DV fs x y):DV fs (.fc m f [x]) (.fc m f [y]):=
 .fc m f _ _ rfl λj hj=>match j,hj with|0,_=>h
theorem aQd{fs:List MO}{m:Bool}{f:FuncId}{x y z u:D}(h:DV fs x y)(h':DV fs z u):DV fs (.fc m f [x,z]) (.fc m f [y,u]):=
 .fc m f _ _ rfl λj hj=>match j,hj with|0,_=>h|1,_=>h'
theorem vX{fs:List MO}{b o:Nat}{x y:D}(i:Nat)(ho:fs[i]?=some (.box b o [x]))(h:DV fs x y):DV fs (.lit (.pointer (some ⟨b,o,none⟩))) (.pt [y]):=
 .box b o [x] [y] (List.mem_of_getElem? ho) rfl λj hj=>match j,hj with|0,_=>h
theorem aQe{fs:List MO}{x y:D}(h:DV fs x y):DV fs (.pt [x]) (.pt [y]):=.ptc _ _ rfl λj hj=>match j,hj with|0,_=>h
theorem bGj(a b:Str):((⟨a.toArray⟩:ByteArray)==⟨b.toArray⟩)=decide (a=b):=by
 rw[show((⟨a.toArray⟩:ByteArray)==⟨b.toArray⟩)=(a.toArray==b.toArray) from rfl]
 by_cases h:a=b<;>simp[h]
theorem aNl(a:Str):∀(l:List Str) (ms:List MapEntry) (i:Nat),ms.map (·.key)=l.map sv->
  Instr.findNow .string (sv a) ms i=some ((dT a l).bind λj=>(ms[j]?).map λe=>(i+j,e.val))
 |[],[],_,_=>by simp[Instr.findNow,dT]
 | b::l,m::ms,i,h=>by
  simp only[List.map_cons,List.cons.injEq] at h;have ih:=aNl a l ms (i+1) h.2;simp only[Instr.findNow,h.1,sv,Instr.sameNow,dT,bGj]
  by_cases hab:a=b
  ·simp[hab]
  ·simp only[hab,decide_false,cond_false];rw[show Value.string ⟨a.toArray⟩=sv a from rfl,ih];cases dT a l with
   |none=>rfl
   |some j=>simp[Nat.add_assoc,Nat.add_comm 1 j]
 |[],_::_,_,h=>by simp at h
 |_::_,[],_,h=>by simp at h
theorem cZ{P:Program}{kt:TypeId}(hu:P.underlying kt=some .string):oV P kt sv where
 chk b a w:=by
  rw[show(10000:Nat)=9999+1 from rfl]
  generalize(9999:Nat)=m
  simp only[Instr.checkKey,Sem.run_bind,run_underlying hu,Result.andThen_ok]
  rfl
 find a l ms w h:=by simp[Instr.findKey,run_underlying hu,aNl a l ms 0 h]
 stays a w:=by simp[Instr.keyThatStays,Instr.sameBits,sv,bGj]
 inj a b h:=by
  simp only[sv,Value.string.injEq] at h;have:=congrArg (λx=>x.data.toList) h
  simpa using this
theorem dW[Mode]{P:Program}{n:Nat}{st:St}{t kt et:TypeId}{α β:Type}[DecidableEq α]{kv:α->Value}{av:β->AV}{l:List (α×β)}{v:β}{a:α}{x y q:Operand}{r m:Nat}{bs:List Nat}{clock:Nat}{ty:TypeId}{pos:String}{af:Array Edge}{gd:Option (Nat×Bool)}
  (hk:oV P kt kv)(ht:P.underlying t=some (.map kt et))
  (hx:st.eval x=.d (.lit (.map (some r))))(ho:st.objs[m]?=some (.map r (l.map λp=>(kv p.1,av p.2)) bs clock))(hyk:cJ y=true){yv:AV}(hyv:st.eval y=yv)(hy:wL kv yv a)(hqk:cJ q=true)(hq:st.eval q=av v):
  aY P n ⟨none,.insert t x y q,ty,pos,af,gd⟩ st ⟨st.env,st.objs.set m (.map r ((dL a v l).map λp=>(kv p.1,av p.2)) (mbs a l bs clock) (mck a l clock))⟩:=by
 intro A M w0 ac w hR K Q hK;have:=pN (n:=n) (ty:=ty) (pos:=pos) (af:=af) (gd:=gd) hk ht hx ho hyk hyv hy hqk hq A M w0 ac w hR K Q hK;unfold Oper.wp at this|-;exact this
section
variable{P:Program}{n:Nat}{st:St}{Q:Exit->St->Prop}{α β:Type}[DecidableEq α]
theorem aZc{a:α}{v:β}:∀{l:List (α×β)},(∀p∈l,p.1≠a)->dL a v l=l++[(a,v)]
 |[],_=>rfl
 | (b,u)::l,h=>by
  have h1:¬a=b:=λe=>h (b,u) (by simp) e.symm;simp only[dL,h1,decide_false,cond_false,List.cons_append,aZc λp hp=>h p (List.mem_cons_of_mem _ hp)]
theorem aYd{γ:Type}{S:Nat->Bool}{i:Nat}{ins:List (Nat×γ)}(h:∀p∈ins,p.1≠i):ins.filter (λp=>Nat.beq p.1 i||S p.1)=ins.filter λp=>S p.1:=
 List.filter_congr λp hp=>by
  have:Nat.beq p.1 i=false:=by
   cases hb:Nat.beq p.1 i with
   |false=>rfl
   |true=>exact absurd (Nat.eq_of_beq_eq_true hb) (h p hp)
  simp[this]
theorem bCe{γ:Type}{S:Nat->Bool}{i:Nat}{x:γ}(hS:S i=false):∀{ins:List (Nat×γ)},(ins.map (·.1)).Nodup->(i,x)∈ins->(ins.filter λp=>Nat.beq p.1 i||S p.1).Perm ((i,x)::ins.filter λp=>S p.1)
 |[],_,h=>by simp at h
 | p ::ins,hn,h=>by
  simp only[List.map_cons,List.nodup_cons,List.mem_map,not_exists,not_and] at hn
  rcases List.mem_cons.1 h with rfl|h
  ·have:ins.filter (λp=>Nat.beq p.1 i||S p.1)=ins.filter λp=>S p.1:=aYd λp hp e=>hn.1 p hp e;simp only[List.filter_cons,Nat.beq_refl,hS,this]
   simp
  ·have ih:=bCe (x:=x) hS hn.2 h;have hne:Nat.beq p.1 i=false:=by
    cases hb:Nat.beq p.1 i with
    |false=>rfl
    |true=>exact absurd (Nat.eq_of_beq_eq_true hb).symm (hn.1 (i,x) h)
   simp only[List.filter_cons,hne,Bool.false_or];cases S p.1 with
   |true=>exact(List.Perm.cons _ ih).trans (.swap _ _ _)
   |false=>exact ih
def MOp[Mode](P:Program)(n:Nat)(ops:Array Oper)(tab:Nat->Tab)(base:Nat->AV)(f:α×β->Value×AV)(ins:List (Nat×α×β))(o:Oper)(i:Nat)(yn:List Nat×List Nat):Prop:=
 (∀(S:Nat->Bool) (r:Nat) (objs:List MO),Knows S yn.1 yn.2->∃d v,find (tab r) d=some (i,v)/\GStep P n ops o ⟨ov (tab r) S base,objs⟩ ⟨upd (ov (tab r) S base) d v,objs⟩)/\(ins.all λp=>!Nat.beq p.1 i)=true\/
 ∃ a v,(i,a,v)∈ins/\bF 0 yn.1=true/\o.guard=none/\∀(S:Nat->Bool) (r:Nat) (objs:List MO) (m:Nat) (l:List (α×β)) (bs:List Nat) (ck:Nat),Knows S yn.1 yn.2->objs[m]?=some (.map r (l.map f) bs ck)->
  aY P n o ⟨ov (tab r) S base,objs⟩ ⟨ov (tab r) S base,objs.set m (.map r ((dL a v l).map f) (mbs a l bs ck) (mck a l ck))⟩
def AllM[Mode](P:Program)(n:Nat)(ops:Array Oper)(tab:Nat->Tab)(base:Nat->AV)(f:α×β->Value×AV)(ins:List (Nat×α×β)):List Oper->List (List Nat×List Nat)->Nat->Prop
 |[],_,_=>True
 |o::l,yn,i=>MOp P n ops tab base f ins o i (yn.headD ([],[]))/\AllM P n ops tab base f ins l yn.tail (i+1)
theorem AllM.get[Mode]{ops:Array Oper}{tab:Nat->Tab}{base:Nat->AV}{f:α×β->Value×AV}{ins:List (Nat×α×β)}:∀{l:List Oper} {yn:List (List Nat×List Nat)} {k:Nat},AllM P n ops tab base f ins l yn k->∀{i:Nat} {o:Oper},l[i]?=some o->
  MOp P n ops tab base f ins o (k+i) (yn.getD i ([],[]))
 |[],_,_,_,i,o,h=>by simp at h
 | _::_,yn,k,h,0,o,ho=>by
  simp at ho;subst ho
  have:=h.1;cases yn<;>simpa using this
 | _::l,yn,k,h,i+1,o,ho=>by
  have:=h.2.get (i:=i) (by simpa using ho);rw[show k+1+i=k+(i+1) by omega] at this;cases yn with
  |nil=>simpa using this
  |cons y yn=>simpa using this
theorem bMz[Mode]{id:Nat}{l rest:List Oper}{o0:Oper}(hl:l=o0::rest)(m dm:Nat)(tab0:Tab)(f:α×β->Value×AV)(ins:List (Nat×α×β))(hm:P.follows .mixedOrders=true)(hb:uH l=true)(hbe:rR (cM l l.length) m l.length=true)
  (hml:Nat.ble m l.length=true)(hown:∀r,jN ((dm,0,.d (.lit (.map (some r))))::tab0)=true)(htab:((dm,0,AV.any)::tab0).all (λx=>Nat.blt x.2.1 m)=true)(hi1:(ins.map (·.1)).Nodup)(hi2:(ins.map (·.2.1)).Nodup)(hi3:(ins.all λp=>Nat.blt p.1 m&&!Nat.beq p.1 0)=true)
  (hti:(tab0.all λx=>ins.all λp=>!Nat.beq x.2.1 p.1)=true)(hg0:o0.guard=none)(h0:∀(s:St),Step P n o0 s (λs'=>∃r,s'=⟨upd s.env dm (.d (.lit (.map (some r)))),s.objs++[.map r [] [] 0]⟩))
  (yn:List (List Nat×List Nat))(hyn:aJb (cM l l.length) m yn=true)(hsteps:AllM P n l.toArray (λr=>(dm,0,.d (.lit (.map (some r))))::tab0) st.env f ins ((l.take m).drop 1) (yn.drop 1) 1)
  (htail:∀r (es:List (α×β)) bs ck,es.Perm (ins.map (·.2))->TrL P n l.toArray (l.drop m) ⟨ov ((dm,0,.d (.lit (.map (some r))))::tab0) (λ_=>true) st.env,st.objs++[.map r (es.map f) bs ck]⟩ Q):
  Tr P n (.region id l.toArray true) st Q:=by
 have hm0:0<m:=by
  simp only[List.all_cons,Bool.and_eq_true] at htab;exact aA htab.1
 have hcov:∀(r:Nat) (S S':Nat->Bool),(∀j,j<m->S' j=S j)->ov ((dm,0,.d (.lit (.map (some r))))::tab0) S' st.env=ov ((dm,0,.d (.lit (.map (some r))))::tab0) S st.env:=by
  intro r S S' hS
  funext k
  unfold ov;cases hf:find ((dm,0,.d (.lit (.map (some r))))::tab0) k with
  |none=>rfl
  | some p=>
   obtain⟨j,v⟩:=p;have hjm:j<m:=by
    have hmem:=vK hf;simp only[List.all_cons,Bool.and_eq_true] at htab
    rcases List.mem_cons.1 hmem with h|h
    ·cases h;exact hm0
    ·exact aA (List.all_eq_true.1 htab.2 _ h)
   simp[hS j hjm]
 refine aIv m (λS st'=>∃r,st'.env=ov ((dm,0,.d (.lit (.map (some r))))::tab0) S st.env/\((S 0=false/\st'.objs=st.objs/\∀p∈ins,S p.1=false)\/(S 0=true/\∃(es:List (α×β)) (bs:List Nat) (ck:Nat),st'.objs=st.objs++[.map r (es.map f) bs ck]/\es.Perm ((ins.filter λp=>S p.1).map (·.2)))))
  hm hb hbe hml yn hyn ?_ ?_ ?_ ?_
 ·refine⟨0,?_,.inl ⟨rfl,rfl,λ_ _=>rfl⟩⟩
  funext k
  unfold ov;cases hf:find ((dm,0,.d (.lit (.map (some 0))))::tab0) k with
  |none=>rfl
  |some p=>rfl
 ·rintro S S' st' hS ⟨r,he,ho⟩;have hin:∀p∈ins,S' p.1=S p.1:=λp hp=>hS _ (by
   have:=List.all_eq_true.1 hi3 p hp;simp only[Bool.and_eq_true] at this;exact aA this.1)
  refine⟨r,by rw[he,hcov r S S' hS],?_⟩;rw[hS 0 hm0];refine ho.imp (λh=>⟨h.1,h.2.1,λp hp=>by rw[hin p hp];exact h.2.2 p hp⟩) λh=>⟨h.1,?_⟩;obtain⟨es,bs,ck,h1,h2⟩:=h.2;exact⟨es,bs,ck,h1,by rwa[List.filter_congr λp hp=>hin p hp]⟩
 ·rintro i o hoi S st' ⟨r,he,ho⟩ hSi hk;cases i with
  | zero=>
   have:o=o0:=by
    subst hl;cases m with
    |zero=>omega
    |succ m=>simp at hoi;exact hoi.symm
   subst this;refine .inl ⟨λ_ _ _ _ _ _=>by simp[Region.wanted,hg0],λA M w0 a w hR K Q' hK=>h0 st' A M w0 a w hR K Q' ?_⟩;rintro s a' w' ⟨r',rfl⟩ hR'
   rcases ho with⟨_,ho,hno⟩|⟨h1,_⟩
   ·refine hK _ a' w' ⟨_,⟨r',?_,.inr ⟨rfl,[],[],0,by rw[ho];rfl,?_⟩⟩,Ent.refl _⟩ hR'
    ·show upd st'.env dm _=_;rw[he]
     funext k
     rw[aCj (d:=dm) (v:=.d (.lit (.map (some r')))) (hown r') (by simp[find]) k]
     by_cases hk':dm=k
     ·subst hk';rw[fS,fS]
     ·rw[mJ _ _ hk',mJ _ _ hk'];have hb':Nat.beq dm k=false:=by
       cases hb':Nat.beq dm k with
       |false=>rfl
       |true=>exact absurd (Nat.eq_of_beq_eq_true hb') hk'
      simp[ov,find,hb']
    ·have:(ins.filter λp=>Nat.beq p.1 0||S p.1)=[]:=List.filter_eq_nil_iff.2 λp hp=>by
      have h3:=List.all_eq_true.1 hi3 p hp;simp only[Bool.and_eq_true,Bool.not_eq_true'] at h3
      simp[h3.2,hno p hp]
     rw[this];exact .refl _
   ·rw[hSi] at h1;cases h1
  | succ i=>
   have hoi':((l.take m).drop 1)[i]?=some o:=by rw[List.getElem?_drop,Nat.add_comm];exact hoi
   have hop:=hsteps.get hoi';rw[Nat.add_comm 1 i] at hop;have hyd:(yn.drop 1).getD i ([],[])=yn.getD (i+1) ([],[]):=by simp[List.getD,List.getElem?_drop,Nat.add_comm]
   rw[hyd] at hop;have h00:(Nat.beq 0 (i+1)||S 0)=S 0:=by rw[show Nat.beq 0 (i+1)=false from rfl,Bool.false_or]
   obtain⟨env',objs'⟩:=st';simp only at he ho;subst he
   rcases hop with⟨hp,hni⟩|⟨a,v,hin,h0y,hg,hst⟩
   ·obtain⟨d,v,hf,hg⟩:=hp S r objs' hk;have hni':∀p∈ins,p.1≠i+1:=λp hp e=>by
     have:=List.all_eq_true.1 hni p hp;rw[e,Nat.beq_refl] at this;cases this
    refine hg.toP ⟨_,⟨r,funext λk=>(aCj (hown r) hf k).symm,?_⟩,Ent.refl _⟩;refine Or.imp (λ(h:S 0=false/\_/\_)=>⟨h00.trans h.1,h.2⟩) (λ(h:S 0=true/\_)=>⟨h00.trans h.1,h.2⟩) (?_:(S 0=false/\_/\_)\/(S 0=true/\_));refine ho.imp (λh=>⟨h.1,h.2.1,λp hp=>?_⟩) λh=>⟨h.1,?_⟩
    ·have:Nat.beq p.1 (i+1)=false:=by
      cases hb:Nat.beq p.1 (i+1) with
      |false=>rfl
      |true=>exact absurd (Nat.eq_of_beq_eq_true hb) (hni' p hp)
     simp[this,h.2.2 p hp]
    ·obtain⟨es,bs,ck,h1,h2⟩:=h.2;exact⟨es,bs,ck,h1,by rwa[aYd hni']⟩
   ·have hS0:S 0=true:=hk.y 0 h0y
    rcases ho with⟨h1,_⟩|⟨_,es,bs,ck,rfl,hper⟩
    ·rw[hS0] at h1;cases h1
    have hmi:(st.objs++[MO.map r (es.map f) bs ck])[st.objs.length]?=some (.map r (es.map f) bs ck):=by simp
    have hstep:=hst S r _ st.objs.length es bs ck hk hmi;have hset:(st.objs++[MO.map r (es.map f) bs ck]).set st.objs.length (.map r ((dL a v es).map f) (mbs a es bs ck) (mck a es ck))=st.objs++[.map r ((dL a v es).map f) (mbs a es bs ck) (mck a es ck)]:=by
     rw[List.set_append_right _ _ (Nat.le_refl _)];simp
    rw [hset] at hstep;have hnew:∀p∈es,p.1≠a:=by
     intro p hp e;have hmem:=hper.mem_iff.1 hp;obtain⟨q,hq,rfl⟩:=List.mem_map.1 hmem;obtain⟨hq1,hq2⟩:=List.mem_filter.1 hq;have:q=(i+1,a,v):=by
      have hinj:∀{ps:List (Nat×α×β)},(ps.map (·.2.1)).Nodup->∀{x y},x∈ps->y∈ps->x.2.1=y.2.1->x=y:=by
       intro ps
       induction ps with
       |nil=>intro _ x y hx;simp at hx
       | cons p ps ih=>
        intro hn x y hx hy e;simp only[List.map_cons,List.nodup_cons,List.mem_map,not_exists,not_and] at hn
        rcases List.mem_cons.1 hx with hx|hx<;>rcases List.mem_cons.1 hy with hy|hy
        ·exact hx.trans hy.symm
        ·exact absurd (by rw[<-e,hx]) (hn.1 y hy)
        ·exact absurd (by rw[e,hy]) (hn.1 x hx)
        ·exact ih hn.2 hx hy e
      exact hinj hi2 hq1 hin e
     subst this;rw[hSi] at hq2;cases hq2
    refine .inl ⟨λ_ _ _ _ _ _=>by simp[Region.wanted,hg],λA M w0 a' w hR K Q' hK=>hstep A M w0 a' w hR K Q' ?_⟩;rintro s a2 w2 rfl hR2;refine hK _ a2 w2 ⟨_,⟨r,?_,.inr ⟨h00.trans hS0,dL a v es,mbs a es bs ck,mck a es ck,rfl,?_⟩⟩,Ent.refl _⟩ hR2
    ·funext k
     show ov ((dm,0,.d (.lit (.map (some r))))::tab0) S st.env k=_;unfold ov;cases hf:find ((dm,0,.d (.lit (.map (some r))))::tab0) k with
     |none=>rfl
     | some p=>
      obtain⟨j,v'⟩:=p;have hji:Nat.beq j (i+1)=false:=by
       rcases List.mem_cons.1 (vK hf) with h|h
       ·cases h;rfl
       ·have:=List.all_eq_true.1 (List.all_eq_true.1 hti _ h) _ hin
        simpa using this
      simp[hji]
    ·rw[aZc hnew];have h5:=(bCe hSi hi1 hin).map (·.2);refine List.Perm.trans ?_ h5.symm;simp only[List.map_cons];exact(List.perm_append_comm).trans (.cons _ hper)
 ·rintro⟨env',objs'⟩ ⟨r,he,ho⟩;simp only at he ho;subst he
  rcases ho with⟨h1,_⟩|⟨_,es,bs,ck,rfl,hper⟩
  ·cases h1
  ·refine htail r es bs ck ?_
   rwa[List.filter_eq_self.2 λ_ _=>rfl] at hper
end
theorem bIf{α β:Type}[DecidableEq α](a:α)(z:β){l l':List (α×β)}(h:l.Perm l'):(l.map (·.1)).Nodup->aR a z l=aR a z l'/\cN a l=cN a l':=by
 induction h with
 |nil=>exactλ_=>⟨rfl,rfl⟩
 | cons p _ ih=>
  intro hn;obtain⟨b,v⟩:=p;simp only[List.map_cons,List.nodup_cons] at hn;obtain⟨h1,h2⟩:=ih hn.2;simp only[aR,cN,h1,h2,and_self]
 | swap p q l=>
  intro hn;obtain⟨b,v⟩:=p;obtain⟨c,u⟩:=q;simp only[List.map_cons,List.nodup_cons,List.mem_cons,not_or] at hn;have hne:¬c=b:=hn.1.1;simp only[aR,cN]
  by_cases h1:a=b
  ·subst h1;have h2:¬a=c:=λe=>hne e.symm
   simp[h2,hne]
  ·by_cases h2:a=c<;>simp[h1,h2,hne]
 | trans h1 _ ih1 ih2=>
  intro hn;obtain⟨a1,a2⟩:=ih1 hn;obtain⟨b1,b2⟩:=ih2 ((h1.map _).nodup_iff.1 hn);exact⟨a1.trans b1,a2.trans b2⟩
def D.isFc:D->Bool
 | .fc .. =>true
 |_=>false
def D.fid:D->FuncId
 | .fc _ f _=>f
 |_=>0
def D.fargs(x:D)(args:List AV):List AV:=match x with
 | .fc m _ xs=>bif m then xs.map .d++args else args++xs.map .d
 |_=>args
structure pV[Mode](P:Program)(x:D)(args:List AV)(objs:List MO)(Q:AV->List MO->Prop):Prop where
 f:x.isFc=true
 e:∀args w,(callFunc x.fid args).run P w=.ok (.enter x.fid args) w
 c:bI P x.fid (x.fargs args) objs Q
theorem sY[Mode]{P:Program}{f:FuncId}{args args':List AV}{objs:List MO}{Q:AV->List MO->Prop}(hb:BVs [] args args')(h:bI P f args' objs Q):bI P f args objs Q:=
 λA w vs h1 h2 h3=>h A w vs h1 h2 (hb.sound (λm hm=>by simp at hm) (λ_ _ h=>h) (λm hm=>by simp at hm) h3)
section
variable{P:Program}{n d:Nat}{st:St}
theorem aGs[Mode]{t:Nat}{x:D}{l:List Operand}{args:List AV}{Q:AV->List MO->Prop}{passed rest:List MO}{ts:Array TypeId}{ty:TypeId}{pos:String}{af:Array Edge}{gd:Option (Nat×Bool)}(hd:d<n)
  (ht:st.env t=.d x)(ho:st.objs=passed++rest)(ha:st.evals l=args)(hok:iE l=true)(h:pV P x args passed Q):
  Step P n ⟨some d,.call {callee:=.value (.tmp t),args:=l.toArray,argTypes:=ts},ty,pos,af,gd⟩ st (λs=>∃r objs',Q r objs'/\s=⟨upd st.env d r,objs'++rest⟩):=by
 cases x with
 |fc m f xs=>exact gM hd ho (.fc t f m xs l h.e ht) (by subst ha;rfl) hok h.c
 |_=>exact absurd h.f (by simp[D.isFc])
theorem aEt[Mode]{t kt et:TypeId}{es E:List (Str×List D)}{z g:List D}{b:Bool}{zv:Value}{a:Str}{x y:Operand}{ty:TypeId}{pos:String}{af:Array Edge}{gd:Option (Nat×Bool)}(hd:d<n)
  (hk:oV P kt sv)(ht:P.underlying t=some (.map kt et))(hz:∀w,(zeroValue et).run P w=.ok zv w)(hzv:∀w X,VR w X (.agg z) zv)(hp:es.Perm E)(hn:(E.map (·.1)).Nodup)
  (hx:st.eval x=.d (.mp true (es.map λp=>(sv p.1,p.2))))(hxk:cJ x=true)(hyk:cJ y=true)(hy:st.eval y=.d (.lit (sv a)))(hg:aR a z E=g)(hh:cN a E=b):
  aY P n ⟨some d,.lookup t x y true,ty,pos,af,gd⟩ st (st.set d (.tup [.agg g,.d (.lit (.bool b))])):=by
 obtain⟨h1,h2⟩:=bIf a z hp ((hp.map _).nodup_iff.2 hn);have h:=vE (n:=n) (d:=d) (st:=st) (enc:=id) (agg:=true) (ty:=ty) (pos:=pos) (af:=af) (gd:=gd) hd hk ht hz hzv hx hxk hyk hy (cC a);rw[h1,h2,hg,hh] at h;exact h
end
end Go.Am
end
