/- The program logic 'Am': frozen data, owned objects, states, triples. -/
import Derived.Laws.AppendOwn
import Derived.Laws.Cells
import Derived.Tactics
import Derived.Orders
import Derived.Below
import Derived.OrdersIn
import Derived.TacticsIn
import Derived.RangeFuncLeaves
import Derived.RangeFuncRecord
namespace Go.Am
abbrev bH:=Nat->Nat->Prop
inductive D where
 |lit (v:Value)
 |sl (k:Nat) (rows:List (List D))
 |sn (k:Nat) (rows:List (List D)) -- a slice that is not nil
 |mp (agg:Bool) (es:List (Value×List D)) -- a map
 |pt (xs:List D) -- a pointer to cells
 |hv (q h j:Nat) -- a handle: nothing that the machine holds
inductive DR(w:World)(X:bH):D->Value->Prop where
 |lit (v:Value) (h:v.oneCell'=true):DR w X (.lit v) v
 |nil (k:Nat):DR w X (.sl k []) (.slice none 0 0)
 |e0 (k:Nat) (a:Addr):DR w X (.sl k []) (.slice (some a) 0 0)
 |e1 (k:Nat) (a:Addr):DR w X (.sn k []) (.slice (some a) 0 0)
 | sl (k:Nat) (rows:List (List D)) (b o cap:Nat) (f:Nat->Nat->Value)
   (hk:∀r∈rows,r.length=k) (hcap:rows.length<=cap) (hmax:cap<=maxLen)
   (hc:∀i j,i<rows.length->j<k->w.cell? ⟨b,o+(i*k+j),none⟩=some (f i j)/\¬X b (o+(i*k+j)))
   (hr:∀i j,i<rows.length->j<k->DR w X ((rows.getD i []).getD j (.lit undef)) (f i j)):
   DR w X (.sl k rows) (.slice (some ⟨b,o,none⟩) rows.length cap)
 | sn (k:Nat) (rows:List (List D)) (b o cap:Nat) (f:Nat->Nat->Value)
   (hk:∀r∈rows,r.length=k) (hcap:rows.length<=cap) (hmax:cap<=maxLen)
   (hc:∀i j,i<rows.length->j<k->w.cell? ⟨b,o+(i*k+j),none⟩=some (f i j)/\¬X b (o+(i*k+j)))
   (hr:∀i j,i<rows.length->j<k->DR w X ((rows.getD i []).getD j (.lit undef)) (f i j)):
   DR w X (.sn k rows) (.slice (some ⟨b,o,none⟩) rows.length cap)
 | mp (agg:Bool) (es:List (Value×List D)) (r clock:Nat) (ms:Array MapEntry) (f:Nat->Nat->Value)
   (hb:w.heap[r]?=some (.map ms clock)) (hx:∀o,¬X r o) (hk:ms.toList.map (·.key)=es.map (·.1)) (hp:(ms.toList.map (·.born)).Pairwise (·<·)) (hc:∀b∈ms.toList.map (·.born),b<clock)
   (hv:∀(i:Nat) (m:MapEntry) (e:Value×List D),ms.toList[i]?=some m->es[i]?=some e->m.val=bif agg then .agg ((List.range e.2.length).map (f i)).toArray else f i 0)
   (h1:agg=false->∀e∈es,e.2.length=1)
   (hr:∀(i j:Nat) (e:Value×List D) (d:D),es[i]?=some e->e.2[j]?=some d->DR w X d (f i j)):DR w X (.mp agg es) (.map (some r))
 |pt (xs:List D) (b o:Nat) (f:Nat->Value) (hc:∀j,j<xs.length->w.cell? ⟨b,o+j,none⟩=some (f j)/\¬X b (o+j)) (hr:∀(j:Nat) (d:D),xs[j]?=some d->DR w X d (f j)):DR w X (.pt xs) (.pointer (some ⟨b,o,none⟩))
theorem DR.weak{w:World}{X:bH}{k:Nat}{rows:List (List D)}{v:Value}(h:DR w X (.sn k rows) v):DR w X (.sl k rows) v:=by
 cases h with
 |e1 k a=>exact .e0 k a
 |sn _ _ b o cap f hk hcap hmax hc hr=>exact .sl k rows b o cap f hk hcap hmax hc hr
theorem DR.strong{w:World}{X:bH}{k:Nat}{rows:List (List D)}{v:Value}(h:DR w X (.sl k rows) v)(hn:v≠.slice none 0 0):DR w X (.sn k rows) v:=by
 cases h with
 |nil=>exact absurd rfl hn
 |e0 k a=>exact .e1 k a
 |sl _ _ b o cap f hk hcap hmax hc hr=>exact .sn k rows b o cap f hk hcap hmax hc hr
theorem DR.oneCell{w:World}{X:bH}{d:D}{v:Value}(h:DR w X d v):v.oneCell'=true:=by
 cases h with
 |lit v h=>exact h
 |nil k=>rfl
 |e0=>rfl
 |e1=>rfl
 |sl=>rfl
 |sn=>rfl
 |mp=>rfl
 |pt=>rfl
def cellsAt(w:World)(b o:Nat)(vs:List Value):Prop:=∀j v,vs[j]?=some v->w.cell? ⟨b,o+j,none⟩=some v
def DRs(w:World)(X:bH):List D->List Value->Prop
 |[],[]=>True
 |d::ds,v::vs=>DR w X d v/\DRs w X ds vs
 |_,_=>False
structure Mono(w:World)(X:bH)(w':World)(X':bH):Prop where
 cell:∀b o v,w.cell? ⟨b,o,none⟩=some v->¬X b o->w'.cell? ⟨b,o,none⟩=some v/\¬X' b o
 map:∀r ms c,w.heap[r]?=some (.map ms c)->(∀o,¬X r o)->w'.heap[r]?=some (.map ms c)/\∀o,¬X' r o
theorem Mono.sub{w:World}{X X':bH}(h:∀b o,X' b o->X b o):Mono w X w X':=⟨λ_ _ _ hc hx=>⟨hc,λh'=>hx (h _ _ h')⟩,λ_ _ _ hc hx=>⟨hc,λo h'=>hx o (h _ _ h')⟩⟩
theorem Mono.trans{a b c:World}{X Y Z:bH}(h:Mono a X b Y)(k:Mono b Y c Z):Mono a X c Z:=
 ⟨λx o v hc hx=>let⟨h1,h2⟩:=h.cell x o v hc hx;k.cell x o v h1 h2,λr ms q hr hx=>let⟨h1,h2⟩:=h.map r ms q hr hx;k.map r ms q h1 h2⟩
theorem Mono.refl(w:World)(X:bH):Mono w X w X:=Mono.sub λ_ _ h=>h
section mono
variable{w w':World}{X X':bH}
theorem DR.mono(hm:Mono w X w' X'){d:D}{v:Value}(h:DR w X d v):DR w' X' d v:=by
 induction h with
 |lit v h=>exact .lit v h
 |nil k=>exact .nil k
 |e0 k a=>exact .e0 k a
 |e1 k a=>exact .e1 k a
 | sl k rows b o cap f hk hcap hmax hc _ ih=>
  exact .sl k rows b o cap f hk hcap hmax (λi j hi hj=>hm.cell _ _ _ (hc i j hi hj).1 (hc i j hi hj).2) ih
 | sn k rows b o cap f hk hcap hmax hc _ ih=>
  exact .sn k rows b o cap f hk hcap hmax (λi j hi hj=>hm.cell _ _ _ (hc i j hi hj).1 (hc i j hi hj).2) ih
 | mp agg es r clock ms f hb hx hk hp hc hv h1 _ ih=>
  exact .mp agg es r clock ms f (hm.map _ _ _ hb hx).1 (hm.map _ _ _ hb hx).2 hk hp hc hv h1 ih
 |pt xs b o f hc _ ih=>exact .pt xs b o f (λj hj=>hm.cell _ _ _ (hc j hj).1 (hc j hj).2) ih
theorem DRs.mono(hm:Mono w X w' X'):∀{ds:List D} {vs:List Value},DRs w X ds vs->DRs w' X' ds vs
 |[],[],_=>trivial
 |_::_,_::_,h=>⟨h.1.mono hm,DRs.mono hm h.2⟩
theorem DRs.length:∀{ds:List D} {vs:List Value},DRs w X ds vs->vs.length=ds.length
 |[],[],_=>rfl
 |_::_,_::_,h=>by simp[DRs.length h.2]
theorem DRs.get:∀{ds:List D} {vs:List Value},DRs w X ds vs->∀{j:Nat} {d:D},ds[j]?=some d->∃v,vs[j]?=some v/\DR w X d v
 |[],[],_,j,d,h=>by simp at h
 |d0::ds,v0::vs,h,0,d,hj=>by simp at hj;subst hj;exact⟨v0,rfl,h.1⟩
 |d0::ds,v0::vs,h,j+1,d,hj=>by simpa using DRs.get h.2 (j:=j) (by simpa using hj)
theorem DRs.getV:∀{ds:List D} {vs:List Value},DRs w X ds vs->∀{j:Nat} {v:Value},vs[j]?=some v->∃d,ds[j]?=some d/\DR w X d v
 |[],[],_,j,d,h=>by simp at h
 |d0::ds,v0::vs,h,0,d,hj=>by simp at hj;subst hj;exact⟨d0,rfl,h.1⟩
 |d0::ds,v0::vs,h,j+1,d,hj=>by simpa using DRs.getV h.2 (j:=j) (by simpa using hj)
theorem DRs.of:∀{ds:List D} {vs:List Value},vs.length=ds.length->(∀(j:Nat) (d:D) (v:Value),ds[j]?=some d->vs[j]?=some v->DR w X d v)->DRs w X ds vs
 |[],[],_,_=>trivial
 |d::ds,v::vs,hl,h=>⟨h 0 d v rfl rfl,DRs.of (by simpa using hl) λj d v hd hv=>h (j+1) d v (by simpa using hd) (by simpa using hv)⟩
 |[],_::_,hl,_=>by simp at hl
 |_::_,[],hl,_=>by simp at hl
theorem DRs.append{ds ds':List D}{vs vs':List Value}(h:DRs w X ds vs)(h':DRs w X ds' vs'):DRs w X (ds++ds') (vs++vs'):=by
 induction ds generalizing vs with
 | nil=>cases vs with
  |nil=>exact h'
  |cons v vs=>exact h.elim
 | cons d ds ih=>cases vs with
  |nil=>exact h.elim
  |cons v vs=>exact⟨h.1,ih h.2⟩
theorem DRs.take{ds:List D}{vs:List Value}(h:DRs w X ds vs)(n:Nat):DRs w X (ds.take n) (vs.take n):=by
 induction ds generalizing vs n with
 | nil=>cases vs with
  |nil=>simpa using h
  |cons v vs=>exact h.elim
 | cons d ds ih=>cases vs with
  |nil=>exact h.elim
  | cons v vs=>cases n with
   |zero=>exact trivial
   |succ n=>exact⟨h.1,ih h.2 n⟩
theorem DRs.drop{ds:List D}{vs:List Value}(h:DRs w X ds vs)(n:Nat):DRs w X (ds.drop n) (vs.drop n):=by
 induction ds generalizing vs n with
 | nil=>cases vs with
  |nil=>simpa using h
  |cons v vs=>exact h.elim
 | cons d ds ih=>cases vs with
  |nil=>exact h.elim
  | cons v vs=>cases n with
   |zero=>exact h
   |succ n=>exact ih h.2 n
theorem DRs.set{ds:List D}{vs:List Value}(h:DRs w X ds vs)(n:Nat){d:D}{v:Value}(hd:DR w X d v):DRs w X (ds.set n d) (vs.set n v):=by
 induction ds generalizing vs n with
 | nil=>cases vs with
  |nil=>exact trivial
  |cons v vs=>exact h.elim
 | cons d ds ih=>cases vs with
  |nil=>exact h.elim
  | cons v vs=>cases n with
   |zero=>exact⟨hd,h.2⟩
   |succ n=>exact⟨h.1,ih h.2 n⟩
theorem DRs.oneCell{ds:List D}{vs:List Value}(h:DRs w X ds vs):∀v∈vs,v.oneCell'=true:=by
 intro v hv;obtain⟨j,hj⟩:=List.getElem?_of_mem hv;obtain⟨d,_,hd⟩:=h.getV hj;exact hd.oneCell
theorem cellsAt.drop{b o:Nat}{vs:List Value}(h:cellsAt w b o vs)(n:Nat):cellsAt w b (o+n) (vs.drop n):=by
 intro j v hj;rw[List.getElem?_drop] at hj;rw[Nat.add_assoc];exact h _ _ hj
theorem cellsAt.take{b o:Nat}{vs:List Value}(h:cellsAt w b o vs)(n:Nat):cellsAt w b o (vs.take n):=by
 intro j v hj;rw[List.getElem?_take] at hj;split at hj
 ·exact h _ _ hj
 ·cases hj
end mono
inductive AV where
 |any
 |d (x:D)
 |agg (xs:List D)
 |cp (xs:List D)
 |bp (b o j:Nat)
 |ep (v:Value) (k i c:Nat)
 |tup (vs:List AV)
 |fn (f:FuncId) (caps:List AV)
 |mf (f:FuncId) (bound:List AV) -- a method with its receiver
 |fl (nn:Bool) (k:Nat) (rows:List (List D)) -- a frozen slice without room behind it
inductive VR(w:World)(X:bH):AV->Value->Prop where
 |any (v:Value):VR w X .any v
 |d {x:D} {v:Value} (h:DR w X x v):VR w X (.d x) v
 |agg {xs:List D} {cs:Array Value} (h:DRs w X xs cs.toList):VR w X (.agg xs) (.agg cs)
 | cp {xs:List D} {vs:List Value} (b o:Nat) (h:DRs w X xs vs) (hc:cellsAt w b o vs) (hx:∀j,j<xs.length->¬X b (o+j)):
   VR w X (.cp xs) (.pointer (some ⟨b,o,none⟩))
 |bp (b o j:Nat):VR w X (.bp b o j) (.pointer (some ⟨b,o+j,none⟩))
 |ep (g n q k i c:Nat):VR w X (.ep (.slice (some ⟨g,0,none⟩) n q) k i c) (.pointer (some ⟨g,i*k+c,none⟩))
 | tup {vs:List AV} {us:List Value} (hl:us.length=vs.length) (h:∀i,i<vs.length->VR w X (vs.getD i .any) (us.getD i undef)):
   VR w X (.tup vs) (.tuple us.toArray)
 | fn {f:FuncId} {caps:List AV} {us:List Value} (hl:us.length=caps.length) (h:∀i,i<caps.length->VR w X (caps.getD i .any) (us.getD i undef)):
   VR w X (.fn f caps) (.func (.func f) #[] us.toArray)
 | mf {f:FuncId} {bound:List AV} {us:List Value} (hl:us.length=bound.length) (h:∀i,i<bound.length->VR w X (bound.getD i .any) (us.getD i undef)):
   VR w X (.mf f bound) (.func (.func f) us.toArray #[])
 |fl {nn:Bool} {k:Nat} {rows:List (List D)} {v:Value} (h:DR w X (.sl k rows) v) (hc:v=.slice none 0 0\/∃a n,v=.slice (some a) n n) (hn:nn=true->v≠.slice none 0 0):VR w X (.fl nn k rows) v
theorem VR.mono{w w':World}{X X':bH}(hm:Mono w X w' X'){x:AV}{v:Value}(h:VR w X x v):VR w' X' x v:=by
 induction h with
 |any v=>exact .any v
 |d h=>exact .d (h.mono hm)
 |agg h=>exact .agg (h.mono hm)
 | cp b o h hc hx=>
  refine .cp b o (h.mono hm) (λj v hj=>?_) (λj hj=>?_)
  ·have hlt:j<_:=(List.getElem?_eq_some_iff.1 hj).1;exact(hm.cell _ _ _ (hc j v hj) (hx j (by rw[<-h.length];exact hlt))).1
  ·have hlt:=hj;rw[<-h.length] at hlt;exact(hm.cell _ _ _ (hc j _ (List.getElem?_eq_getElem hlt)) (hx j hj)).2
 |bp b o j=>exact .bp b o j
 |ep g n q k i c=>exact .ep g n q k i c
 |tup hl _ ih=>exact .tup hl ih
 |fn hl _ ih=>exact .fn hl ih
 |mf hl _ ih=>exact .mf hl ih
 |fl h hc hn=>exact .fl (h.mono hm) hc hn
def VRs(w:World)(X:bH):List AV->List Value->Prop
 |[],[]=>True
 |x::xs,v::vs=>VR w X x v/\VRs w X xs vs
 |_,_=>False
theorem VRs.length{w:World}{X:bH}:∀{xs:List AV} {vs:List Value},VRs w X xs vs->vs.length=xs.length
 |[],[],_=>rfl
 |_::_,_::_,h=>by simp[VRs.length h.2]
theorem VRs.getD{w:World}{X:bH}:∀{xs:List AV} {vs:List Value},VRs w X xs vs->∀i,VR w X (xs.getD i .any) (vs.getD i undef)
 |[],[],_,i=>by simp;exact .any _
 |x::xs,v::vs,h,0=>h.1
 |x::xs,v::vs,h,i+1=>by simpa using VRs.getD h.2 i
theorem VRs.mono{w w':World}{X X':bH}(hm:Mono w X w' X'):∀{xs:List AV} {vs:List Value},VRs w X xs vs->VRs w' X' xs vs
 |[],[],_=>trivial
 |_::_,_::_,h=>⟨h.1.mono hm,VRs.mono hm h.2⟩
theorem VRs.append{w:World}{X:bH}:∀{xs:List AV} {vs:List Value} {ys:List AV} {us:List Value},VRs w X xs vs->VRs w X ys us->VRs w X (xs++ys) (vs++us)
 |[],[],_,_,_,h=>h
 |_::_,_::_,_,_,h,h'=>⟨h.1,VRs.append h.2 h'⟩
inductive MO where
 |box (b o:Nat) (ds:List D)
 |arr (v:Value) (e k:Nat) (rows:List (List D))
 |map (r:Nat) (es:List (Value×AV)) (bs:List Nat) (clock:Nat)
 |iter (r m since:Nat) (seen:List Nat) (last:Nat) -- where a range over a map stands
 |fam (e k:Nat) (vs:List Value) (rss:List (List (List D))) -- a family of growable slices
 |ext (F:bH) (H:World->bH->Prop) -- what another call holds meanwhile
def MO.foot:MO->bH
 | .box b o ds=>λx y=>x=b/\o<=y/\y<o+ds.length
 | .arr v _ _ _=>λx _=>v.ownBlock=some x
 | .map r _ _ _=>λx _=>x=r
 | .iter r _ _ _ _=>λx _=>x=r
 | .fam _ _ vs _=>λx _=>∃v∈vs,v.ownBlock=some x
 | .ext F _=>F
def MRs(w:World)(X:bH):List (Value×AV)->List MapEntry->Prop
 |[],[]=>True
 |(k,x)::es,m::ms=>m.key=k/\VR w X x m.val/\MRs w X es ms
 |_,_=>False
theorem MRs.mono{w w':World}{X X':bH}(hm:Mono w X w' X'):∀{es:List (Value×AV)} {ms:List MapEntry},MRs w X es ms->MRs w' X' es ms
 |[],[],_=>trivial
 |(_,_)::_,_::_,h=>⟨h.1,h.2.1.mono hm,MRs.mono hm h.2.2⟩
def aLg(w:World)(X:bH)(v:Value)(e k:Nat)(rows:List (List D)):Prop:=
 ∃xs,DRs w X rows.flatten xs/\w.ownsRow 0 e k v rows.length xs/\∀r∈rows,r.length=k
def bYa(vs:List Value):Prop:=vs.Pairwise λa b=>∀x,a.ownBlock=some x->b.ownBlock≠some x
structure Keeps(M:bH)(w w':World):Prop where
 os:w'.os=w.os
 tape:w'.tape=w.tape
 output:w'.output=w.output
 size:w.heap.size<=w'.heap.size
 block:∀b,b<w.heap.size->(∀o,¬M b o)->w'.heap[b]?=w.heap[b]?
 cell:∀b o,b<w.heap.size->¬M b o->w'.cell? ⟨b,o,none⟩=w.cell? ⟨b,o,none⟩
 frz:∀b o,b<w.heap.size->¬M b o->w'.frozen? ⟨b,o,none⟩=w.frozen? ⟨b,o,none⟩
 drawn:w.drawn<=w'.drawn
def MO.holds(w:World)(X:bH):MO->Prop
 | .box b o ds=>∃vs,DRs w X ds vs/\cellsAt w b o vs/\∀j,j<ds.length->w.frozen? ⟨b,o+j,none⟩=false
 | .arr v e k rows=>∃xs,DRs w X rows.flatten xs/\w.ownsRow 0 e k v rows.length xs/\∀r∈rows,r.length=k
 | .map r es bs clock=>∃ms,w.heap[r]?=some (.map ms clock)/\MRs w X es ms.toList/\ms.toList.map (·.born)=bs/\bs.Pairwise (·<·)/\∀b∈bs,b<clock
 | .iter r m since seen last=>w.heap[r]?=some (.mapIter (some m) since seen.toArray last)
 | .fam e k vs rss=>vs.length=rss.length/\bYa vs/\∀(i:Nat) (v:Value) (rows:List (List D)),vs[i]?=some v->rss[i]?=some rows->aLg w X v e k rows
 | .ext F H=>(∀b o,F b o->b<w.heap.size)/\∀(w':World) (X':bH),Mono w X w' X'->Keeps (λb o=>¬F b o) w w'->H w' X'
def fC(objs:List MO):bH:=λb o=>∃m∈objs,m.foot b o
def bF(A:bH)(objs:List MO):bH:=λb o=>A b o\/fC objs b o
theorem Keeps.refl(M:bH)(w:World):Keeps M w w:=
 ⟨rfl,rfl,rfl,Nat.le_refl _,λ_ _ _=>rfl,λ_ _ _ _=>rfl,λ_ _ _ _=>rfl,Nat.le_refl _⟩
theorem Keeps.trans{M:bH}{a b c:World}(h:Keeps M a b)(k:Keeps M b c):Keeps M a c:=
  ⟨k.os.trans h.os,k.tape.trans h.tape,k.output.trans h.output,Nat.le_trans h.size k.size,
   λi hi hm=>(k.block i (Nat.lt_of_lt_of_le hi h.size) hm).trans (h.block i hi hm),
   λi o hi hm=>(k.cell i o (Nat.lt_of_lt_of_le hi h.size) hm).trans (h.cell i o hi hm),
   λi o hi hm=>(k.frz i o (Nat.lt_of_lt_of_le hi h.size) hm).trans (h.frz i o hi hm),Nat.le_trans h.drawn k.drawn⟩
theorem Keeps.weaken{M Z:bH}{w0 w w':World}(h:Keeps M w0 w)(k:Keeps Z w w')(hz:∀b o,Z b o->M b o\/w0.heap.size<=b):Keeps M w0 w':=
  ⟨k.os.trans h.os,k.tape.trans h.tape,k.output.trans h.output,Nat.le_trans h.size k.size,
   fun i hi hm=>(k.block i (Nat.lt_of_lt_of_le hi h.size) λo hzo=>by
      rcases hz i o hzo with h1|h1
      · exact hm o h1
      · omega).trans (h.block i hi hm),
   fun i o hi hm=>(k.cell i o (Nat.lt_of_lt_of_le hi h.size) λhzo=>by
      rcases hz i o hzo with h1|h1
      · exact hm h1
      · omega).trans (h.cell i o hi hm),
   fun i o hi hm=>(k.frz i o (Nat.lt_of_lt_of_le hi h.size) λhzo=>by
      rcases hz i o hzo with h1|h1
      · exact hm h1
      · omega).trans (h.frz i o hi hm),Nat.le_trans h.drawn k.drawn⟩
theorem Keeps.mono{M M':bH}{w w':World}(h:Keeps M w w')(hm:∀b o,M b o->M' b o):Keeps M' w w':=
 ⟨h.os,h.tape,h.output,h.size,λb hb h'=>h.block b hb λo ho=>h' o (hm _ _ ho),λb o hb h'=>h.cell b o hb λho=>h' (hm _ _ ho),λb o hb h'=>h.frz b o hb λho=>h' (hm _ _ ho),h.drawn⟩
def Sep(objs:List MO):Prop:=objs.Pairwise λm m'=>∀b o,m.foot b o->¬m'.foot b o
structure Inv(w:World)(A:bH)(objs:List MO):Prop where
 sep:Sep objs
 apart:∀m∈objs,∀b o,m.foot b o->¬A b o
 holds:∀m∈objs,m.holds w (bF A objs)
theorem oK{w:World}{X:bH}{m:MO}(h:m.holds w X){b o:Nat}(hf:m.foot b o):b<w.heap.size:=by
 cases m with
 | box b' o' ds=>
  obtain⟨vs,hd,hc,_⟩:=h;obtain⟨rfl,h1,h2⟩:=hf;have hlt:o-o'<vs.length:=by rw[hd.length];omega
  have:=hc (o-o') _ (List.getElem?_eq_getElem hlt);exact block_lt_of_cell this
 | arr v e k rows=>
  obtain⟨xs,_,hown,_⟩:=h;exact(hown.lt b hf).2
 | map r es bs clock=>
  obtain⟨ms,hh,_⟩:=h;cases hf;exact(Array.getElem?_eq_some_iff.1 hh).1
 | iter r m since seen last=>
  cases hf;exact(Array.getElem?_eq_some_iff.1 h).1
 | fam e k vs rss=>
  obtain⟨hl,_,hh⟩:=h;obtain⟨v,hv,hb⟩:=hf;obtain⟨i,hi,rfl⟩:=List.getElem_of_mem hv;obtain⟨xs,_,hown,_⟩:=hh i vs[i] (rss[i]'(by omega)) (List.getElem?_eq_getElem hi) (List.getElem?_eq_getElem (by omega));exact(hown.lt b hb).2
 |ext F H=>exact h.1 _ _ hf
theorem aNj{w w':World}{X X' Z:bH}{v:Value}{e k:Nat}{rows:List (List D)}(h:aLg w X v e k rows)(hk:Keeps Z w w')(hz:∀b o,v.ownBlock=some b->¬Z b o)(hm:Mono w X w' X'):aLg w' X' v e k rows:=by
 obtain⟨xs,hd,hown,hr⟩:=h;refine⟨xs,hd.mono hm,⟨hown.1,?_⟩,hr⟩
 rcases hown.2 with hn|⟨g,cap,cur,rfl,hb,hg,rest⟩
 ·exact .inl hn
 ·refine .inr ⟨g,cap,cur,rfl,hb,?_,rest⟩;rw[hk.block g (Array.getElem?_eq_some_iff.1 hg).1 λo=>hz g o rfl];exact hg
theorem bY{w w':World}{X X' Z:bH}{m:MO}(h:m.holds w X)(hk:Keeps Z w w')(hz:∀b o,m.foot b o->¬Z b o)(hm:Mono w X w' X'):m.holds w' X':=by
 cases m with
 | box b o ds=>
  have hlt:=λy hy=>oK (o:=y) h (b:=b) hy;obtain⟨vs,hd,hc,hf⟩:=h;refine⟨vs,hd.mono hm,λj v hj=>?_,λj hj=>?_⟩
  ·have hj':j<ds.length:=by rw[<-hd.length];exact(List.getElem?_eq_some_iff.1 hj).1
   rw[hk.cell b (o+j) (hlt (o+j) ⟨rfl,by omega,by omega⟩) (hz _ _ ⟨rfl,by omega,by omega⟩)];exact hc j v hj
  ·rw[hk.frz _ _ (hlt (o+j) ⟨rfl,by omega,by omega⟩) (hz _ _ ⟨rfl,by omega,by omega⟩)];exact hf j hj
 |arr v e k rows=>exact aNj h hk (λb o hb=>hz b o hb) hm
 | map r es bs clock=>
  obtain⟨ms,hh,hms,hb⟩:=h;refine⟨ms,?_,hms.mono hm,hb⟩;rw[hk.block r (Array.getElem?_eq_some_iff.1 hh).1 λo=>hz r o rfl];exact hh
 | iter r m since seen last=>
  refine Eq.trans (hk.block r (Array.getElem?_eq_some_iff.1 h).1 λo=>hz r o rfl) h
 | fam e k vs rss=>
  obtain⟨hl,hs,hh⟩:=h;exact⟨hl,hs,λi v rows hv hr=>aNj (hh i v rows hv hr) hk (λb o hb=>hz b o ⟨v,List.mem_of_getElem? hv,hb⟩) hm⟩
 | ext F H=>
  exact⟨λb o hf=>Nat.lt_of_lt_of_le (h.1 b o hf) hk.size,λw2 X2 hm2 hk2=>h.2 w2 X2 (hm.trans hm2) ((hk.mono λb o hzb hf=>hz b o hf hzb).trans hk2)⟩
end Go.Am
