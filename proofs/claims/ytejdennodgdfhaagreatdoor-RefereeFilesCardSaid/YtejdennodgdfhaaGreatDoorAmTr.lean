/- Several texts, one behind the other. -/
import Derived.Laws.Cells
import Derived.Laws.AppendOwn
import Derived.Tactics
import Derived.Orders
import Derived.Below
import Derived.OrdersIn
import Derived.TacticsIn
import Derived.RangeFuncLeaves
import Derived.RangeFuncRecord
section
section
namespace Go.Am
class Mode where
 dr:Prop
def bUh:List (Nat×Array Value):=[(3,((List.range 20).map λi=>Value.int .u64 ((10^i:Nat):Int)).toArray)]
def bUg:List Nat:=[0]
def Amb(w:World)(X:Nat->Nat->Prop):Prop:=
 (∀p∈bUh,∃e f,w.heap[p.1]?=some (.cells p.2 e f)/\∀o,¬X p.1 o)/\∀b∈bUg,∃(m:Int) (e:TypeId) (f:Nat×Nat),w.heap[b]?=some (.cells #[.int .i64 m] e f)/\∀o,¬X b o
theorem Amb.mono{w w':World}{X X':Nat->Nat->Prop}(h:Amb w X)(hm:∀r c e f,w.heap[r]?=some (.cells c e f)->(∀o,¬X r o)->w'.heap[r]?=some (.cells c e f)/\∀o,¬X' r o):Amb w' X':=
 ⟨λp hp=>let⟨e,f,h1,h2⟩:=h.1 p hp;⟨e,f,hm _ _ _ _ h1 h2⟩,λb hb=>let⟨m,e,f,h1,h2⟩:=h.2 b hb;⟨m,e,f,hm _ _ _ _ h1 h2⟩⟩
end Go.Am
end
section
namespace Go.Am
abbrev bE:=Nat->Nat->Prop
inductive D where
 |lit (v:Value)
 |sl (k:Nat) (rows:List (List D))
 |sn (k:Nat) (rows:List (List D)) -- a slice that is not nil
 |mp (agg:Bool) (es:List (Value×List D)) -- a map
 |pt (xs:List D) -- a pointer to cells
 |fc (m:Bool) (f:FuncId) (xs:List D) -- a function with what it holds: its receiver (m), or pointers to variables
 |hv (q h j:Nat) -- a handle: nothing that the machine holds
inductive DR(w:World)(X:bE):D->Value->Prop where
 |lit (v:Value) (h:v.oneCell'=true):DR w X (.lit v) v
 |nil (k:Nat):DR w X (.sl k []) (.slice none 0 0)
 |e0 (k:Nat) (a:Addr):DR w X (.sl k []) (.slice (some a) 0 0)
 |e1 (k:Nat) (a:Addr):DR w X (.sn k []) (.slice (some a) 0 0)
 | sl (k:Nat) (rows:List (List D)) (b o cap:Nat) (f:Nat->Nat->Value)
   (hk:∀r∈rows,r.length=k) (hcap:rows.length<=cap) (hmax:cap<=maxLen)
   (hc:∀i j,i<rows.length->j<k->w.cell? ⟨b,o+(i*k+j),none⟩=some (f i j)/\¬X b (o+(i*k+j)))
   (hr:∀i j,i<rows.length->j<k->DR w X ((rows.getD i []).getD j (.lit undef)) (f i j)):
   DR w X (.sl k rows) (.slice (some ⟨b,o,none⟩) rows.length cap)
 | sn (k:Nat) (rows:List (List D)) (b o cap:Nat) (f:Nat->Nat->Value)
   (hk:∀r∈rows,r.length=k) (hcap:rows.length<=cap) (hmax:cap<=maxLen)
   (hc:∀i j,i<rows.length->j<k->w.cell? ⟨b,o+(i*k+j),none⟩=some (f i j)/\¬X b (o+(i*k+j)))
   (hr:∀i j,i<rows.length->j<k->DR w X ((rows.getD i []).getD j (.lit undef)) (f i j)):
   DR w X (.sn k rows) (.slice (some ⟨b,o,none⟩) rows.length cap)
 | mp (agg:Bool) (es:List (Value×List D)) (r clock:Nat) (ms:Array MapEntry) (f:Nat->Nat->Value)
   (hb:w.heap[r]?=some (.map ms clock)) (hx:∀o,¬X r o) (hk:ms.toList.map (·.key)=es.map (·.1)) (hp:(ms.toList.map (·.born)).Pairwise (·<·)) (hc:∀b∈ms.toList.map (·.born),b<clock)
   (hv:∀(i:Nat) (m:MapEntry) (e:Value×List D),ms.toList[i]?=some m->es[i]?=some e->m.val=bif agg then .agg ((List.range e.2.length).map (f i)).toArray else f i 0)
   (h1:agg=false->∀e∈es,e.2.length=1)
   (hr:∀(i j:Nat) (e:Value×List D) (d:D),es[i]?=some e->e.2[j]?=some d->DR w X d (f i j)):DR w X (.mp agg es) (.map (some r))
 |pt (xs:List D) (b o:Nat) (f:Nat->Value) (hc:∀j,j<xs.length->w.cell? ⟨b,o+j,none⟩=some (f j)/\¬X b (o+j)) (hr:∀(j:Nat) (d:D),xs[j]?=some d->DR w X d (f j)):DR w X (.pt xs) (.pointer (some ⟨b,o,none⟩))
 | fc (m:Bool) (f:FuncId) (xs:List D) (us:List Value) (hl:us.length=xs.length) (hr:∀(j:Nat) (d:D),xs[j]?=some d->DR w X d (us.getD j undef)):
   DR w X (.fc m f xs) (.func (.func f) (bif m then us.toArray else #[]) (bif m then #[] else us.toArray))
theorem DR.weak{w:World}{X:bE}{k:Nat}{rows:List (List D)}{v:Value}(h:DR w X (.sn k rows) v):DR w X (.sl k rows) v:=by
 cases h with
 |e1 k a=>exact .e0 k a
 |sn _ _ b o cap f hk hcap hmax hc hr=>exact .sl k rows b o cap f hk hcap hmax hc hr
theorem DR.strong{w:World}{X:bE}{k:Nat}{rows:List (List D)}{v:Value}(h:DR w X (.sl k rows) v)(hn:v≠.slice none 0 0):DR w X (.sn k rows) v:=by
 cases h with
 |nil=>exact absurd rfl hn
 |e0 k a=>exact .e1 k a
 |sl _ _ b o cap f hk hcap hmax hc hr=>exact .sn k rows b o cap f hk hcap hmax hc hr
theorem DR.oneCell{w:World}{X:bE}{d:D}{v:Value}(h:DR w X d v):v.oneCell'=true:=by
 cases h with
 |lit v h=>exact h
 |nil k=>rfl
 |e0=>rfl
 |e1=>rfl
 |sl=>rfl
 |sn=>rfl
 |mp=>rfl
 |pt=>rfl
 |fc=>rfl
def cellsAt(w:World)(b o:Nat)(vs:List Value):Prop:=∀j v,vs[j]?=some v->w.cell? ⟨b,o+j,none⟩=some v
def DRs(w:World)(X:bE):List D->List Value->Prop
 |[],[]=>True
 |d::ds,v::vs=>DR w X d v/\DRs w X ds vs
 |_,_=>False
structure Mono(w:World)(X:bE)(w':World)(X':bE):Prop where
 cell:∀b o v,w.cell? ⟨b,o,none⟩=some v->¬X b o->w'.cell? ⟨b,o,none⟩=some v/\¬X' b o
 map:∀r ms c,w.heap[r]?=some (.map ms c)->(∀o,¬X r o)->w'.heap[r]?=some (.map ms c)/\∀o,¬X' r o
 blk:∀r c e f,w.heap[r]?=some (.cells c e f)->(∀o,¬X r o)->w'.heap[r]?=some (.cells c e f)/\∀o,¬X' r o
theorem Mono.sub{w:World}{X X':bE}(h:∀b o,X' b o->X b o):Mono w X w X':=⟨λ_ _ _ hc hx=>⟨hc,λh'=>hx (h _ _ h')⟩,λ_ _ _ hc hx=>⟨hc,λo h'=>hx o (h _ _ h')⟩,λ_ _ _ _ hc hx=>⟨hc,λo h'=>hx o (h _ _ h')⟩⟩
theorem Mono.trans{a b c:World}{X Y Z:bE}(h:Mono a X b Y)(k:Mono b Y c Z):Mono a X c Z:=
 ⟨λx o v hc hx=>let⟨h1,h2⟩:=h.cell x o v hc hx;k.cell x o v h1 h2,λr ms q hr hx=>let⟨h1,h2⟩:=h.map r ms q hr hx;k.map r ms q h1 h2,λr c e f hr hx=>let⟨h1,h2⟩:=h.blk r c e f hr hx;k.blk r c e f h1 h2⟩
theorem Mono.refl(w:World)(X:bE):Mono w X w X:=Mono.sub λ_ _ h=>h
theorem Amb.on{w w':World}{X X':bE}(h:Amb w X)(hm:Mono w X w' X'):Amb w' X':=h.mono hm.blk
section mono
variable{w w':World}{X X':bE}
theorem DR.mono(hm:Mono w X w' X'){d:D}{v:Value}(h:DR w X d v):DR w' X' d v:=by
 induction h with
 |lit v h=>exact .lit v h
 |nil k=>exact .nil k
 |e0 k a=>exact .e0 k a
 |e1 k a=>exact .e1 k a
 | sl k rows b o cap f hk hcap hmax hc _ ih=>
  exact .sl k rows b o cap f hk hcap hmax (λi j hi hj=>hm.cell _ _ _ (hc i j hi hj).1 (hc i j hi hj).2) ih
 | sn k rows b o cap f hk hcap hmax hc _ ih=>
  exact .sn k rows b o cap f hk hcap hmax (λi j hi hj=>hm.cell _ _ _ (hc i j hi hj).1 (hc i j hi hj).2) ih
 | mp agg es r clock ms f hb hx hk hp hc hv h1 _ ih=>
  exact .mp agg es r clock ms f (hm.map _ _ _ hb hx).1 (hm.map _ _ _ hb hx).2 hk hp hc hv h1 ih
 |pt xs b o f hc _ ih=>exact .pt xs b o f (λj hj=>hm.cell _ _ _ (hc j hj).1 (hc j hj).2) ih
 |fc m f xs us hl _ ih=>exact .fc m f xs us hl ih
theorem DRs.mono(hm:Mono w X w' X'):∀{ds:List D} {vs:List Value},DRs w X ds vs->DRs w' X' ds vs
 |[],[],_=>trivial
 |_::_,_::_,h=>⟨h.1.mono hm,DRs.mono hm h.2⟩
theorem DRs.length:∀{ds:List D} {vs:List Value},DRs w X ds vs->vs.length=ds.length
 |[],[],_=>rfl
 |_::_,_::_,h=>by simp[DRs.length h.2]
theorem DRs.get:∀{ds:List D} {vs:List Value},DRs w X ds vs->∀{j:Nat} {d:D},ds[j]?=some d->∃v,vs[j]?=some v/\DR w X d v
 |[],[],_,j,d,h=>by simp at h
 |d0::ds,v0::vs,h,0,d,hj=>by simp at hj;subst hj;exact⟨v0,rfl,h.1⟩
 |d0::ds,v0::vs,h,j+1,d,hj=>by simpa using DRs.get h.2 (j:=j) (by simpa using hj)
theorem DRs.getV:∀{ds:List D} {vs:List Value},DRs w X ds vs->∀{j:Nat} {v:Value},vs[j]?=some v->∃d,ds[j]?=some d/\DR w X d v
 |[],[],_,j,d,h=>by simp at h
 |d0::ds,v0::vs,h,0,d,hj=>by simp at hj;subst hj;exact⟨d0,rfl,h.1⟩
 |d0::ds,v0::vs,h,j+1,d,hj=>by simpa using DRs.getV h.2 (j:=j) (by simpa using hj)
theorem DRs.of:∀{ds:List D} {vs:List Value},vs.length=ds.length->(∀(j:Nat) (d:D) (v:Value),ds[j]?=some d->vs[j]?=some v->DR w X d v)->DRs w X ds vs
 |[],[],_,_=>trivial
 |d::ds,v::vs,hl,h=>⟨h 0 d v rfl rfl,DRs.of (by simpa using hl) λj d v hd hv=>h (j+1) d v (by simpa using hd) (by simpa using hv)⟩
 |[],_::_,hl,_=>by simp at hl
 |_::_,[],hl,_=>by simp at hl
theorem DRs.append{ds ds':List D}{vs vs':List Value}(h:DRs w X ds vs)(h':DRs w X ds' vs'):DRs w X (ds++ds') (vs++vs'):=by
 induction ds generalizing vs with
 | nil=>cases vs with
  |nil=>exact h'
  |cons v vs=>exact h.elim
 | cons d ds ih=>cases vs with
  |nil=>exact h.elim
  |cons v vs=>exact⟨h.1,ih h.2⟩
theorem DRs.take{ds:List D}{vs:List Value}(h:DRs w X ds vs)(n:Nat):DRs w X (ds.take n) (vs.take n):=by
 induction ds generalizing vs n with
 | nil=>cases vs with
  |nil=>simpa using h
  |cons v vs=>exact h.elim
 | cons d ds ih=>cases vs with
  |nil=>exact h.elim
  | cons v vs=>cases n with
   |zero=>exact trivial
   |succ n=>exact⟨h.1,ih h.2 n⟩
theorem DRs.drop{ds:List D}{vs:List Value}(h:DRs w X ds vs)(n:Nat):DRs w X (ds.drop n) (vs.drop n):=by
 induction ds generalizing vs n with
 | nil=>cases vs with
  |nil=>simpa using h
  |cons v vs=>exact h.elim
 | cons d ds ih=>cases vs with
  |nil=>exact h.elim
  | cons v vs=>cases n with
   |zero=>exact h
   |succ n=>exact ih h.2 n
theorem DRs.set{ds:List D}{vs:List Value}(h:DRs w X ds vs)(n:Nat){d:D}{v:Value}(hd:DR w X d v):DRs w X (ds.set n d) (vs.set n v):=by
 induction ds generalizing vs n with
 | nil=>cases vs with
  |nil=>exact trivial
  |cons v vs=>exact h.elim
 | cons d ds ih=>cases vs with
  |nil=>exact h.elim
  | cons v vs=>cases n with
   |zero=>exact⟨hd,h.2⟩
   |succ n=>exact⟨h.1,ih h.2 n⟩
theorem DRs.oneCell{ds:List D}{vs:List Value}(h:DRs w X ds vs):∀v∈vs,v.oneCell'=true:=by
 intro v hv;obtain⟨j,hj⟩:=List.getElem?_of_mem hv;obtain⟨d,_,hd⟩:=h.getV hj;exact hd.oneCell
theorem cellsAt.drop{b o:Nat}{vs:List Value}(h:cellsAt w b o vs)(n:Nat):cellsAt w b (o+n) (vs.drop n):=by
 intro j v hj;rw[List.getElem?_drop] at hj;rw[Nat.add_assoc];exact h _ _ hj
theorem cellsAt.take{b o:Nat}{vs:List Value}(h:cellsAt w b o vs)(n:Nat):cellsAt w b o (vs.take n):=by
 intro j v hj;rw[List.getElem?_take] at hj;split at hj
 ·exact h _ _ hj
 ·cases hj
end mono
inductive AV where
 |any
 |d (x:D)
 |agg (xs:List D)
 |cp (xs:List D)
 |bp (b o j:Nat)
 |ep (v:Value) (k i c:Nat)
 |tup (vs:List AV)
 |fn (f:FuncId) (caps:List AV)
 |mf (f:FuncId) (bound:List AV) -- a method with its receiver
 |fl (nn:Bool) (k:Nat) (rows:List (List D)) -- a frozen slice without room behind it
inductive VR(w:World)(X:bE):AV->Value->Prop where
 |any (v:Value):VR w X .any v
 |d {x:D} {v:Value} (h:DR w X x v):VR w X (.d x) v
 |agg {xs:List D} {cs:Array Value} (h:DRs w X xs cs.toList):VR w X (.agg xs) (.agg cs)
 | cp {xs:List D} {vs:List Value} (b o:Nat) (h:DRs w X xs vs) (hc:cellsAt w b o vs) (hx:∀j,j<xs.length->¬X b (o+j)):
   VR w X (.cp xs) (.pointer (some ⟨b,o,none⟩))
 |bp (b o j:Nat):VR w X (.bp b o j) (.pointer (some ⟨b,o+j,none⟩))
 |ep (g n q k i c:Nat):VR w X (.ep (.slice (some ⟨g,0,none⟩) n q) k i c) (.pointer (some ⟨g,i*k+c,none⟩))
 | tup {vs:List AV} {us:List Value} (hl:us.length=vs.length) (h:∀i,i<vs.length->VR w X (vs.getD i .any) (us.getD i undef)):
   VR w X (.tup vs) (.tuple us.toArray)
 | fn {f:FuncId} {caps:List AV} {us:List Value} (hl:us.length=caps.length) (h:∀i,i<caps.length->VR w X (caps.getD i .any) (us.getD i undef)):
   VR w X (.fn f caps) (.func (.func f) #[] us.toArray)
 | mf {f:FuncId} {bound:List AV} {us:List Value} (hl:us.length=bound.length) (h:∀i,i<bound.length->VR w X (bound.getD i .any) (us.getD i undef)):
   VR w X (.mf f bound) (.func (.func f) us.toArray #[])
 |fl {nn:Bool} {k:Nat} {rows:List (List D)} {v:Value} (h:DR w X (.sl k rows) v) (hc:v=.slice none 0 0\/∃a n,v=.slice (some a) n n) (hn:nn=true->v≠.slice none 0 0):VR w X (.fl nn k rows) v
theorem VR.mono{w w':World}{X X':bE}(hm:Mono w X w' X'){x:AV}{v:Value}(h:VR w X x v):VR w' X' x v:=by
 induction h with
 |any v=>exact .any v
 |d h=>exact .d (h.mono hm)
 |agg h=>exact .agg (h.mono hm)
 | cp b o h hc hx=>
  refine .cp b o (h.mono hm) (λj v hj=>?_) (λj hj=>?_)
  ·have hlt:j<_:=(List.getElem?_eq_some_iff.1 hj).1;exact(hm.cell _ _ _ (hc j v hj) (hx j (by rw[<-h.length];exact hlt))).1
  ·have hlt:=hj;rw[<-h.length] at hlt;exact(hm.cell _ _ _ (hc j _ (List.getElem?_eq_getElem hlt)) (hx j hj)).2
 |bp b o j=>exact .bp b o j
 |ep g n q k i c=>exact .ep g n q k i c
 |tup hl _ ih=>exact .tup hl ih
 |fn hl _ ih=>exact .fn hl ih
 |mf hl _ ih=>exact .mf hl ih
 |fl h hc hn=>exact .fl (h.mono hm) hc hn
def VRs(w:World)(X:bE):List AV->List Value->Prop
 |[],[]=>True
 |x::xs,v::vs=>VR w X x v/\VRs w X xs vs
 |_,_=>False
theorem VRs.length{w:World}{X:bE}:∀{xs:List AV} {vs:List Value},VRs w X xs vs->vs.length=xs.length
 |[],[],_=>rfl
 |_::_,_::_,h=>by simp[VRs.length h.2]
theorem VRs.getD{w:World}{X:bE}:∀{xs:List AV} {vs:List Value},VRs w X xs vs->∀i,VR w X (xs.getD i .any) (vs.getD i undef)
 |[],[],_,i=>by simp;exact .any _
 |x::xs,v::vs,h,0=>h.1
 |x::xs,v::vs,h,i+1=>by simpa using VRs.getD h.2 i
theorem VRs.mono{w w':World}{X X':bE}(hm:Mono w X w' X'):∀{xs:List AV} {vs:List Value},VRs w X xs vs->VRs w' X' xs vs
 |[],[],_=>trivial
 |_::_,_::_,h=>⟨h.1.mono hm,VRs.mono hm h.2⟩
theorem VRs.append{w:World}{X:bE}:∀{xs:List AV} {vs:List Value} {ys:List AV} {us:List Value},VRs w X xs vs->VRs w X ys us->VRs w X (xs++ys) (vs++us)
 |[],[],_,_,_,h=>h
 |_::_,_::_,_,_,h,h'=>⟨h.1,VRs.append h.2 h'⟩
inductive MO where
 |box (b o:Nat) (ds:List D)
 |arr (v:Value) (e k:Nat) (rows:List (List D))
 |map (r:Nat) (es:List (Value×AV)) (bs:List Nat) (clock:Nat)
 |iter (r m since:Nat) (seen:List Nat) (last:Nat) -- where a range over a map stands
 |fam (e k:Nat) (vs:List Value) (rss:List (List (List D))) -- a family of growable slices
 |ext (F:bE) (H:World->bE->Prop) -- what another call holds meanwhile
def MO.foot:MO->bE
 | .box b o ds=>λx y=>x=b/\o<=y/\y<o+ds.length
 | .arr v _ _ _=>λx _=>v.ownBlock=some x
 | .map r _ _ _=>λx _=>x=r
 | .iter r _ _ _ _=>λx _=>x=r
 | .fam _ _ vs _=>λx _=>∃v∈vs,v.ownBlock=some x
 | .ext F _=>F
def MRs(w:World)(X:bE):List (Value×AV)->List MapEntry->Prop
 |[],[]=>True
 |(k,x)::es,m::ms=>m.key=k/\VR w X x m.val/\MRs w X es ms
 |_,_=>False
theorem MRs.mono{w w':World}{X X':bE}(hm:Mono w X w' X'):∀{es:List (Value×AV)} {ms:List MapEntry},MRs w X es ms->MRs w' X' es ms
 |[],[],_=>trivial
 |(_,_)::_,_::_,h=>⟨h.1,h.2.1.mono hm,MRs.mono hm h.2.2⟩
def aHd(w:World)(X:bE)(v:Value)(e k:Nat)(rows:List (List D)):Prop:=
 ∃xs,DRs w X rows.flatten xs/\w.ownsRow 0 e k v rows.length xs/\∀r∈rows,r.length=k
def bRo(vs:List Value):Prop:=vs.Pairwise λa b=>∀x,a.ownBlock=some x->b.ownBlock≠some x
structure Keeps[Mode](M:bE)(w w':World):Prop where
 os:w'.os=w.os
 tape:w'.tape=w.tape
 output:w'.output=w.output
 size:w.heap.size<=w'.heap.size
 block:∀b,b<w.heap.size->(∀o,¬M b o)->w'.heap[b]?=w.heap[b]?
 cell:∀b o,b<w.heap.size->¬M b o->w'.cell? ⟨b,o,none⟩=w.cell? ⟨b,o,none⟩
 frz:∀b o,b<w.heap.size->¬M b o->w'.frozen? ⟨b,o,none⟩=w.frozen? ⟨b,o,none⟩
 drawn:Mode.dr->w.drawn<=w'.drawn
def MO.holds[Mode](w:World)(X:bE):MO->Prop
 | .box b o ds=>∃vs,DRs w X ds vs/\cellsAt w b o vs/\∀j,j<ds.length->w.frozen? ⟨b,o+j,none⟩=false
 | .arr v e k rows=>∃xs,DRs w X rows.flatten xs/\w.ownsRow 0 e k v rows.length xs/\∀r∈rows,r.length=k
 | .map r es bs clock=>∃ms,w.heap[r]?=some (.map ms clock)/\MRs w X es ms.toList/\ms.toList.map (·.born)=bs/\bs.Pairwise (·<·)/\∀b∈bs,b<clock
 | .iter r m since seen last=>w.heap[r]?=some (.mapIter (some m) since seen.toArray last)
 | .fam e k vs rss=>vs.length=rss.length/\bRo vs/\∀(i:Nat) (v:Value) (rows:List (List D)),vs[i]?=some v->rss[i]?=some rows->aHd w X v e k rows
 | .ext F H=>(∀b o,F b o->b<w.heap.size)/\∀(w':World) (X':bE),Mono w X w' X'->Keeps (λb o=>¬F b o) w w'->H w' X'
def dR(objs:List MO):bE:=λb o=>∃m∈objs,m.foot b o
def aV(A:bE)(objs:List MO):bE:=λb o=>A b o\/dR objs b o
theorem Keeps.refl[Mode](M:bE)(w:World):Keeps M w w:=
 ⟨rfl,rfl,rfl,Nat.le_refl _,λ_ _ _=>rfl,λ_ _ _ _=>rfl,λ_ _ _ _=>rfl,λ_=>Nat.le_refl _⟩
theorem Keeps.trans[Mode]{M:bE}{a b c:World}(h:Keeps M a b)(k:Keeps M b c):Keeps M a c:=
  ⟨k.os.trans h.os,k.tape.trans h.tape,k.output.trans h.output,Nat.le_trans h.size k.size,
   λi hi hm=>(k.block i (Nat.lt_of_lt_of_le hi h.size) hm).trans (h.block i hi hm),
   λi o hi hm=>(k.cell i o (Nat.lt_of_lt_of_le hi h.size) hm).trans (h.cell i o hi hm),
   λi o hi hm=>(k.frz i o (Nat.lt_of_lt_of_le hi h.size) hm).trans (h.frz i o hi hm),λhd=>Nat.le_trans (h.drawn hd) (k.drawn hd)⟩
theorem Keeps.weaken[Mode]{M Z:bE}{w0 w w':World}(h:Keeps M w0 w)(k:Keeps Z w w')(hz:∀b o,Z b o->M b o\/w0.heap.size<=b):Keeps M w0 w':=
  ⟨k.os.trans h.os,k.tape.trans h.tape,k.output.trans h.output,Nat.le_trans h.size k.size,
   fun i hi hm=>(k.block i (Nat.lt_of_lt_of_le hi h.size) λo hzo=>by
      rcases hz i o hzo with h1|h1
      · exact hm o h1
      · omega).trans (h.block i hi hm),
   fun i o hi hm=>(k.cell i o (Nat.lt_of_lt_of_le hi h.size) λhzo=>by
      rcases hz i o hzo with h1|h1
      · exact hm h1
      · omega).trans (h.cell i o hi hm),
   fun i o hi hm=>(k.frz i o (Nat.lt_of_lt_of_le hi h.size) λhzo=>by
      rcases hz i o hzo with h1|h1
      · exact hm h1
      · omega).trans (h.frz i o hi hm),λhd=>Nat.le_trans (h.drawn hd) (k.drawn hd)⟩
theorem Keeps.mono[Mode]{M M':bE}{w w':World}(h:Keeps M w w')(hm:∀b o,M b o->M' b o):Keeps M' w w':=
 ⟨h.os,h.tape,h.output,h.size,λb hb h'=>h.block b hb λo ho=>h' o (hm _ _ ho),λb o hb h'=>h.cell b o hb λho=>h' (hm _ _ ho),λb o hb h'=>h.frz b o hb λho=>h' (hm _ _ ho),h.drawn⟩
def Sep(objs:List MO):Prop:=objs.Pairwise λm m'=>∀b o,m.foot b o->¬m'.foot b o
structure Inv[Mode](w:World)(A:bE)(objs:List MO):Prop where
 sep:Sep objs
 apart:∀m∈objs,∀b o,m.foot b o->¬A b o
 holds:∀m∈objs,m.holds w (aV A objs)
 amb:Amb w (aV A objs)
theorem kH[Mode]{w:World}{X:bE}{m:MO}(h:m.holds w X){b o:Nat}(hf:m.foot b o):b<w.heap.size:=by
 cases m with
 | box b' o' ds=>
  obtain⟨vs,hd,hc,_⟩:=h;obtain⟨rfl,h1,h2⟩:=hf;have hlt:o-o'<vs.length:=by rw[hd.length];omega
  have:=hc (o-o') _ (List.getElem?_eq_getElem hlt);exact block_lt_of_cell this
 | arr v e k rows=>
  obtain⟨xs,_,hown,_⟩:=h;exact(hown.lt b hf).2
 | map r es bs clock=>
  obtain⟨ms,hh,_⟩:=h;cases hf;exact(Array.getElem?_eq_some_iff.1 hh).1
 | iter r m since seen last=>
  cases hf;exact(Array.getElem?_eq_some_iff.1 h).1
 | fam e k vs rss=>
  obtain⟨hl,_,hh⟩:=h;obtain⟨v,hv,hb⟩:=hf;obtain⟨i,hi,rfl⟩:=List.getElem_of_mem hv;obtain⟨xs,_,hown,_⟩:=hh i vs[i] (rss[i]'(by omega)) (List.getElem?_eq_getElem hi) (List.getElem?_eq_getElem (by omega));exact(hown.lt b hb).2
 |ext F H=>exact h.1 _ _ hf
theorem aJc[Mode]{w w':World}{X X' Z:bE}{v:Value}{e k:Nat}{rows:List (List D)}(h:aHd w X v e k rows)(hk:Keeps Z w w')(hz:∀b o,v.ownBlock=some b->¬Z b o)(hm:Mono w X w' X'):aHd w' X' v e k rows:=by
 obtain⟨xs,hd,hown,hr⟩:=h;refine⟨xs,hd.mono hm,⟨hown.1,?_⟩,hr⟩
 rcases hown.2 with hn|⟨g,cap,cur,rfl,hb,hg,rest⟩
 ·exact .inl hn
 ·refine .inr ⟨g,cap,cur,rfl,hb,?_,rest⟩;rw[hk.block g (Array.getElem?_eq_some_iff.1 hg).1 λo=>hz g o rfl];exact hg
theorem bV[Mode]{w w':World}{X X' Z:bE}{m:MO}(h:m.holds w X)(hk:Keeps Z w w')(hz:∀b o,m.foot b o->¬Z b o)(hm:Mono w X w' X'):m.holds w' X':=by
 cases m with
 | box b o ds=>
  have hlt:=λy hy=>kH (o:=y) h (b:=b) hy;obtain⟨vs,hd,hc,hf⟩:=h;refine⟨vs,hd.mono hm,λj v hj=>?_,λj hj=>?_⟩
  ·have hj':j<ds.length:=by rw[<-hd.length];exact(List.getElem?_eq_some_iff.1 hj).1
   rw[hk.cell b (o+j) (hlt (o+j) ⟨rfl,by omega,by omega⟩) (hz _ _ ⟨rfl,by omega,by omega⟩)];exact hc j v hj
  ·rw[hk.frz _ _ (hlt (o+j) ⟨rfl,by omega,by omega⟩) (hz _ _ ⟨rfl,by omega,by omega⟩)];exact hf j hj
 |arr v e k rows=>exact aJc h hk (λb o hb=>hz b o hb) hm
 | map r es bs clock=>
  obtain⟨ms,hh,hms,hb⟩:=h;refine⟨ms,?_,hms.mono hm,hb⟩;rw[hk.block r (Array.getElem?_eq_some_iff.1 hh).1 λo=>hz r o rfl];exact hh
 | iter r m since seen last=>
  refine Eq.trans (hk.block r (Array.getElem?_eq_some_iff.1 h).1 λo=>hz r o rfl) h
 | fam e k vs rss=>
  obtain⟨hl,hs,hh⟩:=h;exact⟨hl,hs,λi v rows hv hr=>aJc (hh i v rows hv hr) hk (λb o hb=>hz b o ⟨v,List.mem_of_getElem? hv,hb⟩) hm⟩
 | ext F H=>
  exact⟨λb o hf=>Nat.lt_of_lt_of_le (h.1 b o hf) hk.size,λw2 X2 hm2 hk2=>h.2 w2 X2 (hm.trans hm2) ((hk.mono λb o hzb hf=>hz b o hf hzb).trans hk2)⟩
end Go.Am
end
end
section
namespace Go.Am
structure St where
 env:Nat->AV
 objs:List MO
def upd(e:Nat->AV)(k:Nat)(v:AV):Nat->AV:=λn=>bif Nat.beq k n then v else e n
def emp:Nat->AV:=λ_=>.any
def bF(n:Nat):List Nat->Bool
 |[]=>false
 |k::l=>bif Nat.beq k n then true else bF n l
def keep(l:List Nat)(e:Nat->AV):Nat->AV:=λn=>bif bF n l then e n else .any
def St.set(st:St)(k:Nat)(v:AV):St:=⟨upd st.env k v,st.objs⟩
def St.keep(st:St)(l:List Nat):St:=⟨Am.keep l st.env,st.objs⟩
def St.put1(st:St)(i:Nat)(m:MO):St:=⟨st.env,st.objs.set i m⟩
def St.setput(st:St)(d:Nat)(v:AV)(i:Nat)(m:MO):St:=⟨upd st.env d v,st.objs.set i m⟩
def St.setadd(st:St)(d:Nat)(v:AV)(m:MO):St:=⟨upd st.env d v,st.objs++[m]⟩
theorem fS(e:Nat->AV)(k:Nat)(v:AV):upd e k v k=v:=by simp[upd]
theorem mJ(e:Nat->AV){k n:Nat}(v:AV)(h:k≠n):upd e k v n=e n:=by
 have:Nat.beq k n=false:=by
  cases hb:Nat.beq k n with
  |false=>rfl
  |true=>exact absurd (Nat.eq_of_beq_eq_true hb) h
 simp[upd,this]
structure W0 where
 w:World
 ds:List Deferred
 ro:Option Nat
def Marks(X:bE)(w0:W0)(ds:List Deferred)(w:World):Prop:=
 ∃Ds:List Nat,ds=Ds.map (λD=>⟨.collected D, #[]⟩)++w0.ds/\Ds.Nodup/\∀D∈Ds,w.heap[D]?=some (.deferred (some []))/\w0.w.heap.size<=D/\∀o,¬X D o
theorem Marks.nil(X:bE)(w0:W0)(w:World):Marks X w0 w0.ds w:=⟨[],rfl,List.nodup_nil,λD h=>by simp at h⟩
theorem Marks.step[Mode]{X X' Z:bE}{w0:W0}{ds:List Deferred}{w w':World}(h:Marks X w0 ds w)(hk:Keeps Z w w')(hz:∀b o,Z b o->X b o)(hx:∀b o,b<w.heap.size->X' b o->X b o):Marks X' w0 ds w':=by
 obtain⟨Ds,h1,h2,h3⟩:=h;refine⟨Ds,h1,h2,λD hD=>?_⟩;obtain⟨a,b,c⟩:=h3 D hD;have hlt:=(Array.getElem?_eq_some_iff.1 a).1;exact⟨(hk.block D hlt λo ho=>c o (hz _ _ ho)).trans a,b,λo ho=>c o (hx _ _ hlt ho)⟩
theorem Marks.sub{X X':bE}{w0:W0}{ds:List Deferred}{w:World}(h:Marks X w0 ds w)(hx:∀b o,X' b o->X b o):Marks X' w0 ds w:=
 haveI:Mode:=⟨True⟩
 h.step (Keeps.refl (λ_ _=>False) w) (λ_ _ h=>h.elim) λb o _ h=>hx b o h
structure R[Mode](A M:bE)(w0:W0)(n:Nat)(st:St)(a:Act)(w:World):Prop where
 size:a.tmps.size=n
 defers:Marks (aV A st.objs) w0 a.defers w
 env:∀k,VR w (aV A st.objs) (st.env k) (a.tmps.getD k undef)
 inv:Inv w A st.objs
 keeps:Keeps M w0.w w
 own:∀m∈st.objs,∀b o,m.foot b o->M b o\/w0.w.heap.size<=b
 old:∀b o,A b o->b<w0.w.heap.size
theorem gK[Mode]{A Z:bE}{w w':World}{objs objs':List MO}(hk:Keeps Z w w')(hz:∀b o,Z b o->aV A objs b o)
  (hl:∀b o,b<w.heap.size->aV A objs' b o->aV A objs b o):Mono w (aV A objs) w' (aV A objs'):=by
 refine⟨λb o v hc hx=>?_,λr ms c hc hx=>?_,λr c e f hc hx=>?_⟩
 ·have hlt:b<w.heap.size:=block_lt_of_cell hc;exact⟨by rw[hk.cell b o hlt λh=>hx (hz _ _ h)];exact hc,λh=>hx (hl _ _ hlt h)⟩
 ·have hlt:r<w.heap.size:=(Array.getElem?_eq_some_iff.1 hc).1;exact⟨by rw[hk.block r hlt λo h=>hx o (hz _ _ h)];exact hc,λo h=>hx o (hl _ _ hlt h)⟩
 ·have hlt:r<w.heap.size:=(Array.getElem?_eq_some_iff.1 hc).1;exact⟨by rw[hk.block r hlt λo h=>hx o (hz _ _ h)];exact hc,λo h=>hx o (hl _ _ hlt h)⟩
theorem bCd{w:World}{X:bE}{env:Nat->AV}{tmps:Array Value}{n d:Nat}(hs:tmps.size=n)(hd:d<n){x:AV}{v:Value}
  (he:∀k,VR w X (env k) (tmps.getD k undef))(hv:VR w X x v):∀k,VR w X (upd env d x k) ((tmps.setIfInBounds d v).getD k undef):=by
 intro k
 by_cases hk:d=k
 ·subst hk;rw[fS,Array.getD_eq_getD_getElem?,Array.getElem?_setIfInBounds_self_of_lt (by omega)];exact hv
 ·rw[mJ _ _ hk,Array.getD_eq_getD_getElem?,Array.getElem?_setIfInBounds_ne hk,<-Array.getD_eq_getD_getElem?];exact he k
theorem R.put[Mode]{A M:bE}{w0:W0}{n:Nat}{st:St}{a:Act}{w:World}(h:R A M w0 n st a w){o:Oper}{d:Nat}(ho:o.dst=some d)(hd:d<n){x:AV}{u:Value}
  (hv:VR w (aV A st.objs) x u):R A M w0 n (st.set d x) (a.put o.dst u) w:=by
 rw[ho];exact⟨by simp[Act.put,h.size],h.defers,bCd h.size hd h.env hv,h.inv,h.keeps,h.own,h.old⟩
theorem R.put_none[Mode]{A M:bE}{w0:W0}{n:Nat}{st:St}{a:Act}{w:World}(h:R A M w0 n st a w){o:Oper}(ho:o.dst=none){u:Value}:R A M w0 n st (a.put o.dst u) w:=by
 rw[ho];exact h
def Step[Mode](P:Program)(n:Nat)(o:Oper)(st:St)(Post:St->Prop):Prop:=
 ∀A M w0 a w,R A M w0 n st a w->∀K Q,(∀st' a' w',Post st'->R A M w0 n st' a' w'->K a' w')->o.wp P a w K Q
abbrev aY[Mode](P:Program)(n:Nat)(o:Oper)(st st':St):Prop:=Step P n o st (λs=>s=st')
theorem cA[Mode]{P:Program}{n:Nat}{o:Oper}{st:St}{d:Nat}{x:AV}(ho:o.dst=some d)(hd:d<n)
  (h:∀(A M:bE) (w0:W0) (a:Act) (w:World),R A M w0 n st a w->∃u,(execOp a.eval o).run P w=.ok (.value u) w/\VR w (aV A st.objs) x u):
  aY P n o st (st.set d x):=by
 intro A M w0 a w hR K Q hK;obtain⟨u,hrun,hv⟩:=h A M w0 a w hR;unfold Oper.wp;rw[hrun,Oper.upon_value];refine hK _ _ _ rfl ?_;exact hR.put ho hd hv
def St.eval(st:St):Operand->AV
 | .tmp t=>st.env t
 | .const v=>.d (.lit v)
 | .global _=>.any
 | .func f=>.fn f []
theorem R.eval[Mode]{A M:bE}{w0:W0}{n:Nat}{st:St}{a:Act}{w:World}(h:R A M w0 n st a w)(t:Nat):
  VR w (aV A st.objs) (st.eval (.tmp t)) (a.eval (.tmp t)):=h.env t
def cJ:Operand->Bool
 | .const v=>v.oneCell'
 |_=>true
theorem R.eval'[Mode]{A M:bE}{w0:W0}{n:Nat}{st:St}{a:Act}{w:World}(h:R A M w0 n st a w){x:Operand}(hx:cJ x=true):
  VR w (aV A st.objs) (st.eval x) (a.eval x):=by
 cases x with
 |tmp t=>exact h.env t
 |const v=>exact .d (.lit v hx)
 |global g=>exact .any _
 |func f=>exact .fn (us:=[]) rfl (λi hi=>by simp at hi)
theorem VR.lit{w:World}{X:bE}{v u:Value}(h:VR w X (.d (.lit v)) u):u=v:=by
 cases h with
 |d h=>cases h;rfl
def fen(ro:Option Nat):Fence:={Fence.wide with round:=ro}
def aWh[Mode](P:Program)(n:Nat)(o:Oper)(st:St)(Post:St->Prop):Prop:=
 ∀A M w0 a w,R A M w0 n st a w->∀K Q,(∀st' a' w',Post st'->R A M w0 n st' a' w'->K a' w')->o.wpIn (fen w0.ro) 0 P a w K Q
theorem aZt{ρ:Operand->Value}{c:Call}{ty:TypeId}{P:Program}{w w':World}{d:Deferred}(h:(resolve ρ c ty).run P w=.ok d w'):∀D,d.target≠.collected D:=by
 unfold resolve at h;split at h
 ·simp[go_sem] at h
  rw[<-h.1];intro D hD;cases hD
 ·simp[go_sem] at h
  rw[<-h.1];intro D hD;cases hD
 ·unfold Deferred.ofValue at h;split at h<;>simp[go_sem] at h<;>(rw[<-h.1];intro D hD;cases hD)
theorem bPn{o:Oper}{P:Program}{a:Act}{w:World}{c:Call}(ho:o.op=.defer c)(h:o.wp P a w (λa' _=>∃Ds:List Nat,a'.defers=Ds.map (λD=>⟨.collected D, #[]⟩)++a.defers) (λ_ _ _=>False)):False:=by
 unfold Oper.wp at h;have e:(execOp a.eval o)=(do pure (.defer (<-resolve a.eval c o.type))):=by simp[execOp,ho]
 rw[e] at h;simp only[Sem.run_bind] at h;cases hr:(resolve a.eval c o.type).run P w with
 | ok d w'=>
  rw[hr] at h;simp only[Result.andThen] at h;have:(pure (Next.defer d):Sem Next).run P w'=.ok (.defer d) w':=rfl;rw[this] at h;simp only[Oper.upon] at h;obtain⟨Ds,hDs⟩:=h;have h2:d::a.defers=Ds.map (λD=>⟨.collected D, #[]⟩)++a.defers:=by
   rw[<-hDs];cases hd:o.dst<;>simp[Act.put]
  cases Ds with
  |nil=>have:=congrArg List.length h2;simp at this
  | cons D Ds=>
   simp only[List.map_cons,List.cons_append,List.cons.injEq] at h2;exact aZt hr D (by rw[h2.1])
 | halt x w'=>
  rw[hr] at h;cases x<;>simp[Result.andThen,Oper.upon] at h
theorem bBj{n:Nat}{P:Program}{row:String}{args:Array Value}{w:World}{R:Value->World->Prop}(h:Rows P row args w R):RowsIn Fence.wide n P row args w R:=
 λc cs _=>let⟨v,w',r,s⟩:=h c cs;⟨v,w',r,stepsIn_wide.2 s⟩
theorem Oper.wpIn_of{o:Oper}{P:Program}{a:Act}{w:World}{K:Act->World->Prop}{Q:Exit->Act->World->Prop}{ro:Option Nat}(hd:∀c,o.op≠.defer c)(h:o.wp P a w K Q):o.wpIn (fen ro) 0 P a w K Q:=by
 refine⟨λ_ _=>trivial,?_⟩;rw[Oper.semAt_eq _ _ _ hd];unfold Oper.wp at h
 generalize(execOp a.eval o).run P w=r at h|-
 cases r with
 | ok x w'=>
  cases x<;>simp only[Oper.upon,Oper.uponIn] at h⊢<;>first
   |exact h
   |exact⟨λh=>(by cases h),callsIn_wide.2 h⟩
   |exact⟨λh=>(by cases h),bBj h⟩
 |halt x w'=>cases x<;>simp only[Oper.upon,Oper.uponIn] at h⊢<;>exact h
theorem Step.x[Mode]{P:Program}{n:Nat}{o:Oper}{st:St}{Post:St->Prop}(h:Step P n o st Post):aWh P n o st Post:=by
 intro A M w0 a w hR K Q hK;refine Oper.wpIn_of (λc hc=>?_) (h A M w0 a w hR K Q hK);have hR0:R A M {w0 with ds:=a.defers} n st a w:=⟨hR.size,Marks.nil _ _ _,hR.env,hR.inv,hR.keeps,hR.own,hR.old⟩;refine bPn hc (h A M _ a w hR0 _ _ λst' a' w' _ hR'=>?_);obtain⟨Ds,h1,_⟩:=hR'.defers;exact⟨Ds,h1⟩
def TrL[Mode](P:Program)(n:Nat)(ops:Array Oper)(l:List Oper)(st:St)(Q:Exit->St->Prop):Prop:=
 ∀A M w0 a w,R A M w0 n st a w->wpListIn (fen w0.ro) 0 P ops (λe a' w'=>∃st',Q e st'/\R A M w0 n st' a' w') l a w
def sH:Code->Bool
 | .rangeFunc .. =>false
 | .seq x y=>sH x&&sH y
 | .cond _ x y=>sH x&&sH y
 | .block _ c=>sH c
 | .loop c=>sH c
 | .scope c=>sH c
 |_=>true
def Tr[Mode](P:Program)(n:Nat)(c:Code)(st:St)(Q:Exit->St->Prop):Prop:=
 ∀A M w0 a w,R A M w0 n st a w->(w0.ro=none\/sH c=true)->c.wpIn (fen w0.ro) 0 P (λe a' w'=>∃st',Q e st'/\R A M w0 n st' a' w') a w
def jI(N:St->Prop)(Q:Exit->St->Prop):Exit->St->Prop
 | .normal,st=>N st
 |e,st=>Q e st
def uS(id:Nat)(N:St->Prop)(Q:Exit->St->Prop):Exit->St->Prop
 | .normal,st=>N st
 | .exit id',st=>(id'=id/\N st)\/(id'≠id/\Q (.exit id') st)
 |e,st=>Q e st
section
variable{P:Program}{n:Nat}{st st':St}{Q:Exit->St->Prop}{N:St->Prop}
theorem bAj[Mode]{ops:Array Oper}{o:Oper}{rest:List Oper}{Post:St->Prop}(hg:o.guard=none)(h:aWh P n o st Post)
  (hr:∀st',Post st'->TrL P n ops rest st' Q):TrL P n ops (o::rest) st Q:=
 λA M w0 a w hR=>wpListIn_plain hg λK hK=>h A M w0 a w hR K _ λst' a' w' hp hR'=>hK _ _ (hr st' hp A M w0 a' w' hR')
theorem aZ[Mode]{ops:Array Oper}{o:Oper}{rest:List Oper}{Post:St->Prop}(hg:o.guard=none)(h:Step P n o st Post)
  (hr:∀st',Post st'->TrL P n ops rest st' Q):TrL P n ops (o::rest) st Q:=bAj hg h.x hr
theorem tr1[Mode]{ops:Array Oper}{o:Oper}{rest:List Oper}(hg:o.guard=none)(h:aY P n o st st')
  (hr:TrL P n ops rest st' Q):TrL P n ops (o::rest) st Q:=
 aZ hg h λ_ e=>e▸hr
theorem aM[Mode]{ops:Array Oper}(h:N st):TrL P n ops [] st (jI N Q):=
 λ_ _ _ _ _ hR=>wpListIn_nil ⟨st,h,hR⟩
theorem jW[Mode]{ops:Array Oper}{id:Nat}(h:N st):TrL P n ops [] st (uS id N Q):=
 λ_ _ _ _ _ hR=>wpListIn_nil ⟨st,h,hR⟩
theorem aL[Mode]{id:Nat}{l:List Oper}(h:TrL P n l.toArray l st Q):Tr P n (.region id l.toArray false) st Q:=
 λA M w0 a w hR _=>wpIn_region_lit (h A M w0 a w hR)
theorem bEu{p:Prop}{a b:Bool}(h:p\/(a&&b)=true):(p\/a=true)/\(p\/b=true):=by
 rcases h with h|h
 ·exact⟨.inl h,.inl h⟩
 ·rw[Bool.and_eq_true] at h;exact⟨.inr h.1,.inr h.2⟩
theorem aO[Mode]{x y:Code}(h:Tr P n x st (jI (λs=>Tr P n y s Q) Q)):Tr P n (.seq x y) st Q:=by
 intro A M w0 a w hR hn;refine wpIn_seq (wpIn_mono (h A M w0 a w hR (bEu hn).1) ?_);rintro e a' w' ⟨st',hq,hR'⟩;cases e with
 |normal=>exact hq A M w0 a' w' hR' (bEu hn).2
 |_=>exact⟨st',hq,hR'⟩
theorem lS[Mode](h:N st):Tr P n .skip st (jI N Q):=λ_ _ _ _ _ hR _=>wpIn_skip ⟨st,h,hR⟩
theorem bNd[Mode](h:Q .normal st):Tr P n .skip st Q:=λ_ _ _ _ _ hR _=>wpIn_skip ⟨st,h,hR⟩
theorem bNb[Mode]{l:Nat}(h:Q .normal st):Tr P n (.label l) st Q:=λ_ _ _ _ _ hR _=>wpIn_label ⟨st,h,hR⟩
theorem bP[Mode](h:Q .ret st):Tr P n .ret st Q:=λ_ _ _ _ _ hR _=>wpIn_ret ⟨st,h,hR⟩
theorem dO[Mode]{id:Nat}(h:Q (.exit id) st):Tr P n (.exit id) st Q:=λ_ _ _ _ _ hR _=>wpIn_exit ⟨st,h,hR⟩
theorem aPe[Mode]{id:Nat}{c:Code}(h:Tr P n c st (uS id N Q))(hQ:∀s,N s->Q .normal s):Tr P n (.block id c) st Q:=by
 intro A M w0 a w hR hn;refine wpIn_block (wpIn_mono (h A M w0 a w hR hn) ?_);rintro e a' w' ⟨st',hq,hR'⟩;cases e with
 |normal=>exact⟨st',hQ _ hq,hR'⟩
 | exit id'=>
  show if id'=id then _ else _
  rcases hq with⟨h1,h2⟩|⟨h1,h2⟩
  ·rw[if_pos h1];exact⟨st',hQ _ h2,hR'⟩
  ·rw[if_neg h1];exact⟨st',h2,hR'⟩
 |_=>exact⟨st',hq,hR'⟩
theorem oU[Mode]{c:Code}{Q':Exit->St->Prop}(h:Tr P n c st Q)(hq:∀e s,Q e s->Q' e s):Tr P n c st Q':=
 λA M w0 a w hR hn=>wpIn_mono (h A M w0 a w hR hn) λ_ _ _ ⟨s,h1,h2⟩=>⟨s,hq _ _ h1,h2⟩
theorem iY[Mode]{c:Operand}{x y:Code}{b:Bool}(hc:st.eval c=.d (.lit (.bool b)))(ht:b=true->Tr P n x st Q)(hf:b=false->Tr P n y st Q):
  Tr P n (.cond c x y) st Q:=by
 intro A M w0 a w hR hn;have he:a.eval c=.bool b:=by
  cases c with
  |tmp t=>have:=hR.env t;rw[show st.env t=_ from hc] at this;exact this.lit
  |const v=>simp only[St.eval,AV.d.injEq,D.lit.injEq] at hc;exact hc
  |global g=>cases hc
  |func f=>cases hc
 exact wpIn_cond_split he (λh=>ht h A M w0 a w hR (bEu hn).1) (λh=>hf h A M w0 a w hR (bEu hn).2)
def Ent[Mode](st st':St):Prop:=∀(A M:bE) (w0:W0) (n:Nat) (a:Act) (w:World),R A M w0 n st a w->R A M w0 n st' a w
theorem Ent.refl[Mode](st:St):Ent st st:=λ_ _ _ _ _ _ h=>h
theorem Ent.trans[Mode]{a b c:St}(h:Ent a b)(k:Ent b c):Ent a c:=λA M w0 n x w hR=>k A M w0 n x w (h A M w0 n x w hR)
theorem dA[Mode]{c:Code}(he:Ent st st')(h:Tr P n c st' Q):Tr P n c st Q:=λA M w0 a w hR hn=>h A M w0 a w (he A M w0 n a w hR) hn
theorem cL[Mode]{ops:Array Oper}{l:List Oper}(he:Ent st st')(h:TrL P n ops l st' Q):TrL P n ops l st Q:=λA M w0 a w hR=>h A M w0 a w (he A M w0 n a w hR)
theorem bDk[Mode]{S T:Type}(σ:S->St)(F:Nat->S->Option T)(r:T){c:Code}(hz:∀s,F 0 s=none)
  (body:∀k s,F (k+1) s=some r->Tr P n c (σ s) (jI (λst'=>∃s',F k s'=some r/\Ent st' (σ s')) Q))
  (k0:Nat)(s0:S)(h0:F k0 s0=some r):Tr P n (.loop c) (σ s0) Q:=by
 intro A M w0 a w hR hn
 let I0:Nat->Act->World->Prop:=λk a w=>∃s,F k s=some r/\R A M w0 n (σ s) a w
 have ex:∀a w,(∃k,I0 k a w)->∃k,I0 k a w/\∀j,I0 j a w->k<=j:=by
  rintro a w ⟨k,hk⟩
  induction k using Nat.strongRecOn with
  | _ k ih=>
   by_cases h:∃j,j<k/\I0 j a w
   ·obtain⟨j,hj,hI⟩:=h;exact ih j hj hI
   ·refine⟨k,hk,λj hj=>?_⟩
    rcases Nat.lt_or_ge j k with h1|h1
    ·exact absurd ⟨j,h1,hj⟩ h
    ·exact h1
 have hμ:∃μ:Act->World->Nat,∀a w,(∃k,I0 k a w)->I0 (μ a w) a w/\∀j,I0 j a w->μ a w<=j:=by
  classical
  refine⟨λa w=>if h:∃k,I0 k a w then(ex a w h).choose else 0,λa w h=>?_⟩;simp only[h,dite_true];exact(ex a w h).choose_spec
 obtain⟨μ,hμ⟩:=hμ;refine wpIn_loop (λa w=>∃k,I0 k a w) μ ⟨k0,s0,h0,hR⟩ λa w hI=>?_;obtain⟨⟨s,hs,hRs⟩,hmin⟩:=hμ a w hI;cases hk:μ a w with
 |zero=>rw[hk,hz] at hs;cases hs
 | succ k=>
  rw[hk] at hs;refine wpIn_mono (body k s hs A M w0 a w hRs hn) ?_;rintro e a' w' ⟨st',hq,hR'⟩;cases e with
  | normal=>
   obtain⟨s',hs',he⟩:=hq;have hI':I0 k a' w':=⟨s',hs',he A M w0 n a' w' hR'⟩;have hle:=(hμ a' w' ⟨k,hI'⟩).2 k hI';exact⟨⟨k,hI'⟩,by omega⟩
  |_=>exact⟨st',hq,hR'⟩
end
def bI[Mode](P:Program)(f:FuncId)(args:List AV)(objs:List MO)(Q:AV->List MO->Prop):Prop:=
 ∀ (A:bE) (w:World) (vs:List Value),Inv w A objs->(∀b o,A b o->b<w.heap.size)->VRs w (aV A objs) args vs->
  Calls P f vs.toArray w λe w'=>∃v r objs',e=.returned v/\Keeps (dR objs) w w'/\Inv w' A objs'/\VR w' (aV A objs') r v/\
   (∀m∈objs',∀b o,m.foot b o->dR objs b o\/w.heap.size<=b)/\Q r objs'
def entry(args:List AV):Nat->AV:=λk=>args.getD k .any
inductive aNz(st:St):List ResultVar->AV->Prop where
 |one (t:Nat):aNz st [.tmp t] (st.env t)
 |two (t u:Nat):aNz st [.tmp t,.tmp u] (.tup [st.env t,st.env u])
 |three (t u v:Nat):aNz st [.tmp t,.tmp u,.tmp v] (.tup [st.env t,st.env u,st.env v])
 |none:aNz st [] (.tup [])
theorem R.shut[Mode]{A M:bE}{w0:W0}{n:Nat}{st:St}{a:Act}{w:World}{D:Nat}{Ds:List Nat}(h:R A M w0 n st a w)(hD:w.heap[D]?=some (.deferred (some [])))(hge:w0.w.heap.size<=D)(hX:∀o,¬aV A st.objs D o)
  (hm:Marks (aV A st.objs) w0 (Ds.map (λD=>⟨.collected D, #[]⟩)++w0.ds) (w.putObj D (.deferred none))):R A M w0 n st {a with defers:=Ds.map (λD=>⟨.collected D, #[]⟩)++w0.ds} (w.putObj D (.deferred none)):=by
 have hlt:=(Array.getElem?_eq_some_iff.1 hD).1;have hk:Keeps (λb _=>b=D) w (w.putObj D (.deferred none)):=by
  refine⟨rfl,rfl,rfl,by simp[World.putObj],λb hb hz=>World.putObj_heap_other λe=>hz 0 e,λb o hb hz=>?_,λb o hb hz=>?_,λ_=>Nat.le_refl _⟩
  ·have:(w.putObj D (.deferred none)).heap[b]?=w.heap[b]?:=World.putObj_heap_other λe=>hz e;simp only[World.cell?,this]
  ·have:(w.putObj D (.deferred none)).heap[b]?=w.heap[b]?:=World.putObj_heap_other λe=>hz e;simp only[World.frozen?,this]
 have hmono:Mono w (aV A st.objs) (w.putObj D (.deferred none)) (aV A st.objs):=by
  refine⟨λb o v hc hx=>⟨?_,hx⟩,λr ms c hr hx=>⟨?_,hx⟩,λr c e f hr hx=>⟨?_,hx⟩⟩
  ·by_cases hb:b=D
   ·subst hb
    simp[World.cell?,hD] at hc
   ·rw[hk.cell b o (block_lt_of_cell hc) hb];exact hc
  all_goals
   by_cases hb:r=D
   ·subst hb;rw[hD] at hr;cases hr
   ·rw[hk.block r (Array.getElem?_eq_some_iff.1 hr).1 λ_=>hb];exact hr
 exact⟨h.size,hm,λk=>(h.env k).mono hmono,⟨h.inv.sep,h.inv.apart,λm hm'=>bV (h.inv.holds m hm') hk (λb o hf e=>hX o (by subst e;exact .inr ⟨m,hm',hf⟩)) hmono,h.inv.amb.on hmono⟩,h.keeps.weaken hk λb o hb=>.inr (by subst hb;exact hge),h.own,h.old⟩
theorem aYt[Mode]{A M:bE}{w0:W0}{n:Nat}{st:St}{P:Program}{fn:Func}{Rt:Ending->World->Prop}{tmps:Array Value}(h0:w0.ds=[])
  (hR':∀a w,R A M w0 n st a w->a.tmps=tmps->∃v,(results fn tmps).run P w=.ok v w/\Rt (.returned v) w):∀(Ds:List Nat) (a:Act) (w:World),R A M w0 n st a w->a.tmps=tmps->a.defers=Ds.map (λD=>⟨.collected D, #[]⟩)++w0.ds->Ds.Nodup->
   (∀D∈Ds,w.heap[D]?=some (.deferred (some []))/\w0.w.heap.size<=D/\∀o,¬aV A st.objs D o)->LeavesInM Fence.wide 0 P fn tmps Rt a.defers .returning w:=by
 intro Ds
 induction Ds with
 | nil=>
  intro a w hR ht hd _ _;rw[hd,h0];exact hR' a w hR ht
 | cons D Ds ih=>
  intro a w hR ht hd hnd hDs;obtain⟨h1,h2,h3⟩:=hDs D (by simp);have hnd':=List.nodup_cons.1 hnd;have hDs':∀D'∈Ds,(w.putObj D (.deferred none)).heap[D']?=some (.deferred (some []))/\w0.w.heap.size<=D'/\∀o,¬aV A st.objs D' o:=λD' h'=>by
   obtain⟨a1,a2,a3⟩:=hDs D' (by simp[h']);exact⟨(World.putObj_heap_other (λe=>hnd'.1 (by rw[<-e];exact h'))).trans a1,a2,a3⟩
  rw[hd];refine⟨by simp,.inl ⟨D,_,rfl,run_takeDeferred h1,?_⟩⟩;exact ih {a with defers:=Ds.map (λD=>⟨.collected D, #[]⟩)++w0.ds} _ (hR.shut h1 h2 h3 ⟨Ds,rfl,hnd'.2,hDs'⟩) ht rfl hnd'.2 hDs'
theorem aFd[Mode]{P:Program}{f:FuncId}{fn:Func}{c:Code}{args:List AV}{objs:List MO}{Q:Exit->St->Prop}(hf:P.funcs[f]?=some fn)(hb:fn.body=some c)(ha:args.length<=fn.ntmps)
  (h:Tr P fn.ntmps c ⟨entry args,objs⟩ Q){A:bE}{w:World}{vs:List Value}(hinv:Inv w A objs)(hA:∀b o,A b o->b<w.heap.size)(hvs:VRs w (aV A objs) args vs){Rt:Ending->World->Prop}
  (hQ:∀e st,Q e st->e=.ret\/e=.normal)(hR:∀e st a w',Q e st->R A (dR objs) ⟨w,[],none⟩ fn.ntmps st a w'->∃v,(results fn a.tmps).run P w'=.ok v w'/\Rt (.returned v) w'):Calls P f vs.toArray w Rt:=by
 have hlen:=hvs.length;have hR0:R A (dR objs) ⟨w,[],none⟩ fn.ntmps ⟨entry args,objs⟩ {tmps:=vs.toArray++Array.replicate (fn.ntmps-vs.toArray.size) undef,defers:=[]} w:=by
  refine⟨?_,Marks.nil _ ⟨w,[],none⟩ _,λk=>?_,hinv,Keeps.refl _ _,λm hm b o hf=>.inl ⟨m,hm,hf⟩,hA⟩
  ·simp;omega
  ·have:=hvs.getD k;show VR _ _ (args.getD k .any) _;rw[Array.getD_eq_getD_getElem?]
   by_cases hk:k<vs.length
   ·rw[Array.getElem?_append_left (by simpa using hk)]
    simpa[List.getD] using this
   ·have:args.getD k .any=.any:=by simp[List.getD,List.getElem?_eq_none (show args.length<=k by omega)]
    rw[this];exact .any _
 refine(callsIn_wide (n:=0)).1 (callsIn_of_wp_marks hf hb trivial ?_);refine wpIn_mono (h A (dR objs) _ _ _ hR0 (.inl rfl)) ?_;rintro e a' w' ⟨st,hq,hR'⟩;have key:LeavesInM Fence.wide 0 P fn a'.tmps Rt a'.defers .returning w':=by
  obtain⟨Ds,h1,h2,h3⟩:=hR'.defers;refine aYt (w0:=⟨w,[],none⟩) rfl (λa w2 hR2 ht=>?_) Ds a' w' hR' rfl h1 h2 h3;have:=hR e st a w2 hq hR2
  rwa[ht] at this
 rcases hQ e st hq with rfl|rfl
 ·exact key
 ·exact key
theorem aXa[Mode]{P:Program}{f:FuncId}{fn:Func}{c:Code}{args:List AV}{objs:List MO}{Q:AV->List MO->Prop}
  (hf:P.funcs[f]?=some fn)(hb:fn.body=some c){rs:List ResultVar}(hr:fn.results=rs.toArray)(ha:args.length<=fn.ntmps)
  (h:Tr P fn.ntmps c ⟨entry args,objs⟩ (λe st=>(e=.ret\/e=.normal)/\∃r,aNz st rs r/\Q r st.objs)):bI P f args objs Q:=by
 intro A w vs hinv hA hvs;refine aFd hf hb ha h hinv hA hvs (λe st hq=>hq.1) ?_;rintro e st a' w' ⟨he,r,hres,hq⟩ hR';have key:∃v,(results fn a'.tmps).run P w'=.ok v w'/\VR w' (aV A st.objs) r v:=by
  cases hres with
  |one t=>exact⟨_,results_tmp hr _ _ _,hR'.env t⟩
  | two t u=>exact⟨_,results_tmp2 hr _ _ _,.tup (us:=[_,_]) rfl λi hi=>by
    match i,hi with
    |0,_=>exact hR'.env t
    |1,_=>exact hR'.env u⟩
  | three t u v=>exact⟨.tuple #[a'.tmps.getD t undef,a'.tmps.getD u undef,a'.tmps.getD v undef],by simp[results,hr],.tup (us:=[_,_,_]) rfl λi hi=>by
    match i,hi with
    |0,_=>exact hR'.env t
    |1,_=>exact hR'.env u
    |2,_=>exact hR'.env v⟩
  |none=>exact⟨_,results_none hr _ _ _,.tup (us:=[]) rfl λi hi=>by simp at hi⟩
 obtain⟨v,hrun,hv⟩:=key;exact⟨v,hrun,v,r,st.objs,rfl,hR'.keeps,hR'.inv,hv,hR'.own,hq⟩
end Go.Am
end
