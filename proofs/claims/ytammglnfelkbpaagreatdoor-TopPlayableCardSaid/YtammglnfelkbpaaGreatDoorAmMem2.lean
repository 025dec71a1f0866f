/- Several texts, one behind the other. -/
import Derived.Laws.Cells
import Derived.Laws.AppendOwn
import Derived.Tactics
import Derived.Orders
import Derived.Below
import Derived.OrdersIn
import Derived.TacticsIn
import Derived.RangeFuncLeaves
import Derived.RangeFuncRecord
import Derived.Laws.IdiomCopy
import Derived.Laws.MakeOwn
namespace Go.Am
theorem c6:type_of% @Option.bind_some:=@Option.bind_some
theorem f4:type_of% @Bool.and_eq_true:=@Bool.and_eq_true
theorem f5:type_of% @Nat.le_of_ble_eq_true:=@Nat.le_of_ble_eq_true
theorem f7:type_of% @Nat.eq_of_beq_eq_true:=@Nat.eq_of_beq_eq_true
theorem g6:type_of% @cond_false:=@cond_false
theorem g7:type_of% @List.getElem?_eq_some_iff:=@List.getElem?_eq_some_iff
theorem g9:type_of% @List.getElem?_eq_getElem:=@List.getElem?_eq_getElem
theorem i6:type_of% @List.mem_append:=@List.mem_append
theorem i7:type_of% @cond_true:=@cond_true
theorem i8:type_of% @List.mem_of_getElem?:=@List.mem_of_getElem?
theorem j3:type_of% @List.map_cons:=@List.map_cons
theorem j4:type_of% @decide_true:=@decide_true
theorem j5:type_of% @List.mem_cons_of_mem:=@List.mem_cons_of_mem
theorem j6:type_of% @decide_eq_false:=@decide_eq_false
theorem j7:type_of% @Bool.or_eq_false_iff:=@Bool.or_eq_false_iff
theorem j8:type_of% @Array.getElem?_eq_some_iff:=@Array.getElem?_eq_some_iff
theorem j9:type_of% @List.getElem_mem:=@List.getElem_mem
theorem k6:type_of% @List.all_eq_true:=@List.all_eq_true
theorem l4:type_of% @List.mem_cons:=@List.mem_cons
theorem l5:type_of% @List.mem_map:=@List.mem_map
theorem l6:type_of% @Bool.not_eq_true':=@Bool.not_eq_true'
theorem l7:type_of% @List.mem_singleton:=@List.mem_singleton
theorem l8:type_of% @Bool.not_true:=@Bool.not_true
theorem l9:type_of% @decide_eq_true_eq:=@decide_eq_true_eq
theorem m5:type_of% @decide_false:=@decide_false
theorem m6:type_of% @Int.ofNat_lt:=@Int.ofNat_lt
theorem m7:type_of% @Option.some.injEq:=@Option.some.injEq
theorem m8:type_of% @List.length_map:=@List.length_map
theorem m9:type_of% @List.getElem?_append_left:=@List.getElem?_append_left
theorem n5:type_of% @Nat.le_refl:=@Nat.le_refl
theorem n6:type_of% @List.getElem_of_mem:=@List.getElem_of_mem
theorem n7:type_of% @decide_eq_true:=@decide_eq_true
theorem n8:type_of% @Bool.not_false:=@Bool.not_false
theorem n9:type_of% @decide_eq_false_iff_not:=@decide_eq_false_iff_not
theorem p6:type_of% @List.take_succ_eq_append_getElem:=@List.take_succ_eq_append_getElem
theorem p7:type_of% @List.getElem?_append_right:=@List.getElem?_append_right
theorem p8:type_of% @List.getElem?_map:=@List.getElem?_map
theorem p9:type_of% @List.pairwise_append:=@List.pairwise_append
theorem s8:type_of% @Nat.zero_add:=@Nat.zero_add
theorem u0:type_of% @List.pairwise_iff_getElem:=@List.pairwise_iff_getElem
theorem u1:type_of% @Array.getElem?_eq_getElem:=@Array.getElem?_eq_getElem
theorem u4:type_of% @Nat.lt_of_lt_of_le:=@Nat.lt_of_lt_of_le
theorem u6:type_of% @List.mem_range:=@List.mem_range
theorem u7:type_of% @Option.getD_some:=@Option.getD_some
theorem u9:type_of% @List.perm_append_comm:=@List.perm_append_comm
theorem v6:type_of% @List.drop_eq_getElem_cons:=@List.drop_eq_getElem_cons
theorem v7:type_of% @List.map_append:=@List.map_append
theorem w6:type_of% @List.nodup_cons:=@List.nodup_cons
theorem w7:type_of% @List.getElem_append_left:=@List.getElem_append_left
theorem w9:type_of% @Bool.true_and:=@Bool.true_and
theorem y0:type_of% @List.any_cons:=@List.any_cons
theorem y7:type_of% @List.eq_nil_of_length_eq_zero:=@List.eq_nil_of_length_eq_zero
theorem y9:type_of% @List.mem_take_iff_getElem:=@List.mem_take_iff_getElem
theorem z6:type_of% @List.mem_filter:=@List.mem_filter
theorem z7:type_of% @Option.some.inj:=@Option.some.inj
theorem z8:type_of% @List.length_filter_le:=@List.length_filter_le
theorem aA0:type_of% @List.findIdx?_eq_some_iff_getElem:=@List.findIdx?_eq_some_iff_getElem
theorem aA1:type_of% @List.getElem?_set_self:=@List.getElem?_set_self
theorem aA2:type_of% @List.append_nil:=@List.append_nil
theorem aA3:type_of% @Classical.byContradiction:=@Classical.byContradiction
theorem aA4:type_of% @List.cons_append:=@List.cons_append
theorem aA5:type_of% @congrArg:=@congrArg
theorem aA6:type_of% @List.map_map:=@List.map_map
theorem aA7:type_of% @List.length_set:=@List.length_set
theorem aA8:type_of% @List.length_append:=@List.length_append
theorem aA9:type_of% @List.all_cons:=@List.all_cons
theorem aB0:type_of% @Bool.false_or:=@Bool.false_or
theorem aB1:type_of% @List.mem_append_left:=@List.mem_append_left
theorem aB2:type_of% @List.length_cons:=@List.length_cons
theorem aB3:type_of% @List.getElem?_set:=@List.getElem?_set
theorem aB4:type_of% @Bool.eq_iff_iff:=@Bool.eq_iff_iff
theorem aB5:type_of% @Bool.false_eq_true:=@Bool.false_eq_true
theorem aB6:type_of% @List.perm_middle:=@List.perm_middle
theorem aB7:type_of% @List.mem_flatMap:=@List.mem_flatMap
theorem aB8:type_of% @if_false:=@if_false
theorem aB9:type_of% @List.flatten_cons:=@List.flatten_cons
theorem aC0:type_of% @List.mem_or_eq_of_mem_set:=@List.mem_or_eq_of_mem_set
theorem aC1:type_of% @Nat.lt_or_ge:=@Nat.lt_or_ge
theorem aC2:type_of% @List.filter_append:=@List.filter_append
theorem aC3:type_of% @List.getElem?_eq_none:=@List.getElem?_eq_none
theorem aC4:type_of% @List.take_length:=@List.take_length
theorem aC5:type_of% @List.pairwise_cons:=@List.pairwise_cons
theorem aC6:type_of% @List.take_of_length_le:=@List.take_of_length_le
theorem aC7:type_of% @List.cons.injEq:=@List.cons.injEq
theorem aC8:type_of% @Bool.or_eq_true:=@Bool.or_eq_true
theorem aC9:type_of% @List.range_succ:=@List.range_succ
theorem aD0:type_of% @List.filter_cons:=@List.filter_cons
theorem aD1:type_of% @List.map_congr_left:=@List.map_congr_left
theorem aD2:type_of% @List.ext_getElem?:=@List.ext_getElem?
theorem aD3:type_of% @Int.toNat_natCast:=@Int.toNat_natCast
theorem aD4:type_of% @List.set_eq_take_append_cons_drop:=@List.set_eq_take_append_cons_drop
theorem aD5:type_of% @List.length_eq_zero_iff:=@List.length_eq_zero_iff
theorem aD6:type_of% @List.mem_cons_self:=@List.mem_cons_self
theorem aD7:type_of% @List.filter_eq_nil_iff:=@List.filter_eq_nil_iff
theorem aD8:type_of% @List.take_succ_cons:=@List.take_succ_cons
theorem aD9:type_of% @List.eraseIdx_eq_take_drop_succ:=@List.eraseIdx_eq_take_drop_succ
theorem aE0:type_of% @of_decide_eq_true:=@of_decide_eq_true
theorem aE1:type_of% @Nat.add_zero:=@Nat.add_zero
theorem aE2:type_of% @Option.map_some:=@Option.map_some
theorem aE3:type_of% @List.mem_of_mem_eraseIdx:=@List.mem_of_mem_eraseIdx
theorem aE4:type_of% @List.take_append_of_le_length:=@List.take_append_of_le_length
theorem aE5:type_of% @Nat.pow_le_pow_right:=@Nat.pow_le_pow_right
theorem aE6:type_of% @Nat.le_mul_of_pos_right:=@Nat.le_mul_of_pos_right
theorem aE7:type_of% @Option.bind_eq_some_iff:=@Option.bind_eq_some_iff
theorem aE8:type_of% @Prod.mk.injEq:=@Prod.mk.injEq
theorem aE9:type_of% @List.any_eq_false:=@List.any_eq_false
theorem aF0:type_of% @List.nodup_append:=@List.nodup_append
theorem aF1:type_of% @List.length_nil:=@List.length_nil
theorem aF2:type_of% @if_true:=@if_true
theorem aF3:type_of% @List.getElem?_take:=@List.getElem?_take
theorem aF4:type_of% @Nat.ble_eq_true_of_le:=@Nat.ble_eq_true_of_le
theorem aF5:type_of% @List.findIdx?_cons:=@List.findIdx?_cons
theorem aF6:type_of% @Bool.and_eq_false_iff:=@Bool.and_eq_false_iff
theorem aF7:type_of% @List.drop_zero:=@List.drop_zero
theorem aF8:type_of% @Nat.zero_le:=@Nat.zero_le
theorem aF9:type_of% @Ne.symm:=@Ne.symm
theorem aG0:type_of% @Nat.mul_le_mul_right:=@Nat.mul_le_mul_right
theorem aG1:type_of% @List.length_eraseIdx:=@List.length_eraseIdx
theorem aG2:type_of% @List.mem_iff_getElem:=@List.mem_iff_getElem
theorem aG3:type_of% @List.foldl_cons:=@List.foldl_cons
theorem aG4:type_of% @List.nil_append:=@List.nil_append
theorem aG5:type_of% @Int.le_refl:=@Int.le_refl
theorem aG6:type_of% @List.drop_succ_cons:=@List.drop_succ_cons
theorem aG7:type_of% @List.any_eq_true:=@List.any_eq_true
theorem aG8:type_of% @Int.natCast_zero:=@Int.natCast_zero
theorem aG9:type_of% @List.getElem?_drop:=@List.getElem?_drop
theorem aH0:type_of% @List.append_of_mem:=@List.append_of_mem
theorem aH1:type_of% @List.map_nil:=@List.map_nil
theorem aH2:type_of% @List.set_set:=@List.set_set
theorem aH3:type_of% @Option.any_some:=@Option.any_some
theorem aH4:type_of% @Nat.le_trans:=@Nat.le_trans
theorem aH5:type_of% @Nat.add_comm:=@Nat.add_comm
theorem aH6:type_of% @Nat.beq_refl:=@Nat.beq_refl
theorem aH7:type_of% @Nat.pow_succ:=@Nat.pow_succ
end Go.Am
section
section
section
namespace Go.Am
class Mode where
 dr:Prop
def cOf:List (Nat×Array Value):=[(3,((List.range 20).map λi=>Value.int .u64 ((10^i:Nat):Int)).toArray)]
def cOe:List Nat:=[0]
def Amb(w:World)(X:Nat->Nat->Prop):Prop:=
 (∀p∈cOf,∃e f,w.heap[p.1]?=some (.cells p.2 e f)/\∀o,¬X p.1 o)/\∀b∈cOe,∃(m:Int) (e:TypeId) (f:Nat×Nat),w.heap[b]?=some (.cells #[.int .i64 m] e f)/\∀o,¬X b o
theorem Amb.mono{w w':World}{X X':Nat->Nat->Prop}(h:Amb w X)(hm:∀r c e f,w.heap[r]?=some (.cells c e f)->(∀o,¬X r o)->w'.heap[r]?=some (.cells c e f)/\∀o,¬X' r o):Amb w' X':=
 ⟨λp hp=>let⟨e,f,h1,h2⟩:=h.1 p hp;⟨e,f,hm _ _ _ _ h1 h2⟩,λb hb=>let⟨m,e,f,h1,h2⟩:=h.2 b hb;⟨m,e,f,hm _ _ _ _ h1 h2⟩⟩
end Go.Am
end
section
namespace Go.Am
abbrev aR:=Nat->Nat->Prop
inductive D where
 |lit (v:Value)
 |sl (k:Nat) (rows:List (List D))
 |sn (k:Nat) (rows:List (List D)) -- a slice that is not nil
 |mp (agg:Bool) (es:List (Value×List D)) -- a map
 |pt (xs:List D) -- a pointer to cells
 |fc (m:Bool) (f:FuncId) (xs:List D) -- a function with what it holds: its receiver (m), or pointers to variables
 |hv (q h j:Nat) -- a handle: nothing that the machine holds
inductive DR(w:World)(X:aR):D->Value->Prop where
 |lit (v:Value) (h:v.oneCell'=true):DR w X (.lit v) v
 |nil (k:Nat):DR w X (.sl k []) (.slice none 0 0)
 |e0 (k:Nat) (a:Addr):DR w X (.sl k []) (.slice (some a) 0 0)
 |e1 (k:Nat) (a:Addr):DR w X (.sn k []) (.slice (some a) 0 0)
 | sl (k:Nat) (rows:List (List D)) (b o cap:Nat) (f:Nat->Nat->Value)
   (hk:∀r∈rows,r.length=k) (hcap:rows.length<=cap) (hmax:cap<=maxLen)
   (hc:∀i j,i<rows.length->j<k->w.cell? ⟨b,o+(i*k+j),none⟩=some (f i j)/\¬X b (o+(i*k+j)))
   (hr:∀i j,i<rows.length->j<k->DR w X ((rows.getD i []).getD j (.lit undef)) (f i j)):
   DR w X (.sl k rows) (.slice (some ⟨b,o,none⟩) rows.length cap)
 | sn (k:Nat) (rows:List (List D)) (b o cap:Nat) (f:Nat->Nat->Value)
   (hk:∀r∈rows,r.length=k) (hcap:rows.length<=cap) (hmax:cap<=maxLen)
   (hc:∀i j,i<rows.length->j<k->w.cell? ⟨b,o+(i*k+j),none⟩=some (f i j)/\¬X b (o+(i*k+j)))
   (hr:∀i j,i<rows.length->j<k->DR w X ((rows.getD i []).getD j (.lit undef)) (f i j)):
   DR w X (.sn k rows) (.slice (some ⟨b,o,none⟩) rows.length cap)
 | mp (agg:Bool) (es:List (Value×List D)) (r clock:Nat) (ms:Array MapEntry) (f:Nat->Nat->Value)
   (hb:w.heap[r]?=some (.map ms clock)) (hx:∀o,¬X r o) (hk:ms.toList.map (·.key)=es.map (·.1)) (hp:(ms.toList.map (·.born)).Pairwise (·<·)) (hc:∀b∈ms.toList.map (·.born),b<clock)
   (hv:∀(i:Nat) (m:MapEntry) (e:Value×List D),ms.toList[i]?=some m->es[i]?=some e->m.val=bif agg then .agg ((List.range e.2.length).map (f i)).toArray else f i 0)
   (h1:agg=false->∀e∈es,e.2.length=1)
   (hr:∀(i j:Nat) (e:Value×List D) (d:D),es[i]?=some e->e.2[j]?=some d->DR w X d (f i j)):DR w X (.mp agg es) (.map (some r))
 |pt (xs:List D) (b o:Nat) (f:Nat->Value) (hc:∀j,j<xs.length->w.cell? ⟨b,o+j,none⟩=some (f j)/\¬X b (o+j)) (hr:∀(j:Nat) (d:D),xs[j]?=some d->DR w X d (f j)):DR w X (.pt xs) (.pointer (some ⟨b,o,none⟩))
 | fc (m:Bool) (f:FuncId) (xs:List D) (us:List Value) (hl:us.length=xs.length) (hr:∀(j:Nat) (d:D),xs[j]?=some d->DR w X d (us.getD j undef)):
   DR w X (.fc m f xs) (.func (.func f) (bif m then us.toArray else #[]) (bif m then #[] else us.toArray))
theorem DR.weak{w:World}{X:aR}{k:Nat}{rows:List (List D)}{v:Value}(h:DR w X (.sn k rows) v):DR w X (.sl k rows) v:=by
 cases h with
 |e1 k a=>exact .e0 k a
 |sn _ _ b o cap f hk hcap hmax hc hr=>exact .sl k rows b o cap f hk hcap hmax hc hr
theorem DR.strong{w:World}{X:aR}{k:Nat}{rows:List (List D)}{v:Value}(h:DR w X (.sl k rows) v)(hn:v≠.slice none 0 0):DR w X (.sn k rows) v:=by
 cases h with
 |nil=>exact absurd rfl hn
 |e0 k a=>exact .e1 k a
 |sl _ _ b o cap f hk hcap hmax hc hr=>exact .sn k rows b o cap f hk hcap hmax hc hr
theorem DR.oneCell{w:World}{X:aR}{d:D}{v:Value}(h:DR w X d v):v.oneCell'=true:=by
 cases h with
 |lit v h=>exact h
 |nil k=>rfl
 |e0=>rfl
 |e1=>rfl
 |sl=>rfl
 |sn=>rfl
 |mp=>rfl
 |pt=>rfl
 |fc=>rfl
def cellsAt(w:World)(b o:Nat)(vs:List Value):Prop:=∀j v,vs[j]?=some v->w.cell? ⟨b,o+j,none⟩=some v
def DRs(w:World)(X:aR):List D->List Value->Prop
 |[],[]=>True
 |d::ds,v::vs=>DR w X d v/\DRs w X ds vs
 |_,_=>False
structure Mono(w:World)(X:aR)(w':World)(X':aR):Prop where
 cell:∀b o v,w.cell? ⟨b,o,none⟩=some v->¬X b o->w'.cell? ⟨b,o,none⟩=some v/\¬X' b o
 map:∀r ms c,w.heap[r]?=some (.map ms c)->(∀o,¬X r o)->w'.heap[r]?=some (.map ms c)/\∀o,¬X' r o
 blk:∀r c e f,w.heap[r]?=some (.cells c e f)->(∀o,¬X r o)->w'.heap[r]?=some (.cells c e f)/\∀o,¬X' r o
theorem Mono.sub{w:World}{X X':aR}(h:∀b o,X' b o->X b o):Mono w X w X':=⟨λ_ _ _ hc hx=>⟨hc,λh'=>hx (h _ _ h')⟩,λ_ _ _ hc hx=>⟨hc,λo h'=>hx o (h _ _ h')⟩,λ_ _ _ _ hc hx=>⟨hc,λo h'=>hx o (h _ _ h')⟩⟩
theorem Mono.trans{a b c:World}{X Y Z:aR}(h:Mono a X b Y)(k:Mono b Y c Z):Mono a X c Z:=
 ⟨λx o v hc hx=>let⟨h1,h2⟩:=h.cell x o v hc hx;k.cell x o v h1 h2,λr ms q hr hx=>let⟨h1,h2⟩:=h.map r ms q hr hx;k.map r ms q h1 h2,λr c e f hr hx=>let⟨h1,h2⟩:=h.blk r c e f hr hx;k.blk r c e f h1 h2⟩
theorem Mono.refl(w:World)(X:aR):Mono w X w X:=Mono.sub λ_ _ h=>h
theorem Amb.on{w w':World}{X X':aR}(h:Amb w X)(hm:Mono w X w' X'):Amb w' X':=h.mono hm.blk
section mono
variable{w w':World}{X X':aR}
theorem DR.mono(hm:Mono w X w' X'){d:D}{v:Value}(h:DR w X d v):DR w' X' d v:=by
 induction h with
 |lit v h=>exact .lit v h
 |nil k=>exact .nil k
 |e0 k a=>exact .e0 k a
 |e1 k a=>exact .e1 k a
 | sl k rows b o cap f hk hcap hmax hc _ ih=>
  exact .sl k rows b o cap f hk hcap hmax (λi j hi hj=>hm.cell _ _ _ (hc i j hi hj).1 (hc i j hi hj).2) ih
 | sn k rows b o cap f hk hcap hmax hc _ ih=>
  exact .sn k rows b o cap f hk hcap hmax (λi j hi hj=>hm.cell _ _ _ (hc i j hi hj).1 (hc i j hi hj).2) ih
 | mp agg es r clock ms f hb hx hk hp hc hv h1 _ ih=>
  exact .mp agg es r clock ms f (hm.map _ _ _ hb hx).1 (hm.map _ _ _ hb hx).2 hk hp hc hv h1 ih
 |pt xs b o f hc _ ih=>exact .pt xs b o f (λj hj=>hm.cell _ _ _ (hc j hj).1 (hc j hj).2) ih
 |fc m f xs us hl _ ih=>exact .fc m f xs us hl ih
theorem DRs.mono(hm:Mono w X w' X'):∀{ds:List D} {vs:List Value},DRs w X ds vs->DRs w' X' ds vs
 |[],[],_=>trivial
 |_::_,_::_,h=>⟨h.1.mono hm,DRs.mono hm h.2⟩
theorem DRs.length:∀{ds:List D} {vs:List Value},DRs w X ds vs->vs.length=ds.length
 |[],[],_=>rfl
 |_::_,_::_,h=>by simp[DRs.length h.2]
theorem DRs.get:∀{ds:List D} {vs:List Value},DRs w X ds vs->∀{j:Nat} {d:D},ds[j]?=some d->∃v,vs[j]?=some v/\DR w X d v
 |[],[],_,j,d,h=>by simp at h
 |d0::ds,v0::vs,h,0,d,hj=>by simp at hj;subst hj;exact⟨v0,rfl,h.1⟩
 |d0::ds,v0::vs,h,j+1,d,hj=>by simpa using DRs.get h.2 (j:=j) (by simpa using hj)
theorem DRs.getV:∀{ds:List D} {vs:List Value},DRs w X ds vs->∀{j:Nat} {v:Value},vs[j]?=some v->∃d,ds[j]?=some d/\DR w X d v
 |[],[],_,j,d,h=>by simp at h
 |d0::ds,v0::vs,h,0,d,hj=>by simp at hj;subst hj;exact⟨d0,rfl,h.1⟩
 |d0::ds,v0::vs,h,j+1,d,hj=>by simpa using DRs.getV h.2 (j:=j) (by simpa using hj)
theorem DRs.of:∀{ds:List D} {vs:List Value},vs.length=ds.length->(∀(j:Nat) (d:D) (v:Value),ds[j]?=some d->vs[j]?=some v->DR w X d v)->DRs w X ds vs
 |[],[],_,_=>trivial
 |d::ds,v::vs,hl,h=>⟨h 0 d v rfl rfl,DRs.of (by simpa using hl) λj d v hd hv=>h (j+1) d v (by simpa using hd) (by simpa using hv)⟩
 |[],_::_,hl,_=>by simp at hl
 |_::_,[],hl,_=>by simp at hl
theorem DRs.append{ds ds':List D}{vs vs':List Value}(h:DRs w X ds vs)(h':DRs w X ds' vs'):DRs w X (ds++ds') (vs++vs'):=by
 induction ds generalizing vs with
 | nil=>cases vs with
  |nil=>exact h'
  |cons v vs=>exact h.elim
 | cons d ds ih=>cases vs with
  |nil=>exact h.elim
  |cons v vs=>exact⟨h.1,ih h.2⟩
theorem DRs.take{ds:List D}{vs:List Value}(h:DRs w X ds vs)(n:Nat):DRs w X (ds.take n) (vs.take n):=by
 induction ds generalizing vs n with
 | nil=>cases vs with
  |nil=>simpa using h
  |cons v vs=>exact h.elim
 | cons d ds ih=>cases vs with
  |nil=>exact h.elim
  | cons v vs=>cases n with
   |zero=>exact trivial
   |succ n=>exact⟨h.1,ih h.2 n⟩
theorem DRs.drop{ds:List D}{vs:List Value}(h:DRs w X ds vs)(n:Nat):DRs w X (ds.drop n) (vs.drop n):=by
 induction ds generalizing vs n with
 | nil=>cases vs with
  |nil=>simpa using h
  |cons v vs=>exact h.elim
 | cons d ds ih=>cases vs with
  |nil=>exact h.elim
  | cons v vs=>cases n with
   |zero=>exact h
   |succ n=>exact ih h.2 n
theorem DRs.set{ds:List D}{vs:List Value}(h:DRs w X ds vs)(n:Nat){d:D}{v:Value}(hd:DR w X d v):DRs w X (ds.set n d) (vs.set n v):=by
 induction ds generalizing vs n with
 | nil=>cases vs with
  |nil=>exact trivial
  |cons v vs=>exact h.elim
 | cons d ds ih=>cases vs with
  |nil=>exact h.elim
  | cons v vs=>cases n with
   |zero=>exact⟨hd,h.2⟩
   |succ n=>exact⟨h.1,ih h.2 n⟩
theorem DRs.oneCell{ds:List D}{vs:List Value}(h:DRs w X ds vs):∀v∈vs,v.oneCell'=true:=by
 intro v hv;obtain⟨j,hj⟩:=List.getElem?_of_mem hv;obtain⟨d,_,hd⟩:=h.getV hj;exact hd.oneCell
theorem cellsAt.drop{b o:Nat}{vs:List Value}(h:cellsAt w b o vs)(n:Nat):cellsAt w b (o+n) (vs.drop n):=by
 intro j v hj;rw[aG9] at hj;rw[Nat.add_assoc];exact h _ _ hj
theorem cellsAt.take{b o:Nat}{vs:List Value}(h:cellsAt w b o vs)(n:Nat):cellsAt w b o (vs.take n):=by
 intro j v hj;rw[aF3] at hj;split at hj
 ·exact h _ _ hj
 ·cases hj
end mono
inductive AV where
 |any
 |d (x:D)
 |agg (xs:List D)
 |cp (xs:List D)
 |bp (b o j:Nat)
 |ep (v:Value) (k i c:Nat)
 |tup (vs:List AV)
 |fn (f:FuncId) (caps:List AV)
 |mf (f:FuncId) (bound:List AV) -- a method with its receiver
 |fl (nn:Bool) (k:Nat) (rows:List (List D)) -- a frozen slice without room behind it
inductive VR(w:World)(X:aR):AV->Value->Prop where
 |any (v:Value):VR w X .any v
 |d {x:D} {v:Value} (h:DR w X x v):VR w X (.d x) v
 |agg {xs:List D} {cs:Array Value} (h:DRs w X xs cs.toList):VR w X (.agg xs) (.agg cs)
 | cp {xs:List D} {vs:List Value} (b o:Nat) (h:DRs w X xs vs) (hc:cellsAt w b o vs) (hx:∀j,j<xs.length->¬X b (o+j)):
   VR w X (.cp xs) (.pointer (some ⟨b,o,none⟩))
 |bp (b o j:Nat):VR w X (.bp b o j) (.pointer (some ⟨b,o+j,none⟩))
 |ep (g n q k i c:Nat):VR w X (.ep (.slice (some ⟨g,0,none⟩) n q) k i c) (.pointer (some ⟨g,i*k+c,none⟩))
 | tup {vs:List AV} {us:List Value} (hl:us.length=vs.length) (h:∀i,i<vs.length->VR w X (vs.getD i .any) (us.getD i undef)):
   VR w X (.tup vs) (.tuple us.toArray)
 | fn {f:FuncId} {caps:List AV} {us:List Value} (hl:us.length=caps.length) (h:∀i,i<caps.length->VR w X (caps.getD i .any) (us.getD i undef)):
   VR w X (.fn f caps) (.func (.func f) #[] us.toArray)
 | mf {f:FuncId} {bound:List AV} {us:List Value} (hl:us.length=bound.length) (h:∀i,i<bound.length->VR w X (bound.getD i .any) (us.getD i undef)):
   VR w X (.mf f bound) (.func (.func f) us.toArray #[])
 |fl {nn:Bool} {k:Nat} {rows:List (List D)} {v:Value} (h:DR w X (.sl k rows) v) (hc:v=.slice none 0 0\/∃a n,v=.slice (some a) n n) (hn:nn=true->v≠.slice none 0 0):VR w X (.fl nn k rows) v
theorem VR.mono{w w':World}{X X':aR}(hm:Mono w X w' X'){x:AV}{v:Value}(h:VR w X x v):VR w' X' x v:=by
 induction h with
 |any v=>exact .any v
 |d h=>exact .d (h.mono hm)
 |agg h=>exact .agg (h.mono hm)
 | cp b o h hc hx=>
  refine .cp b o (h.mono hm) (λj v hj=>?_) (λj hj=>?_)
  ·have hlt:j<_:=(g7.1 hj).1;exact(hm.cell _ _ _ (hc j v hj) (hx j (by rw[<-h.length];exact hlt))).1
  ·have hlt:=hj;rw[<-h.length] at hlt;exact(hm.cell _ _ _ (hc j _ (g9 hlt)) (hx j hj)).2
 |bp b o j=>exact .bp b o j
 |ep g n q k i c=>exact .ep g n q k i c
 |tup hl _ ih=>exact .tup hl ih
 |fn hl _ ih=>exact .fn hl ih
 |mf hl _ ih=>exact .mf hl ih
 |fl h hc hn=>exact .fl (h.mono hm) hc hn
def VRs(w:World)(X:aR):List AV->List Value->Prop
 |[],[]=>True
 |x::xs,v::vs=>VR w X x v/\VRs w X xs vs
 |_,_=>False
theorem VRs.length{w:World}{X:aR}:∀{xs:List AV} {vs:List Value},VRs w X xs vs->vs.length=xs.length
 |[],[],_=>rfl
 |_::_,_::_,h=>by simp[VRs.length h.2]
theorem VRs.getD{w:World}{X:aR}:∀{xs:List AV} {vs:List Value},VRs w X xs vs->∀i,VR w X (xs.getD i .any) (vs.getD i undef)
 |[],[],_,i=>by simp;exact .any _
 |x::xs,v::vs,h,0=>h.1
 |x::xs,v::vs,h,i+1=>by simpa using VRs.getD h.2 i
theorem VRs.mono{w w':World}{X X':aR}(hm:Mono w X w' X'):∀{xs:List AV} {vs:List Value},VRs w X xs vs->VRs w' X' xs vs
 |[],[],_=>trivial
 |_::_,_::_,h=>⟨h.1.mono hm,VRs.mono hm h.2⟩
theorem VRs.append{w:World}{X:aR}:∀{xs:List AV} {vs:List Value} {ys:List AV} {us:List Value},VRs w X xs vs->VRs w X ys us->VRs w X (xs++ys) (vs++us)
 |[],[],_,_,_,h=>h
 |_::_,_::_,_,_,h,h'=>⟨h.1,VRs.append h.2 h'⟩
inductive MO where
 |box (b o:Nat) (ds:List D)
 |arr (v:Value) (e k:Nat) (rows:List (List D))
 |map (r:Nat) (es:List (Value×AV)) (bs:List Nat) (clock:Nat)
 |iter (r m since:Nat) (seen:List Nat) (last:Nat) -- where a range over a map stands
 |fam (e k:Nat) (vs:List Value) (rss:List (List (List D))) -- a family of growable slices
 |ext (F:aR) (H:World->aR->Prop) -- what another call holds meanwhile
def MO.foot:MO->aR
 | .box b o ds=>λx y=>x=b/\o<=y/\y<o+ds.length
 | .arr v _ _ _=>λx _=>v.ownBlock=some x
 | .map r _ _ _=>λx _=>x=r
 | .iter r _ _ _ _=>λx _=>x=r
 | .fam _ _ vs _=>λx _=>∃v∈vs,v.ownBlock=some x
 | .ext F _=>F
def MRs(w:World)(X:aR):List (Value×AV)->List MapEntry->Prop
 |[],[]=>True
 |(k,x)::es,m::ms=>m.key=k/\VR w X x m.val/\MRs w X es ms
 |_,_=>False
theorem MRs.mono{w w':World}{X X':aR}(hm:Mono w X w' X'):∀{es:List (Value×AV)} {ms:List MapEntry},MRs w X es ms->MRs w' X' es ms
 |[],[],_=>trivial
 |(_,_)::_,_::_,h=>⟨h.1,h.2.1.mono hm,MRs.mono hm h.2.2⟩
def aNn(w:World)(X:aR)(v:Value)(e k:Nat)(rows:List (List D)):Prop:=
 ∃xs,DRs w X rows.flatten xs/\w.ownsRow 0 e k v rows.length xs/\∀r∈rows,r.length=k
def cKd(vs:List Value):Prop:=vs.Pairwise λa b=>∀x,a.ownBlock=some x->b.ownBlock≠some x
structure Keeps[Mode](M:aR)(w w':World):Prop where
 os:w'.os=w.os
 tape:w'.tape=w.tape
 output:w'.output=w.output
 size:w.heap.size<=w'.heap.size
 block:∀b,b<w.heap.size->(∀o,¬M b o)->w'.heap[b]?=w.heap[b]?
 cell:∀b o,b<w.heap.size->¬M b o->w'.cell? ⟨b,o,none⟩=w.cell? ⟨b,o,none⟩
 frz:∀b o,b<w.heap.size->¬M b o->w'.frozen? ⟨b,o,none⟩=w.frozen? ⟨b,o,none⟩
 drawn:Mode.dr->w.drawn<=w'.drawn
def MO.holds[Mode](w:World)(X:aR):MO->Prop
 | .box b o ds=>∃vs,DRs w X ds vs/\cellsAt w b o vs/\∀j,j<ds.length->w.frozen? ⟨b,o+j,none⟩=false
 | .arr v e k rows=>∃xs,DRs w X rows.flatten xs/\w.ownsRow 0 e k v rows.length xs/\∀r∈rows,r.length=k
 | .map r es bs clock=>∃ms,w.heap[r]?=some (.map ms clock)/\MRs w X es ms.toList/\ms.toList.map (·.born)=bs/\bs.Pairwise (·<·)/\∀b∈bs,b<clock
 | .iter r m since seen last=>w.heap[r]?=some (.mapIter (some m) since seen.toArray last)
 | .fam e k vs rss=>vs.length=rss.length/\cKd vs/\∀(i:Nat) (v:Value) (rows:List (List D)),vs[i]?=some v->rss[i]?=some rows->aNn w X v e k rows
 | .ext F H=>(∀b o,F b o->b<w.heap.size)/\∀(w':World) (X':aR),Mono w X w' X'->Keeps (λb o=>¬F b o) w w'->H w' X'
def fJ(objs:List MO):aR:=λb o=>∃m∈objs,m.foot b o
def aU(A:aR)(objs:List MO):aR:=λb o=>A b o\/fJ objs b o
theorem Keeps.refl[Mode](M:aR)(w:World):Keeps M w w:=
 ⟨rfl,rfl,rfl,n5 _,λ_ _ _=>rfl,λ_ _ _ _=>rfl,λ_ _ _ _=>rfl,λ_=>n5 _⟩
theorem Keeps.trans[Mode]{M:aR}{a b c:World}(h:Keeps M a b)(k:Keeps M b c):Keeps M a c:=
  ⟨k.os.trans h.os,k.tape.trans h.tape,k.output.trans h.output,aH4 h.size k.size,
   λi hi hm=>(k.block i (u4 hi h.size) hm).trans (h.block i hi hm),
   λi o hi hm=>(k.cell i o (u4 hi h.size) hm).trans (h.cell i o hi hm),
   λi o hi hm=>(k.frz i o (u4 hi h.size) hm).trans (h.frz i o hi hm),λhd=>aH4 (h.drawn hd) (k.drawn hd)⟩
theorem Keeps.weaken[Mode]{M Z:aR}{w0 w w':World}(h:Keeps M w0 w)(k:Keeps Z w w')(hz:∀b o,Z b o->M b o\/w0.heap.size<=b):Keeps M w0 w':=
  ⟨k.os.trans h.os,k.tape.trans h.tape,k.output.trans h.output,aH4 h.size k.size,
   fun i hi hm=>(k.block i (u4 hi h.size) λo hzo=>by
      rcases hz i o hzo with h1|h1
      · exact hm o h1
      · omega).trans (h.block i hi hm),
   fun i o hi hm=>(k.cell i o (u4 hi h.size) λhzo=>by
      rcases hz i o hzo with h1|h1
      · exact hm h1
      · omega).trans (h.cell i o hi hm),
   fun i o hi hm=>(k.frz i o (u4 hi h.size) λhzo=>by
      rcases hz i o hzo with h1|h1
      · exact hm h1
      · omega).trans (h.frz i o hi hm),λhd=>aH4 (h.drawn hd) (k.drawn hd)⟩
theorem Keeps.mono[Mode]{M M':aR}{w w':World}(h:Keeps M w w')(hm:∀b o,M b o->M' b o):Keeps M' w w':=
 ⟨h.os,h.tape,h.output,h.size,λb hb h'=>h.block b hb λo ho=>h' o (hm _ _ ho),λb o hb h'=>h.cell b o hb λho=>h' (hm _ _ ho),λb o hb h'=>h.frz b o hb λho=>h' (hm _ _ ho),h.drawn⟩
def Sep(objs:List MO):Prop:=objs.Pairwise λm m'=>∀b o,m.foot b o->¬m'.foot b o
structure Inv[Mode](w:World)(A:aR)(objs:List MO):Prop where
 sep:Sep objs
 apart:∀m∈objs,∀b o,m.foot b o->¬A b o
 holds:∀m∈objs,m.holds w (aU A objs)
 amb:Amb w (aU A objs)
theorem lU[Mode]{w:World}{X:aR}{m:MO}(h:m.holds w X){b o:Nat}(hf:m.foot b o):b<w.heap.size:=by
 cases m with
 | box b' o' ds=>
  obtain⟨vs,hd,hc,_⟩:=h;obtain⟨rfl,h1,h2⟩:=hf;have hlt:o-o'<vs.length:=by rw[hd.length];omega
  have:=hc (o-o') _ (g9 hlt);exact block_lt_of_cell this
 | arr v e k rows=>
  obtain⟨xs,_,hown,_⟩:=h;exact(hown.lt b hf).2
 | map r es bs clock=>
  obtain⟨ms,hh,_⟩:=h;cases hf;exact(j8.1 hh).1
 | iter r m since seen last=>
  cases hf;exact(j8.1 h).1
 | fam e k vs rss=>
  obtain⟨hl,_,hh⟩:=h;obtain⟨v,hv,hb⟩:=hf;obtain⟨i,hi,rfl⟩:=n6 hv;obtain⟨xs,_,hown,_⟩:=hh i vs[i] (rss[i]'(by omega)) (g9 hi) (g9 (by omega));exact(hown.lt b hb).2
 |ext F H=>exact h.1 _ _ hf
theorem aQb[Mode]{w w':World}{X X' Z:aR}{v:Value}{e k:Nat}{rows:List (List D)}(h:aNn w X v e k rows)(hk:Keeps Z w w')(hz:∀b o,v.ownBlock=some b->¬Z b o)(hm:Mono w X w' X'):aNn w' X' v e k rows:=by
 obtain⟨xs,hd,hown,hr⟩:=h;refine⟨xs,hd.mono hm,⟨hown.1,?_⟩,hr⟩
 rcases hown.2 with hn|⟨g,cap,cur,rfl,hb,hg,rest⟩
 ·exact .inl hn
 ·refine .inr ⟨g,cap,cur,rfl,hb,?_,rest⟩;rw[hk.block g (j8.1 hg).1 λo=>hz g o rfl];exact hg
theorem cI[Mode]{w w':World}{X X' Z:aR}{m:MO}(h:m.holds w X)(hk:Keeps Z w w')(hz:∀b o,m.foot b o->¬Z b o)(hm:Mono w X w' X'):m.holds w' X':=by
 cases m with
 | box b o ds=>
  have hlt:=λy hy=>lU (o:=y) h (b:=b) hy;obtain⟨vs,hd,hc,hf⟩:=h;refine⟨vs,hd.mono hm,λj v hj=>?_,λj hj=>?_⟩
  ·have hj':j<ds.length:=by rw[<-hd.length];exact(g7.1 hj).1
   rw[hk.cell b (o+j) (hlt (o+j) ⟨rfl,by omega,by omega⟩) (hz _ _ ⟨rfl,by omega,by omega⟩)];exact hc j v hj
  ·rw[hk.frz _ _ (hlt (o+j) ⟨rfl,by omega,by omega⟩) (hz _ _ ⟨rfl,by omega,by omega⟩)];exact hf j hj
 |arr v e k rows=>exact aQb h hk (λb o hb=>hz b o hb) hm
 | map r es bs clock=>
  obtain⟨ms,hh,hms,hb⟩:=h;refine⟨ms,?_,hms.mono hm,hb⟩;rw[hk.block r (j8.1 hh).1 λo=>hz r o rfl];exact hh
 | iter r m since seen last=>
  refine Eq.trans (hk.block r (j8.1 h).1 λo=>hz r o rfl) h
 | fam e k vs rss=>
  obtain⟨hl,hs,hh⟩:=h;exact⟨hl,hs,λi v rows hv hr=>aQb (hh i v rows hv hr) hk (λb o hb=>hz b o ⟨v,i8 hv,hb⟩) hm⟩
 | ext F H=>
  exact⟨λb o hf=>u4 (h.1 b o hf) hk.size,λw2 X2 hm2 hk2=>h.2 w2 X2 (hm.trans hm2) ((hk.mono λb o hzb hf=>hz b o hf hzb).trans hk2)⟩
def elE(agg:Bool)(e:Value×List D):Value×AV:=(e.1,bif agg then .agg e.2 else .d (e.2.getD 0 (.lit undef)))
def mx(r:Nat)(agg:Bool)(es:List (Value×List D)):MO:=.ext (λb _=>b=r) λw X=>(agg=false->∀e∈es,e.2.length=1)/\∃ms ck,w.heap[r]?=some (.map ms ck)/\MRs w X (es.map (elE agg)) ms.toList/\(ms.toList.map (·.born)).Pairwise (·<·)/\∀b∈ms.toList.map (·.born),b<ck
theorem cNg[Mode]{w:World}{X:aR}{r:Nat}{agg:Bool}{es:List (Value×List D)}{bs:List Nat}{ck:Nat}(h1:agg=false->∀e∈es,e.2.length=1)(h:(MO.map r (es.map (elE agg)) bs ck).holds w X):(mx r agg es).holds w X:=by
 obtain⟨ms,h2,h3,h4,h5,h6⟩:=h;have hlt:=(j8.1 h2).1;refine⟨λb o hb=>hb▸hlt,λw' X' hm hk=>⟨h1,ms,ck,?_,h3.mono hm,h4▸h5,h4▸h6⟩⟩;rw[hk.block r hlt λo h=>h rfl];exact h2
theorem bRf[Mode]{w:World}{X:aR}{r:Nat}{agg:Bool}{es:List (Value×List D)}(h:(mx r agg es).holds w X):(agg=false->∀e∈es,e.2.length=1)/\∃bs ck,(MO.map r (es.map (elE agg)) bs ck).holds w X:=by
 obtain⟨h0,ms,ck,h1,h2,h3,h4⟩:=h.2 w X (Mono.refl _ _) (Keeps.refl _ _);exact⟨h0,_,ck,ms,h1,h2,rfl,h3,h4⟩
end Go.Am
end
end
section
namespace Go.Am
structure St where
 env:Nat->AV
 objs:List MO
def upd(e:Nat->AV)(k:Nat)(v:AV):Nat->AV:=λn=>bif Nat.beq k n then v else e n
def emp:Nat->AV:=λ_=>.any
def aY(n:Nat):List Nat->Bool
 |[]=>false
 |k::l=>bif Nat.beq k n then true else aY n l
def keep(l:List Nat)(e:Nat->AV):Nat->AV:=λn=>bif aY n l then e n else .any
def St.set(st:St)(k:Nat)(v:AV):St:=⟨upd st.env k v,st.objs⟩
def St.keep(st:St)(l:List Nat):St:=⟨Am.keep l st.env,st.objs⟩
def St.put1(st:St)(i:Nat)(m:MO):St:=⟨st.env,st.objs.set i m⟩
def St.setput(st:St)(d:Nat)(v:AV)(i:Nat)(m:MO):St:=⟨upd st.env d v,st.objs.set i m⟩
def St.setadd(st:St)(d:Nat)(v:AV)(m:MO):St:=⟨upd st.env d v,st.objs++[m]⟩
theorem fD(e:Nat->AV)(k:Nat)(v:AV):upd e k v k=v:=by simp[upd]
theorem lC(e:Nat->AV){k n:Nat}(v:AV)(h:k≠n):upd e k v n=e n:=by
 have:Nat.beq k n=false:=by
  cases hb:Nat.beq k n with
  |false=>rfl
  |true=>exact absurd (f7 hb) h
 simp[upd,this]
structure W0 where
 w:World
 ds:List Deferred
 ro:Option Nat
def Marks(X:aR)(w0:W0)(ds:List Deferred)(w:World):Prop:=
 ∃Ds:List Nat,ds=Ds.map (λD=>⟨.collected D, #[]⟩)++w0.ds/\Ds.Nodup/\∀D∈Ds,w.heap[D]?=some (.deferred (some []))/\w0.w.heap.size<=D/\∀o,¬X D o
theorem Marks.nil(X:aR)(w0:W0)(w:World):Marks X w0 w0.ds w:=⟨[],rfl,List.nodup_nil,λD h=>by simp at h⟩
theorem Marks.step[Mode]{X X' Z:aR}{w0:W0}{ds:List Deferred}{w w':World}(h:Marks X w0 ds w)(hk:Keeps Z w w')(hz:∀b o,Z b o->X b o)(hx:∀b o,b<w.heap.size->X' b o->X b o):Marks X' w0 ds w':=by
 obtain⟨Ds,h1,h2,h3⟩:=h;refine⟨Ds,h1,h2,λD hD=>?_⟩;obtain⟨a,b,c⟩:=h3 D hD;have hlt:=(j8.1 a).1;exact⟨(hk.block D hlt λo ho=>c o (hz _ _ ho)).trans a,b,λo ho=>c o (hx _ _ hlt ho)⟩
theorem Marks.sub{X X':aR}{w0:W0}{ds:List Deferred}{w:World}(h:Marks X w0 ds w)(hx:∀b o,X' b o->X b o):Marks X' w0 ds w:=
 haveI:Mode:=⟨True⟩
 h.step (Keeps.refl (λ_ _=>False) w) (λ_ _ h=>h.elim) λb o _ h=>hx b o h
structure R[Mode](A M:aR)(w0:W0)(n:Nat)(st:St)(a:Act)(w:World):Prop where
 size:a.tmps.size=n
 defers:Marks (aU A st.objs) w0 a.defers w
 env:∀k,VR w (aU A st.objs) (st.env k) (a.tmps.getD k undef)
 inv:Inv w A st.objs
 keeps:Keeps M w0.w w
 own:∀m∈st.objs,∀b o,m.foot b o->M b o\/w0.w.heap.size<=b
 old:∀b o,A b o->b<w0.w.heap.size
theorem lR[Mode]{A Z:aR}{w w':World}{objs objs':List MO}(hk:Keeps Z w w')(hz:∀b o,Z b o->aU A objs b o)
  (hl:∀b o,b<w.heap.size->aU A objs' b o->aU A objs b o):Mono w (aU A objs) w' (aU A objs'):=by
 refine⟨λb o v hc hx=>?_,λr ms c hc hx=>?_,λr c e f hc hx=>?_⟩
 ·have hlt:b<w.heap.size:=block_lt_of_cell hc;exact⟨by rw[hk.cell b o hlt λh=>hx (hz _ _ h)];exact hc,λh=>hx (hl _ _ hlt h)⟩
 ·have hlt:r<w.heap.size:=(j8.1 hc).1;exact⟨by rw[hk.block r hlt λo h=>hx o (hz _ _ h)];exact hc,λo h=>hx o (hl _ _ hlt h)⟩
 ·have hlt:r<w.heap.size:=(j8.1 hc).1;exact⟨by rw[hk.block r hlt λo h=>hx o (hz _ _ h)];exact hc,λo h=>hx o (hl _ _ hlt h)⟩
theorem bNl{w:World}{X:aR}{env:Nat->AV}{tmps:Array Value}{n d:Nat}(hs:tmps.size=n)(hd:d<n){x:AV}{v:Value}
  (he:∀k,VR w X (env k) (tmps.getD k undef))(hv:VR w X x v):∀k,VR w X (upd env d x k) ((tmps.setIfInBounds d v).getD k undef):=by
 intro k
 by_cases hk:d=k
 ·subst hk;rw[fD,Array.getD_eq_getD_getElem?,Array.getElem?_setIfInBounds_self_of_lt (by omega)];exact hv
 ·rw[lC _ _ hk,Array.getD_eq_getD_getElem?,Array.getElem?_setIfInBounds_ne hk,<-Array.getD_eq_getD_getElem?];exact he k
theorem R.put[Mode]{A M:aR}{w0:W0}{n:Nat}{st:St}{a:Act}{w:World}(h:R A M w0 n st a w){o:Oper}{d:Nat}(ho:o.dst=some d)(hd:d<n){x:AV}{u:Value}
  (hv:VR w (aU A st.objs) x u):R A M w0 n (st.set d x) (a.put o.dst u) w:=by
 rw[ho];exact⟨by simp[Act.put,h.size],h.defers,bNl h.size hd h.env hv,h.inv,h.keeps,h.own,h.old⟩
theorem R.put_none[Mode]{A M:aR}{w0:W0}{n:Nat}{st:St}{a:Act}{w:World}(h:R A M w0 n st a w){o:Oper}(ho:o.dst=none){u:Value}:R A M w0 n st (a.put o.dst u) w:=by
 rw[ho];exact h
def Step[Mode](P:Program)(n:Nat)(o:Oper)(st:St)(Post:St->Prop):Prop:=
 ∀A M w0 a w,R A M w0 n st a w->∀K Q,(∀st' a' w',Post st'->R A M w0 n st' a' w'->K a' w')->o.wp P a w K Q
abbrev aQ[Mode](P:Program)(n:Nat)(o:Oper)(st st':St):Prop:=Step P n o st (λs=>s=st')
theorem cG[Mode]{P:Program}{n:Nat}{o:Oper}{st:St}{d:Nat}{x:AV}(ho:o.dst=some d)(hd:d<n)
  (h:∀(A M:aR) (w0:W0) (a:Act) (w:World),R A M w0 n st a w->∃u,(execOp a.eval o).run P w=.ok (.value u) w/\VR w (aU A st.objs) x u):
  aQ P n o st (st.set d x):=by
 intro A M w0 a w hR K Q hK;obtain⟨u,hrun,hv⟩:=h A M w0 a w hR;unfold Oper.wp;rw[hrun,Oper.upon_value];refine hK _ _ _ rfl ?_;exact hR.put ho hd hv
def St.eval(st:St):Operand->AV
 | .tmp t=>st.env t
 | .const v=>.d (.lit v)
 | .global _=>.any
 | .func f=>.fn f []
theorem R.eval[Mode]{A M:aR}{w0:W0}{n:Nat}{st:St}{a:Act}{w:World}(h:R A M w0 n st a w)(t:Nat):
  VR w (aU A st.objs) (st.eval (.tmp t)) (a.eval (.tmp t)):=h.env t
def cD:Operand->Bool
 | .const v=>v.oneCell'
 |_=>true
theorem R.eval'[Mode]{A M:aR}{w0:W0}{n:Nat}{st:St}{a:Act}{w:World}(h:R A M w0 n st a w){x:Operand}(hx:cD x=true):
  VR w (aU A st.objs) (st.eval x) (a.eval x):=by
 cases x with
 |tmp t=>exact h.env t
 |const v=>exact .d (.lit v hx)
 |global g=>exact .any _
 |func f=>exact .fn (us:=[]) rfl (λi hi=>by simp at hi)
theorem VR.lit{w:World}{X:aR}{v u:Value}(h:VR w X (.d (.lit v)) u):u=v:=by
 cases h with
 |d h=>cases h;rfl
def fen(ro:Option Nat):Fence:={Fence.wide with round:=ro}
def bPj[Mode](P:Program)(n:Nat)(o:Oper)(st:St)(Post:St->Prop):Prop:=
 ∀A M w0 a w,R A M w0 n st a w->∀K Q,(∀st' a' w',Post st'->R A M w0 n st' a' w'->K a' w')->o.wpIn (fen w0.ro) 0 P a w K Q
theorem bKa{ρ:Operand->Value}{c:Call}{ty:TypeId}{P:Program}{w w':World}{d:Deferred}(h:(resolve ρ c ty).run P w=.ok d w'):∀D,d.target≠.collected D:=by
 unfold resolve at h;split at h
 ·simp[go_sem] at h
  rw[<-h.1];intro D hD;cases hD
 ·simp[go_sem] at h
  rw[<-h.1];intro D hD;cases hD
 ·unfold Deferred.ofValue at h;split at h<;>simp[go_sem] at h<;>(rw[<-h.1];intro D hD;cases hD)
theorem cGw{o:Oper}{P:Program}{a:Act}{w:World}{c:Call}(ho:o.op=.defer c)(h:o.wp P a w (λa' _=>∃Ds:List Nat,a'.defers=Ds.map (λD=>⟨.collected D, #[]⟩)++a.defers) (λ_ _ _=>False)):False:=by
 unfold Oper.wp at h;have e:(execOp a.eval o)=(do pure (.defer (<-resolve a.eval c o.type))):=by simp[execOp,ho]
 rw[e] at h;simp only[Sem.run_bind] at h;cases hr:(resolve a.eval c o.type).run P w with
 | ok d w'=>
  rw[hr] at h;simp only[Result.andThen] at h;have:(pure (Next.defer d):Sem Next).run P w'=.ok (.defer d) w':=rfl;rw[this] at h;simp only[Oper.upon] at h;obtain⟨Ds,hDs⟩:=h;have h2:d::a.defers=Ds.map (λD=>⟨.collected D, #[]⟩)++a.defers:=by
   rw[<-hDs];cases hd:o.dst<;>simp[Act.put]
  cases Ds with
  |nil=>have:=aA5 List.length h2;simp at this
  | cons D Ds=>
   simp only[j3,aA4,aC7] at h2;exact bKa hr D (by rw[h2.1])
 | halt x w'=>
  rw[hr] at h;cases x<;>simp[Result.andThen,Oper.upon] at h
theorem bMo{n:Nat}{P:Program}{row:String}{args:Array Value}{w:World}{R:Value->World->Prop}(h:Rows P row args w R):RowsIn Fence.wide n P row args w R:=
 λc cs _=>let⟨v,w',r,s⟩:=h c cs;⟨v,w',r,stepsIn_wide.2 s⟩
theorem Oper.wpIn_of{o:Oper}{P:Program}{a:Act}{w:World}{K:Act->World->Prop}{Q:Exit->Act->World->Prop}{ro:Option Nat}(hd:∀c,o.op≠.defer c)(h:o.wp P a w K Q):o.wpIn (fen ro) 0 P a w K Q:=by
 refine⟨λ_ _=>trivial,?_⟩;rw[Oper.semAt_eq _ _ _ hd];unfold Oper.wp at h
 generalize(execOp a.eval o).run P w=r at h|-
 cases r with
 | ok x w'=>
  cases x<;>simp only[Oper.upon,Oper.uponIn] at h⊢<;>first
   |exact h
   |exact⟨λh=>(by cases h),callsIn_wide.2 h⟩
   |exact⟨λh=>(by cases h),bMo h⟩
 |halt x w'=>cases x<;>simp only[Oper.upon,Oper.uponIn] at h⊢<;>exact h
theorem Step.x[Mode]{P:Program}{n:Nat}{o:Oper}{st:St}{Post:St->Prop}(h:Step P n o st Post):bPj P n o st Post:=by
 intro A M w0 a w hR K Q hK;refine Oper.wpIn_of (λc hc=>?_) (h A M w0 a w hR K Q hK);have hR0:R A M {w0 with ds:=a.defers} n st a w:=⟨hR.size,Marks.nil _ _ _,hR.env,hR.inv,hR.keeps,hR.own,hR.old⟩;refine cGw hc (h A M _ a w hR0 _ _ λst' a' w' _ hR'=>?_);obtain⟨Ds,h1,_⟩:=hR'.defers;exact⟨Ds,h1⟩
def TrL[Mode](P:Program)(n:Nat)(ops:Array Oper)(l:List Oper)(st:St)(Q:Exit->St->Prop):Prop:=
 ∀A M w0 a w,R A M w0 n st a w->wpListIn (fen w0.ro) 0 P ops (λe a' w'=>∃st',Q e st'/\R A M w0 n st' a' w') l a w
def aEk:Code->Bool
 | .rangeFunc .. =>false
 | .seq x y=>aEk x&&aEk y
 | .cond _ x y=>aEk x&&aEk y
 | .block _ c=>aEk c
 | .loop c=>aEk c
 | .scope c=>aEk c
 |_=>true
def Tr[Mode](P:Program)(n:Nat)(c:Code)(st:St)(Q:Exit->St->Prop):Prop:=
 ∀A M w0 a w,R A M w0 n st a w->(w0.ro=none\/aEk c=true)->c.wpIn (fen w0.ro) 0 P (λe a' w'=>∃st',Q e st'/\R A M w0 n st' a' w') a w
def mM(N:St->Prop)(Q:Exit->St->Prop):Exit->St->Prop
 | .normal,st=>N st
 |e,st=>Q e st
def zM(id:Nat)(N:St->Prop)(Q:Exit->St->Prop):Exit->St->Prop
 | .normal,st=>N st
 | .exit id',st=>(id'=id/\N st)\/(id'≠id/\Q (.exit id') st)
 |e,st=>Q e st
section
variable{P:Program}{n:Nat}{st st':St}{Q:Exit->St->Prop}{N:St->Prop}
theorem bKu[Mode]{ops:Array Oper}{o:Oper}{rest:List Oper}{Post:St->Prop}(hg:o.guard=none)(h:bPj P n o st Post)
  (hr:∀st',Post st'->TrL P n ops rest st' Q):TrL P n ops (o::rest) st Q:=
 λA M w0 a w hR=>wpListIn_plain hg λK hK=>h A M w0 a w hR K _ λst' a' w' hp hR'=>hK _ _ (hr st' hp A M w0 a' w' hR')
theorem cC[Mode]{ops:Array Oper}{o:Oper}{rest:List Oper}{Post:St->Prop}(hg:o.guard=none)(h:Step P n o st Post)
  (hr:∀st',Post st'->TrL P n ops rest st' Q):TrL P n ops (o::rest) st Q:=bKu hg h.x hr
theorem tr1[Mode]{ops:Array Oper}{o:Oper}{rest:List Oper}(hg:o.guard=none)(h:aQ P n o st st')
  (hr:TrL P n ops rest st' Q):TrL P n ops (o::rest) st Q:=
 cC hg h λ_ e=>e▸hr
theorem aZ[Mode]{ops:Array Oper}(h:N st):TrL P n ops [] st (mM N Q):=
 λ_ _ _ _ _ hR=>wpListIn_nil ⟨st,h,hR⟩
theorem yY[Mode]{ops:Array Oper}{id:Nat}(h:N st):TrL P n ops [] st (zM id N Q):=
 λ_ _ _ _ _ hR=>wpListIn_nil ⟨st,h,hR⟩
theorem aV[Mode]{id:Nat}{l:List Oper}(h:TrL P n l.toArray l st Q):Tr P n (.region id l.toArray false) st Q:=
 λA M w0 a w hR _=>wpIn_region_lit (h A M w0 a w hR)
theorem bRj{p:Prop}{a b:Bool}(h:p\/(a&&b)=true):(p\/a=true)/\(p\/b=true):=by
 rcases h with h|h
 ·exact⟨.inl h,.inl h⟩
 ·rw[f4] at h;exact⟨.inr h.1,.inr h.2⟩
theorem bH[Mode]{x y:Code}(h:Tr P n x st (mM (λs=>Tr P n y s Q) Q)):Tr P n (.seq x y) st Q:=by
 intro A M w0 a w hR hn;refine wpIn_seq (wpIn_mono (h A M w0 a w hR (bRj hn).1) ?_);rintro e a' w' ⟨st',hq,hR'⟩;cases e with
 |normal=>exact hq A M w0 a' w' hR' (bRj hn).2
 |_=>exact⟨st',hq,hR'⟩
theorem aBk[Mode](h:N st):Tr P n .skip st (mM N Q):=λ_ _ _ _ _ hR _=>wpIn_skip ⟨st,h,hR⟩
theorem cCt[Mode](h:Q .normal st):Tr P n .skip st Q:=λ_ _ _ _ _ hR _=>wpIn_skip ⟨st,h,hR⟩
theorem bKt[Mode]{l:Nat}(h:Q .normal st):Tr P n (.label l) st Q:=λ_ _ _ _ _ hR _=>wpIn_label ⟨st,h,hR⟩
theorem eK[Mode](h:Q .ret st):Tr P n .ret st Q:=λ_ _ _ _ _ hR _=>wpIn_ret ⟨st,h,hR⟩
theorem eU[Mode]{id:Nat}(h:Q (.exit id) st):Tr P n (.exit id) st Q:=λ_ _ _ _ _ hR _=>wpIn_exit ⟨st,h,hR⟩
theorem aXi[Mode]{id:Nat}{c:Code}(h:Tr P n c st (zM id N Q))(hQ:∀s,N s->Q .normal s):Tr P n (.block id c) st Q:=by
 intro A M w0 a w hR hn;refine wpIn_block (wpIn_mono (h A M w0 a w hR hn) ?_);rintro e a' w' ⟨st',hq,hR'⟩;cases e with
 |normal=>exact⟨st',hQ _ hq,hR'⟩
 | exit id'=>
  show if id'=id then _ else _
  rcases hq with⟨h1,h2⟩|⟨h1,h2⟩
  ·rw[if_pos h1];exact⟨st',hQ _ h2,hR'⟩
  ·rw[if_neg h1];exact⟨st',h2,hR'⟩
 |_=>exact⟨st',hq,hR'⟩
theorem nJ[Mode]{c:Code}{Q':Exit->St->Prop}(h:Tr P n c st Q)(hq:∀e s,Q e s->Q' e s):Tr P n c st Q':=
 λA M w0 a w hR hn=>wpIn_mono (h A M w0 a w hR hn) λ_ _ _ ⟨s,h1,h2⟩=>⟨s,hq _ _ h1,h2⟩
theorem aAe[Mode]{c:Operand}{x y:Code}{b:Bool}(hc:st.eval c=.d (.lit (.bool b)))(ht:b=true->Tr P n x st Q)(hf:b=false->Tr P n y st Q):
  Tr P n (.cond c x y) st Q:=by
 intro A M w0 a w hR hn;have he:a.eval c=.bool b:=by
  cases c with
  |tmp t=>have:=hR.env t;rw[show st.env t=_ from hc] at this;exact this.lit
  |const v=>simp only[St.eval,AV.d.injEq,D.lit.injEq] at hc;exact hc
  |global g=>cases hc
  |func f=>cases hc
 exact wpIn_cond_split he (λh=>ht h A M w0 a w hR (bRj hn).1) (λh=>hf h A M w0 a w hR (bRj hn).2)
def Ent[Mode](st st':St):Prop:=∀(A M:aR) (w0:W0) (n:Nat) (a:Act) (w:World),R A M w0 n st a w->R A M w0 n st' a w
theorem Ent.refl[Mode](st:St):Ent st st:=λ_ _ _ _ _ _ h=>h
theorem Ent.trans[Mode]{a b c:St}(h:Ent a b)(k:Ent b c):Ent a c:=λA M w0 n x w hR=>k A M w0 n x w (h A M w0 n x w hR)
theorem jZ[Mode]{c:Code}(he:Ent st st')(h:Tr P n c st' Q):Tr P n c st Q:=λA M w0 a w hR hn=>h A M w0 a w (he A M w0 n a w hR) hn
theorem kY[Mode]{ops:Array Oper}{l:List Oper}(he:Ent st st')(h:TrL P n ops l st' Q):TrL P n ops l st Q:=λA M w0 a w hR=>h A M w0 a w (he A M w0 n a w hR)
theorem aUg[Mode]{S T:Type}(σ:S->St)(F:Nat->S->Option T)(r:T){c:Code}(hz:∀s,F 0 s=none)
  (body:∀k s,F (k+1) s=some r->Tr P n c (σ s) (mM (λst'=>∃s',F k s'=some r/\Ent st' (σ s')) Q))
  (k0:Nat)(s0:S)(h0:F k0 s0=some r):Tr P n (.loop c) (σ s0) Q:=by
 intro A M w0 a w hR hn
 let I0:Nat->Act->World->Prop:=λk a w=>∃s,F k s=some r/\R A M w0 n (σ s) a w
 have ex:∀a w,(∃k,I0 k a w)->∃k,I0 k a w/\∀j,I0 j a w->k<=j:=by
  rintro a w ⟨k,hk⟩
  induction k using Nat.strongRecOn with
  | _ k ih=>
   by_cases h:∃j,j<k/\I0 j a w
   ·obtain⟨j,hj,hI⟩:=h;exact ih j hj hI
   ·refine⟨k,hk,λj hj=>?_⟩
    rcases aC1 j k with h1|h1
    ·exact absurd ⟨j,h1,hj⟩ h
    ·exact h1
 have hμ:∃μ:Act->World->Nat,∀a w,(∃k,I0 k a w)->I0 (μ a w) a w/\∀j,I0 j a w->μ a w<=j:=by
  classical
  refine⟨λa w=>if h:∃k,I0 k a w then(ex a w h).choose else 0,λa w h=>?_⟩;simp only[h,dite_true];exact(ex a w h).choose_spec
 obtain⟨μ,hμ⟩:=hμ;refine wpIn_loop (λa w=>∃k,I0 k a w) μ ⟨k0,s0,h0,hR⟩ λa w hI=>?_;obtain⟨⟨s,hs,hRs⟩,hmin⟩:=hμ a w hI;cases hk:μ a w with
 |zero=>rw[hk,hz] at hs;cases hs
 | succ k=>
  rw[hk] at hs;refine wpIn_mono (body k s hs A M w0 a w hRs hn) ?_;rintro e a' w' ⟨st',hq,hR'⟩;cases e with
  | normal=>
   obtain⟨s',hs',he⟩:=hq;have hI':I0 k a' w':=⟨s',hs',he A M w0 n a' w' hR'⟩;have hle:=(hμ a' w' ⟨k,hI'⟩).2 k hI';exact⟨⟨k,hI'⟩,by omega⟩
  |_=>exact⟨st',hq,hR'⟩
end
def aX[Mode](P:Program)(f:FuncId)(args:List AV)(objs:List MO)(Q:AV->List MO->Prop):Prop:=
 ∀ (A:aR) (w:World) (vs:List Value),Inv w A objs->(∀b o,A b o->b<w.heap.size)->VRs w (aU A objs) args vs->
  Calls P f vs.toArray w λe w'=>∃v r objs',e=.returned v/\Keeps (fJ objs) w w'/\Inv w' A objs'/\VR w' (aU A objs') r v/\
   (∀m∈objs',∀b o,m.foot b o->fJ objs b o\/w.heap.size<=b)/\Q r objs'
def entry(args:List AV):Nat->AV:=λk=>args.getD k .any
inductive aNj(st:St):List ResultVar->AV->Prop where
 |one (t:Nat):aNj st [.tmp t] (st.env t)
 |two (t u:Nat):aNj st [.tmp t,.tmp u] (.tup [st.env t,st.env u])
 |three (t u v:Nat):aNj st [.tmp t,.tmp u,.tmp v] (.tup [st.env t,st.env u,st.env v])
 |none:aNj st [] (.tup [])
theorem R.shut[Mode]{A M:aR}{w0:W0}{n:Nat}{st:St}{a:Act}{w:World}{D:Nat}{Ds:List Nat}(h:R A M w0 n st a w)(hD:w.heap[D]?=some (.deferred (some [])))(hge:w0.w.heap.size<=D)(hX:∀o,¬aU A st.objs D o)
  (hm:Marks (aU A st.objs) w0 (Ds.map (λD=>⟨.collected D, #[]⟩)++w0.ds) (w.putObj D (.deferred none))):R A M w0 n st {a with defers:=Ds.map (λD=>⟨.collected D, #[]⟩)++w0.ds} (w.putObj D (.deferred none)):=by
 have hlt:=(j8.1 hD).1;have hk:Keeps (λb _=>b=D) w (w.putObj D (.deferred none)):=by
  refine⟨rfl,rfl,rfl,by simp[World.putObj],λb hb hz=>World.putObj_heap_other λe=>hz 0 e,λb o hb hz=>?_,λb o hb hz=>?_,λ_=>n5 _⟩
  ·have:(w.putObj D (.deferred none)).heap[b]?=w.heap[b]?:=World.putObj_heap_other λe=>hz e;simp only[World.cell?,this]
  ·have:(w.putObj D (.deferred none)).heap[b]?=w.heap[b]?:=World.putObj_heap_other λe=>hz e;simp only[World.frozen?,this]
 have hmono:Mono w (aU A st.objs) (w.putObj D (.deferred none)) (aU A st.objs):=by
  refine⟨λb o v hc hx=>⟨?_,hx⟩,λr ms c hr hx=>⟨?_,hx⟩,λr c e f hr hx=>⟨?_,hx⟩⟩
  ·by_cases hb:b=D
   ·subst hb
    simp[World.cell?,hD] at hc
   ·rw[hk.cell b o (block_lt_of_cell hc) hb];exact hc
  all_goals
   by_cases hb:r=D
   ·subst hb;rw[hD] at hr;cases hr
   ·rw[hk.block r (j8.1 hr).1 λ_=>hb];exact hr
 exact⟨h.size,hm,λk=>(h.env k).mono hmono,⟨h.inv.sep,h.inv.apart,λm hm'=>cI (h.inv.holds m hm') hk (λb o hf e=>hX o (by subst e;exact .inr ⟨m,hm',hf⟩)) hmono,h.inv.amb.on hmono⟩,h.keeps.weaken hk λb o hb=>.inr (by subst hb;exact hge),h.own,h.old⟩
theorem bIj[Mode]{A M:aR}{w0:W0}{n:Nat}{st:St}{P:Program}{fn:Func}{Rt:Ending->World->Prop}{tmps:Array Value}(h0:w0.ds=[])
  (hR':∀a w,R A M w0 n st a w->a.tmps=tmps->∃v,(results fn tmps).run P w=.ok v w/\Rt (.returned v) w):∀(Ds:List Nat) (a:Act) (w:World),R A M w0 n st a w->a.tmps=tmps->a.defers=Ds.map (λD=>⟨.collected D, #[]⟩)++w0.ds->Ds.Nodup->
   (∀D∈Ds,w.heap[D]?=some (.deferred (some []))/\w0.w.heap.size<=D/\∀o,¬aU A st.objs D o)->LeavesInM Fence.wide 0 P fn tmps Rt a.defers .returning w:=by
 intro Ds
 induction Ds with
 | nil=>
  intro a w hR ht hd _ _;rw[hd,h0];exact hR' a w hR ht
 | cons D Ds ih=>
  intro a w hR ht hd hnd hDs;obtain⟨h1,h2,h3⟩:=hDs D (by simp);have hnd':=w6.1 hnd;have hDs':∀D'∈Ds,(w.putObj D (.deferred none)).heap[D']?=some (.deferred (some []))/\w0.w.heap.size<=D'/\∀o,¬aU A st.objs D' o:=λD' h'=>by
   obtain⟨a1,a2,a3⟩:=hDs D' (by simp[h']);exact⟨(World.putObj_heap_other (λe=>hnd'.1 (by rw[<-e];exact h'))).trans a1,a2,a3⟩
  rw[hd];refine⟨by simp,.inl ⟨D,_,rfl,run_takeDeferred h1,?_⟩⟩;exact ih {a with defers:=Ds.map (λD=>⟨.collected D, #[]⟩)++w0.ds} _ (hR.shut h1 h2 h3 ⟨Ds,rfl,hnd'.2,hDs'⟩) ht rfl hnd'.2 hDs'
theorem aLi[Mode]{P:Program}{f:FuncId}{fn:Func}{c:Code}{args:List AV}{objs:List MO}{Q:Exit->St->Prop}(hf:P.funcs[f]?=some fn)(hb:fn.body=some c)(ha:args.length<=fn.ntmps)
  (h:Tr P fn.ntmps c ⟨entry args,objs⟩ Q){A:aR}{w:World}{vs:List Value}(hinv:Inv w A objs)(hA:∀b o,A b o->b<w.heap.size)(hvs:VRs w (aU A objs) args vs){Rt:Ending->World->Prop}
  (hQ:∀e st,Q e st->e=.ret\/e=.normal)(hR:∀e st a w',Q e st->R A (fJ objs) ⟨w,[],none⟩ fn.ntmps st a w'->∃v,(results fn a.tmps).run P w'=.ok v w'/\Rt (.returned v) w'):Calls P f vs.toArray w Rt:=by
 have hlen:=hvs.length;have hR0:R A (fJ objs) ⟨w,[],none⟩ fn.ntmps ⟨entry args,objs⟩ {tmps:=vs.toArray++Array.replicate (fn.ntmps-vs.toArray.size) undef,defers:=[]} w:=by
  refine⟨?_,Marks.nil _ ⟨w,[],none⟩ _,λk=>?_,hinv,Keeps.refl _ _,λm hm b o hf=>.inl ⟨m,hm,hf⟩,hA⟩
  ·simp;omega
  ·have:=hvs.getD k;show VR _ _ (args.getD k .any) _;rw[Array.getD_eq_getD_getElem?]
   by_cases hk:k<vs.length
   ·rw[Array.getElem?_append_left (by simpa using hk)]
    simpa[List.getD] using this
   ·have:args.getD k .any=.any:=by simp[List.getD,aC3 (show args.length<=k by omega)]
    rw[this];exact .any _
 refine(callsIn_wide (n:=0)).1 (callsIn_of_wp_marks hf hb trivial ?_);refine wpIn_mono (h A (fJ objs) _ _ _ hR0 (.inl rfl)) ?_;rintro e a' w' ⟨st,hq,hR'⟩;have key:LeavesInM Fence.wide 0 P fn a'.tmps Rt a'.defers .returning w':=by
  obtain⟨Ds,h1,h2,h3⟩:=hR'.defers;refine bIj (w0:=⟨w,[],none⟩) rfl (λa w2 hR2 ht=>?_) Ds a' w' hR' rfl h1 h2 h3;have:=hR e st a w2 hq hR2
  rwa[ht] at this
 rcases hQ e st hq with rfl|rfl
 ·exact key
 ·exact key
theorem aIn[Mode]{P:Program}{f:FuncId}{fn:Func}{c:Code}{args:List AV}{objs:List MO}{Q:AV->List MO->Prop}
  (hf:P.funcs[f]?=some fn)(hb:fn.body=some c){rs:List ResultVar}(hr:fn.results=rs.toArray)(ha:args.length<=fn.ntmps)
  (h:Tr P fn.ntmps c ⟨entry args,objs⟩ (λe st=>(e=.ret\/e=.normal)/\∃r,aNj st rs r/\Q r st.objs)):aX P f args objs Q:=by
 intro A w vs hinv hA hvs;refine aLi hf hb ha h hinv hA hvs (λe st hq=>hq.1) ?_;rintro e st a' w' ⟨he,r,hres,hq⟩ hR';have key:∃v,(results fn a'.tmps).run P w'=.ok v w'/\VR w' (aU A st.objs) r v:=by
  cases hres with
  |one t=>exact⟨_,results_tmp hr _ _ _,hR'.env t⟩
  | two t u=>exact⟨_,results_tmp2 hr _ _ _,.tup (us:=[_,_]) rfl λi hi=>by
    match i,hi with
    |0,_=>exact hR'.env t
    |1,_=>exact hR'.env u⟩
  | three t u v=>exact⟨.tuple #[a'.tmps.getD t undef,a'.tmps.getD u undef,a'.tmps.getD v undef],by simp[results,hr],.tup (us:=[_,_,_]) rfl λi hi=>by
    match i,hi with
    |0,_=>exact hR'.env t
    |1,_=>exact hR'.env u
    |2,_=>exact hR'.env v⟩
  |none=>exact⟨_,results_none hr _ _ _,.tup (us:=[]) rfl λi hi=>by simp at hi⟩
 obtain⟨v,hrun,hv⟩:=key;exact⟨v,hrun,v,r,st.objs,rfl,hR'.keeps,hR'.inv,hv,hR'.own,hq⟩
end Go.Am
end
end
section
section
namespace Go.Am
abbrev AV.i(n:Int):AV:=.d (.lit (.int .i64 n))
abbrev AV.b(b:Bool):AV:=.d (.lit (.bool b))
abbrev D.i(n:Int):D:=.lit (.int .i64 n)
abbrev D.b(b:Bool):D:=.lit (.bool b)
abbrev w64(n:Int):Int:=IntKind.i64.wrap n
theorem VR.of_lit{w:World}{X:aR}{v:Value}(h:v.oneCell'=true):VR w X (.d (.lit v)) v:=.d (.lit v h)
section
variable{P:Program}{n d:Nat}{st:St}{o:Oper}
theorem gH[Mode]{v:Value}(ho:o.dst=some d)(hd:d<n)(hv:v.oneCell'=true)
  (h:∀(A M:aR) (w0:W0) (a:Act) (w:World),R A M w0 n st a w->(execOp a.eval o).run P w=.ok (.value v) w):aQ P n o st (st.set d (.d (.lit v))):=
 cG ho hd λA M w0 a w hR=>⟨v,h A M w0 a w hR,.of_lit hv⟩
theorem R.lit[Mode]{A M:aR}{w0:W0}{a:Act}{w:World}(h:R A M w0 n st a w){x:Operand}{v:Value}(hx:st.eval x=.d (.lit v)):a.eval x=v:=by
 cases x with
 |tmp t=>have:=h.env t;rw[show st.env t=_ from hx] at this;exact this.lit
 |const u=>simp only[St.eval,AV.d.injEq,D.lit.injEq] at hx;exact hx
 |global g=>cases hx
 |func f=>cases hx
theorem dI[Mode]{x:Operand}{v:AV}{ty:TypeId}{pos:String}{af:Array Edge}{gd:Option (Nat×Bool)}(hd:d<n)(hx:st.eval x=v)(hk:cD x=true):aQ P n ⟨some d,.move x,ty,pos,af,gd⟩ st (st.set d v):=
 cG rfl hd λ_ _ _ _ _ hR=>⟨_,rfl,hx▸hR.eval' hk⟩
theorem cS[Mode]{x:Operand}{v:AV}{ty:TypeId}{pos:String}{af:Array Edge}{gd:Option (Nat×Bool)}(hd:d<n)(hx:st.eval x=v)(hk:cD x=true):aQ P n ⟨some d,.assign x,ty,pos,af,gd⟩ st (st.set d v):=
 cG rfl hd λ_ _ _ _ _ hR=>⟨_,rfl,hx▸hR.eval' hk⟩
theorem wV[Mode](k:Nat){ty:TypeId}{pos:String}{af:Array Edge}{gd:Option (Nat×Bool)}(hd:d<n):aQ P n ⟨some d,.assign (.const (.slice none 0 0)),ty,pos,af,gd⟩ st (st.set d (.d (.sl k []))):=
 cG rfl hd λ_ _ _ _ _ _=>⟨_,rfl,.d (.nil k)⟩
theorem cLq[Mode](k:Nat){ty:TypeId}{pos:String}{af:Array Edge}{gd:Option (Nat×Bool)}(hd:d<n):aQ P n ⟨some d,.move (.const (.slice none 0 0)),ty,pos,af,gd⟩ st (st.set d (.d (.sl k []))):=
 cG rfl hd λ_ _ _ _ _ _=>⟨_,rfl,.d (.nil k)⟩
theorem aEs[Mode]{c x y:Operand}{b:Bool}{v:AV}{ty:TypeId}{pos:String}{af:Array Edge}{gd:Option (Nat×Bool)}(hd:d<n)(hc:st.eval c=.d (.lit (.bool b)))(hb:b=true)(hx:st.eval x=v)(hk:cD x=true):
  aQ P n ⟨some d,.pick c x y,ty,pos,af,gd⟩ st (st.set d v):=
 cG rfl hd λA M w0 a w hR=>⟨_,by simp[execOp,hR.lit hc,asBool,hb],hx▸hR.eval' hk⟩
theorem aJr[Mode]{c x y:Operand}{b:Bool}{v:AV}{ty:TypeId}{pos:String}{af:Array Edge}{gd:Option (Nat×Bool)}(hd:d<n)(hc:st.eval c=.d (.lit (.bool b)))(hb:b=false)(hx:st.eval y=v)(hk:cD y=true):
  aQ P n ⟨some d,.pick c x y,ty,pos,af,gd⟩ st (st.set d v):=
 cG rfl hd λA M w0 a w hR=>⟨_,by simp[execOp,hR.lit hc,asBool,hb],hx▸hR.eval' hk⟩
def aXx:BinOp->Int->Int->Option Int
 | .add,x,y=>some (x+y)
 | .sub,x,y=>some (x-y)
 | .mul,x,y=>some (x*y)
 |_,_,_=>none
def cmp:BinOp->Int->Int->Option Bool
 | .lss,x,y=>some (decide (x<y))
 | .leq,x,y=>some (decide (x<=y))
 | .gtr,x,y=>some (decide (y<x))
 | .geq,x,y=>some (decide (y<=x))
 | .eql,x,y=>some (decide (x=y))
 | .neq,x,y=>some (!decide (x=y))
 |_,_,_=>none
theorem yX[Mode]{op:BinOp}{x y:Operand}{k:IntKind}{p q r:Int}{t u ty:TypeId}{pos:String}{af:Array Edge}{gd:Option (Nat×Bool)}(hd:d<n)
  (hx:st.eval x=.d (.lit (.int k p)))(hy:st.eval y=.d (.lit (.int k q)))(hr:aXx op p q=some r):
  aQ P n ⟨some d,.binOp op t x y u,ty,pos,af,gd⟩ st (st.set d (.d (.lit (.int k (k.wrap r))))):=
 gH rfl hd rfl λA M w0 a w hR=>by
  cases op<;>simp only[aXx,m7,reduceCtorEq] at hr<;>
   (subst hr;simp[execOp,hR.lit hx,hR.lit hy,eqGuard,binOp,Op.intArith])
theorem wU[Mode]{op:BinOp}{x y:Operand}{k:IntKind}{p q:Int}{r:Bool}{t u ty:TypeId}{pos:String}{af:Array Edge}{gd:Option (Nat×Bool)}(hd:d<n)
  (hx:st.eval x=.d (.lit (.int k p)))(hy:st.eval y=.d (.lit (.int k q)))(hr:cmp op p q=some r):
  aQ P n ⟨some d,.binOp op t x y u,ty,pos,af,gd⟩ st (st.set d (.b r)):=
 gH rfl hd rfl λA M w0 a w hR=>by
  cases op<;>simp only[cmp,m7,reduceCtorEq] at hr<;>
   (subst hr;simp[execOp,hR.lit hx,hR.lit hy,eqGuard,binOp,Op.intCmp])<;>rfl
theorem bAp[Mode]{x:Operand}{b:Bool}{t ty:TypeId}{pos:String}{af:Array Edge}{gd:Option (Nat×Bool)}(hd:d<n)
  (hx:st.eval x=.d (.lit (.bool b))):aQ P n ⟨some d,.unOp .not t x,ty,pos,af,gd⟩ st (st.set d (.b (!b))):=
 gH rfl hd rfl λA M w0 a w hR=>by simp[execOp,hR.lit hx,Op.unary]
theorem cNr[Mode]{x:Operand}{k:IntKind}{p:Int}{t ty:TypeId}{pos:String}{af:Array Edge}{gd:Option (Nat×Bool)}(hd:d<n)
  (hx:st.eval x=.d (.lit (.int k p))):aQ P n ⟨some d,.unOp .neg t x,ty,pos,af,gd⟩ st (st.set d (.d (.lit (.int k (k.wrap (-p)))))):=
 gH rfl hd rfl λA M w0 a w hR=>by simp[execOp,hR.lit hx,Op.unary,Op.intArith]
theorem bAm[Mode]{op:BinOp}{x y:Operand}{k:IntKind}{p q:Int}{t u ty:TypeId}{pos:String}{af:Array Edge}{gd:Option (Nat×Bool)}{f:BitVec k.bits->BitVec k.bits->BitVec k.bits}(hd:d<n)
  (hx:st.eval x=.d (.lit (.int k p)))(hy:st.eval y=.d (.lit (.int k q)))
  (hop:op=.and/\f=(·&&&·)\/op=.or/\f=(·|||·)\/op=.xor/\f=(·^^^·)):
  aQ P n ⟨some d,.binOp op t x y u,ty,pos,af,gd⟩ st (st.set d (.d (.lit (.int k (k.wrap (f (BitVec.ofInt k.bits p) (BitVec.ofInt k.bits q)).toNat))))):=
 gH rfl hd rfl λA M w0 a w hR=>by
  rcases hop with⟨rfl,rfl⟩|⟨rfl,rfl⟩|⟨rfl,rfl⟩<;>simp[execOp,hR.lit hx,hR.lit hy,eqGuard,binOp,Op.intBits]
theorem cNt[Mode]{x y:Operand}{k:IntKind}{p q:Int}{t u ty:TypeId}{pos:String}{af:Array Edge}{gd:Option (Nat×Bool)}(hd:d<n)
  (hx:st.eval x=.d (.lit (.int k p)))(hy:st.eval y=.d (.lit (.int k q)))(hq:q≠0):
  aQ P n ⟨some d,.binOp .quo t x y u,ty,pos,af,gd⟩ st (st.set d (.d (.lit (.int k (k.wrap (p.tdiv q)))))):=
 gH rfl hd rfl λA M w0 a w hR=>by simp[execOp,hR.lit hx,hR.lit hy,eqGuard,binOp,Op.intDiv,hq]
theorem cNu[Mode]{x y:Operand}{k:IntKind}{p q:Int}{t u ty:TypeId}{pos:String}{af:Array Edge}{gd:Option (Nat×Bool)}(hd:d<n)
  (hx:st.eval x=.d (.lit (.int k p)))(hy:st.eval y=.d (.lit (.int k q)))(hq:q≠0):
  aQ P n ⟨some d,.binOp .rem t x y u,ty,pos,af,gd⟩ st (st.set d (.d (.lit (.int k (p.tmod q))))):=
 gH rfl hd rfl λA M w0 a w hR=>by simp[execOp,hR.lit hx,hR.lit hy,eqGuard,binOp,Op.intDiv,hq]
theorem bGb[Mode]{x y:Operand}{k k':IntKind}{p q:Int}{t u ty:TypeId}{pos:String}{af:Array Edge}{gd:Option (Nat×Bool)}(hd:d<n)
  (hx:st.eval x=.d (.lit (.int k p)))(hy:st.eval y=.d (.lit (.int k' q)))(hq:0<=q):
  aQ P n ⟨some d,.binOp .shl t x y u,ty,pos,af,gd⟩ st (st.set d (.d (.lit (.int k (k.wrap (p*2^(min q.toNat k.bits))))))):=
 gH rfl hd rfl λA M w0 a w hR=>by simp[execOp,hR.lit hx,hR.lit hy,eqGuard,binOp,Op.shift,show¬q<0 by omega]
theorem cEt[Mode]{x y:Operand}{k k':IntKind}{p q:Int}{t u ty:TypeId}{pos:String}{af:Array Edge}{gd:Option (Nat×Bool)}(hd:d<n)
  (hx:st.eval x=.d (.lit (.int k p)))(hy:st.eval y=.d (.lit (.int k' q)))(hq:0<=q):
  aQ P n ⟨some d,.binOp .shr t x y u,ty,pos,af,gd⟩ st (st.set d (.d (.lit (.int k (p.fdiv (2^(min q.toNat k.bits))))))):=
 gH rfl hd rfl λA M w0 a w hR=>by simp[execOp,hR.lit hx,hR.lit hy,eqGuard,binOp,Op.shift,show¬q<0 by omega]
theorem sU[Mode]{x:Operand}{vs:List AV}{i:Nat}{v:AV}{ty:TypeId}{pos:String}{af:Array Edge}{gd:Option (Nat×Bool)}(hd:d<n)
  (hx:st.eval x=.tup vs)(hv:vs[i]?=some v):aQ P n ⟨some d,.extract x i,ty,pos,af,gd⟩ st (st.set d v):=
 cG rfl hd λA M w0 a w hR=>by
  have hk:cD x=true:=by cases x with|const u=>cases hx|_=>rfl
  have h:=hR.eval' hk;rw[hx] at h
  generalize hu:a.eval x=u at h
  cases h with
  | tup hl h'=>
   rename_i us
   have hi:i<vs.length:=(g7.1 hv).1;have h1:=h' i hi;have hi':i<us.length:=by omega
   simp only[List.getD,hv,u7,g9 hi'] at h1;refine⟨_,?_,h1⟩
   simp[execOp,hu,Instr.extract,hi']
def cQ(P:Program)(s:TypeId)(f off:Nat):Prop:=
 ∀(b o:Nat) (w:World),(Instr.fieldAt s (.pointer (some ⟨b,o,none⟩)) f).run P w=.ok (.pointer (some ⟨b,o+off,none⟩)) w
def gJ(P:Program)(t:TypeId)(n:Nat):Prop:=(∀w,(isAgg t).run P w=.ok true w)/\∀w,(sizeOf t).run P w=.ok n w
def fN(P:Program)(t:TypeId):Prop:=(∀w,(isAgg t).run P w=.ok false w)/\∀w,(sizeOf t).run P w=.ok 1 w
def mD(P:Program)(t e k:Nat):Prop:=(∀w,(underlying t).run P w=.ok (.slice e) w)/\∀w,(sizeOf e).run P w=.ok k w
def aXl(P:Program)(t len e k:Nat):Prop:=(∀w,(underlying t).run P w=.ok (.array len e) w)/\∀w,(sizeOf e).run P w=.ok k w
theorem cL{s f off m:Nat}{fs:Array Field}{fd:Field}(hs:∀w,(underlying s).run P w=.ok (.struct fs) w)(hf:fs[f]?=some fd)(ho:fd.offset=off)
  (hz:∀w,(sizeOf fd.type).run P w=.ok (m+1) w):cQ P s f off:=by
 intro b o w;subst ho
 simp[Instr.fieldAt,hs,hf,Instr.sureAddr,fieldPlace,hz,Addr.add_lit]
theorem aHr[Mode]{x:Operand}{t f off:Nat}{ds es:List D}{ty:TypeId}{pos:String}{af:Array Edge}{gd:Option (Nat×Bool)}(hd:d<n)
  (hx:st.eval x=.cp ds)(hf:cQ P t f off)(he:(ds.drop off).take es.length=es):aQ P n ⟨some d,.fieldAddr t x f,ty,pos,af,gd⟩ st (st.set d (.cp es)):=
 cG rfl hd λA M w0 a w hR=>by
  have hk:cD x=true:=by cases x with|const u=>cases hx|_=>rfl
  have h:=hR.eval' hk;rw[hx] at h
  generalize hu:a.eval x=u at h
  cases h with
  | cp b o h hc hX=>
   refine⟨.pointer (some ⟨b,o+off,none⟩),by simp[execOp,hu,hf b o w],?_⟩;have hd':=(h.drop off).take es.length;rw[he] at hd';have hle:es.length<=ds.length-off:=by
    have h1:=aA5 List.length he;rw[List.length_take,List.length_drop] at h1
    omega
   exact .cp b _ hd' ((hc.drop off).take es.length) λj hj=>by
    have:=hX (off+j) (by omega)
    rwa[<-Nat.add_assoc] at this
theorem jU[Mode]{x:Operand}{t f off b o j:Nat}{ty:TypeId}{pos:String}{af:Array Edge}{gd:Option (Nat×Bool)}(hd:d<n)
  (hx:st.eval x=.bp b o j)(hf:cQ P t f off):aQ P n ⟨some d,.fieldAddr t x f,ty,pos,af,gd⟩ st (st.set d (.bp b o (j+off))):=
 cG rfl hd λA M w0 a w hR=>by
  have hk:cD x=true:=by cases x with|const u=>cases hx|_=>rfl
  have h:=hR.eval' hk;rw[hx] at h
  generalize hu:a.eval x=u at h
  cases h with
  |bp=>exact⟨.pointer (some ⟨b,o+j+off,none⟩),by simp[execOp,hu,hf b (o+j) w],by rw[Nat.add_assoc];exact .bp b o (j+off)⟩
theorem bSi[Mode]{x:Operand}{t f off:Nat}{v:Value}{k i c:Nat}{ty:TypeId}{pos:String}{af:Array Edge}{gd:Option (Nat×Bool)}(hd:d<n)
  (hx:st.eval x=.ep v k i c)(hf:cQ P t f off):aQ P n ⟨some d,.fieldAddr t x f,ty,pos,af,gd⟩ st (st.set d (.ep v k i (c+off))):=
 cG rfl hd λA M w0 a w hR=>by
  have hk:cD x=true:=by cases x with|const u=>cases hx|_=>rfl
  have h:=hR.eval' hk;rw[hx] at h
  generalize hu:a.eval x=u at h
  cases h with
  |ep g m q=>exact⟨.pointer (some ⟨g,i*k+c+off,none⟩),by simp[execOp,hu,hf g (i*k+c) w],by rw[Nat.add_assoc];exact .ep g m q k i (c+off)⟩
theorem gQ[Mode]{x:Operand}{ds:List D}{ty:TypeId}{pos:String}{af:Array Edge}{gd:Option (Nat×Bool)}(hd:d<n)
  (hx:st.eval x=.cp ds):aQ P n ⟨some d,.nilCheck x,ty,pos,af,gd⟩ st (st.set d (.cp ds)):=
 cG rfl hd λA M w0 a w hR=>by
  have hk:cD x=true:=by cases x with|const u=>cases hx|_=>rfl
  have h:=hR.eval' hk;rw[hx] at h;refine⟨_,?_,h⟩
  generalize hu:a.eval x=u at h
  cases h with
  |cp=>simp[execOp,hu]
theorem qK[Mode]{x:Operand}{b o j:Nat}{ty:TypeId}{pos:String}{af:Array Edge}{gd:Option (Nat×Bool)}(hd:d<n)
  (hx:st.eval x=.bp b o j):aQ P n ⟨some d,.nilCheck x,ty,pos,af,gd⟩ st (st.set d (.bp b o j)):=
 cG rfl hd λA M w0 a w hR=>by
  have hk:cD x=true:=by cases x with|const u=>cases hx|_=>rfl
  have h:=hR.eval' hk;rw[hx] at h;refine⟨_,?_,h⟩
  generalize hu:a.eval x=u at h
  cases h with
  |bp=>simp[execOp,hu]
theorem aDa{t:TypeId}(ht:fN P t){w:World}{b o:Nat}{v:Value}(h:w.cell? ⟨b,o,none⟩=some v):
  (Instr.loadAt t (.pointer (some ⟨b,o,none⟩))).run P w=.ok v w:=by
 simp[Instr.loadAt,Instr.sureAddr,loadVar,ht.1,run_load,h]
theorem aCz{t:TypeId}{m:Nat}(ht:gJ P t m){w:World}{b o:Nat}{vs:List Value}(hl:vs.length=m)(h:cellsAt w b o vs):
  (Instr.loadAt t (.pointer (some ⟨b,o,none⟩))).run P w=.ok (.agg vs.toArray) w:=by
 subst hl;have:=run_loadCells_list (P:=P) w ⟨b,o,none⟩ vs λj v hj=>by rw[Addr.add_lit];exact h j v hj
 simp[Instr.loadAt,Instr.sureAddr,loadVar,ht.1,ht.2,this]
theorem jM[Mode]{x:Operand}{t:TypeId}{d0:D}{ds:List D}{ty:TypeId}{pos:String}{af:Array Edge}{gd:Option (Nat×Bool)}(hd:d<n)
  (hx:st.eval x=.cp (d0::ds))(ht:fN P t):aQ P n ⟨some d,.load t x,ty,pos,af,gd⟩ st (st.set d (.d d0)):=
 cG rfl hd λA M w0 a w hR=>by
  have hk:cD x=true:=by cases x with|const u=>cases hx|_=>rfl
  have h:=hR.eval' hk;rw[hx] at h
  generalize hu:a.eval x=u at h
  cases h with
  | cp b o h hc hX=>
   obtain⟨v,hv,hdv⟩:=h.get (j:=0) rfl;have hc':=hc 0 v hv;rw[aE1] at hc';exact⟨v,by simp[execOp,hu,aDa ht hc'],.d hdv⟩
theorem aPm[Mode]{x:Operand}{t:TypeId}{m:Nat}{ds es:List D}{ty:TypeId}{pos:String}{af:Array Edge}{gd:Option (Nat×Bool)}(hd:d<n)
  (hx:st.eval x=.cp ds)(ht:gJ P t m)(he:ds.take m=es)(hl:es.length=m):aQ P n ⟨some d,.load t x,ty,pos,af,gd⟩ st (st.set d (.agg es)):=
 cG rfl hd λA M w0 a w hR=>by
  have hk:cD x=true:=by cases x with|const u=>cases hx|_=>rfl
  have h:=hR.eval' hk;rw[hx] at h
  generalize hu:a.eval x=u at h
  cases h with
  | cp b o h hc hX=>
   rename_i vs
   subst he;refine⟨.agg (vs.take m).toArray,?_,.agg (by simpa using h.take m)⟩
   simp[execOp,hu,aCz ht (vs:=vs.take m) (by rw[(h.take m).length,hl]) (hc.take m)]
theorem qQ[Mode]{x:Operand}{t:TypeId}{b o j i:Nat}{ds:List D}{d0:D}{ty:TypeId}{pos:String}{af:Array Edge}{gd:Option (Nat×Bool)}(hd:d<n)
  (hx:st.eval x=.bp b o j)(ho:st.objs[i]?=some (.box b o ds))(hj:ds[j]?=some d0)(ht:fN P t):aQ P n ⟨some d,.load t x,ty,pos,af,gd⟩ st (st.set d (.d d0)):=
 cG rfl hd λA M w0 a w hR=>by
  have hk:cD x=true:=by cases x with|const u=>cases hx|_=>rfl
  have h:=hR.eval' hk;rw[hx] at h
  generalize hu:a.eval x=u at h
  obtain⟨vs,hds,hc,_⟩:=hR.inv.holds _ (i8 ho);obtain⟨v,hv,hdv⟩:=hds.get hj;cases h with
  |bp=>exact⟨v,by simp[execOp,hu,aDa ht (hc j v hv)],.d hdv⟩
theorem sV[Mode]{x:Operand}{t:TypeId}{b o j i m:Nat}{ds es:List D}{ty:TypeId}{pos:String}{af:Array Edge}{gd:Option (Nat×Bool)}(hd:d<n)
  (hx:st.eval x=.bp b o j)(ho:st.objs[i]?=some (.box b o ds))(ht:gJ P t m)(he:(ds.drop j).take m=es)(hl:es.length=m):aQ P n ⟨some d,.load t x,ty,pos,af,gd⟩ st (st.set d (.agg es)):=
 cG rfl hd λA M w0 a w hR=>by
  have hk:cD x=true:=by cases x with|const u=>cases hx|_=>rfl
  have h:=hR.eval' hk;rw[hx] at h
  generalize hu:a.eval x=u at h
  obtain⟨vs,hds,hc,_⟩:=hR.inv.holds _ (i8 ho);have hdt:=(hds.drop j).take m;cases h with
  | bp=>
   subst he;refine⟨.agg ((vs.drop j).take m).toArray,?_,.agg (by simpa using hdt)⟩
   simp[execOp,hu,aCz ht (vs:=(vs.drop j).take m) (by rw[hdt.length,hl]) ((hc.drop j).take m)]
theorem aIw{k:Nat}:∀{rows:List (List D)} {i:Nat} {ds:List D},(∀r∈rows,r.length=k)->rows[i]?=some ds->∀{j:Nat},j<k->rows.flatten[i*k+j]?=ds[j]?
 |[],i,ds,_,h,j,_=>by simp at h
 | r::rows,0,ds,hk,h,j,hj=>by
  simp at h;subst h
  simp only[aB9,Nat.zero_mul,s8];rw[m9 (by rw[hk r (by simp)];exact hj)]
 | r::rows,i+1,ds,hk,h,j,hj=>by
  have hr:=hk r (by simp);simp only[aB9];rw[p7 (by rw[hr,Nat.succ_mul];omega),hr,show(i+1)*k+j-k=i*k+j by rw[Nat.succ_mul];omega];exact aIw (λr' h'=>hk r' (j5 _ h')) (by simpa using h) hj
theorem bEb{k:Nat}:∀{rows:List (List D)} {i:Nat} {ds:List D},(∀r∈rows,r.length=k)->rows[i]?=some ds->(rows.flatten.drop (i*k)).take k=ds
 |[],i,ds,_,h=>by simp at h
 | r::rows,0,ds,hk,h=>by
  simp at h;subst h
  have hr:=hk r (by simp);simp only[aB9,Nat.zero_mul,aF7];rw[aE4 (by omega),aC6 (by omega)]
 | r::rows,i+1,ds,hk,h=>by
  have hr:=hk r (by simp);simp only[aB9];have hdrop:(r++rows.flatten).drop (r.length+i*k)=rows.flatten.drop (i*k):=by simp[List.drop_append]
  rw[show(i+1)*k=r.length+i*k by rw[Nat.succ_mul,hr];omega,hdrop];exact bEb (λr' h'=>hk r' (j5 _ h')) (by simpa using h)
theorem aRc[Mode]{w:World}{X:aR}{g m c:Nat}{e k:Nat}{rows:List (List D)}(h:(MO.arr (.slice (some ⟨g,0,none⟩) m c) e k rows).holds w X):
  ∃xs,DRs w X rows.flatten xs/\cellsAt w g 0 xs/\∀r∈rows,r.length=k:=by
 obtain⟨xs,hxs,hown,hr⟩:=h;refine⟨xs,hxs,λj v hj=>?_,hr⟩;have:=hown.cells (g:=g) rfl j v hj
 rwa[Addr.add_lit] at this
theorem bXh[Mode]{x:Operand}{t:TypeId}{v:Value}{e k i c m:Nat}{rows:List (List D)}{ds:List D}{d0:D}{ty:TypeId}{pos:String}{af:Array Edge}{gd:Option (Nat×Bool)}(hd:d<n)
  (hx:st.eval x=.ep v k i c)(ho:st.objs[m]?=some (.arr v e k rows))(hi:rows[i]?=some ds)(hj:ds[c]?=some d0)(ht:fN P t):aQ P n ⟨some d,.load t x,ty,pos,af,gd⟩ st (st.set d (.d d0)):=
 cG rfl hd λA M w0 a w hR=>by
  have hk:cD x=true:=by cases x with|const u=>cases hx|_=>rfl
  have h:=hR.eval' hk;rw[hx] at h
  generalize hu:a.eval x=u at h
  cases h with
  | ep g l q=>
   obtain⟨xs,hxs,hc,hr⟩:=aRc (hR.inv.holds _ (i8 ho));have hck:c<k:=by rw[<-hr _ (i8 hi)];exact(g7.1 hj).1
   obtain⟨v,hv,hdv⟩:=hxs.get ((aIw hr hi hck).trans hj);have hc':=hc _ v hv;rw[s8] at hc';exact⟨v,by simp[execOp,hu,aDa ht hc'],.d hdv⟩
theorem aPn[Mode]{x:Operand}{t:TypeId}{v:Value}{e k i c m l:Nat}{rows:List (List D)}{ds es:List D}{ty:TypeId}{pos:String}{af:Array Edge}{gd:Option (Nat×Bool)}(hd:d<n)
  (hx:st.eval x=.ep v k i c)(ho:st.objs[l]?=some (.arr v e k rows))(hi:rows[i]?=some ds)(ht:gJ P t m)(he:(ds.drop c).take m=es)(hl:es.length=m):aQ P n ⟨some d,.load t x,ty,pos,af,gd⟩ st (st.set d (.agg es)):=
 cG rfl hd λA M w0 a w hR=>by
  have hk:cD x=true:=by cases x with|const u=>cases hx|_=>rfl
  have h:=hR.eval' hk;rw[hx] at h
  generalize hu:a.eval x=u at h
  cases h with
  | ep g l q=>
   obtain⟨xs,hxs,hc,hr⟩:=aRc (hR.inv.holds _ (i8 ho));have hp:DRs w (aU A st.objs) ds ((xs.drop (i*k)).take k):=by
    have:=(hxs.drop (i*k)).take k
    rwa[bEb hr hi] at this
   have hdt:=(hp.drop c).take m;subst he;refine⟨.agg ((((xs.drop (i*k)).take k).drop c).take m).toArray,?_,.agg (by simpa using hdt)⟩;have hc':=(((hc.drop (i*k)).take k).drop c).take m;rw[s8] at hc'
   simp[execOp,hu,aCz ht (vs:=(((xs.drop (i*k)).take k).drop c).take m) (by rw[hdt.length,hl]) hc']
def idx{α:Type}(xs:List α)(p:Int):Option α:=if 0<=p then xs[p.toNat]? else none
theorem aIz{α:Type}{xs:List α}{p:Int}{x:α}(h:idx xs p=some x):0<=p/\p.toNat<xs.length/\xs[p.toNat]?=some x:=by
 unfold idx at h;split at h
 ·rename_i hp
  exact⟨hp,(g7.1 h).1,h⟩
 ·cases h
theorem fM{α β:Type}(f:α->β){xs:List α}{p:Int}{x:α}(h:idx xs p=some x):idx (xs.map f) p=some (f x):=by
 obtain⟨h1,_,h3⟩:=aIz h
 simp[idx,h1,h3]
theorem DR.row{w:World}{X:aR}{k:Nat}{rows:List (List D)}{v:Value}(h:DR w X (.sl k rows) v){i:Nat}{ds:List D}(hi:rows[i]?=some ds):
  ∃b o cap vs,v=.slice (some ⟨b,o,none⟩) rows.length cap/\DRs w X ds vs/\cellsAt w b (o+i*k) vs/\(∀j,j<ds.length->¬X b (o+i*k+j)):=by
 cases h with
 |nil=>simp at hi
 |e0=>simp at hi
 | sl _ _ b o cap f hk hcap hmax hc hr=>
  have hlt:i<rows.length:=(g7.1 hi).1;have hlen:ds.length=k:=hk _ (i8 hi);refine⟨b,o,cap,(List.range k).map (f i),rfl,DRs.of (by simp[hlen]) ?_,?_,?_⟩
  ·intro j d v hd hv;have hj:j<k:=by rw[<-hlen];exact(g7.1 hd).1
   have:=hr i j hlt hj;simp only[List.getD,hi,u7,hd] at this
   simp[hj] at hv
   subst hv;exact this
  ·intro j v hj;simp only[p8,Option.map_eq_some_iff] at hj;obtain⟨j',h1,rfl⟩:=hj;have hjk:j<k:=by simpa using(g7.1 h1).1
   have:j'=j:=by simpa[hjk] using h1.symm
   subst this;rw[Nat.add_assoc];exact(hc i j' hlt hjk).1
  ·intro j hj;rw[Nat.add_assoc];exact(hc i j hlt (by omega)).2
theorem aKx{t e k:Nat}(ht:mD P t e k){w:World}{b o len cap:Nat}{kd:IntKind}{p:Int}(h0:0<=p)(h1:p.toNat<len):
  (Instr.indexAt t (.slice (some ⟨b,o,none⟩) len cap) (.int kd p)).run P w=.ok (.pointer (some ⟨b,o+p.toNat*k,none⟩)) w:=by
 simp[Instr.indexAt,asIntOf,ht.1,ht.2,h0,show p<(len:Int) by omega,Addr.add_lit]
theorem qJ[Mode]{x y:Operand}{t e k:Nat}{rows:List (List D)}{kd:IntKind}{p:Int}{ds:List D}{ty:TypeId}{pos:String}{af:Array Edge}{gd:Option (Nat×Bool)}(hd:d<n)
  (hx:st.eval x=.d (.sl k rows))(hy:st.eval y=.d (.lit (.int kd p)))(ht:mD P t e k)(hp:idx rows p=some ds):
  aQ P n ⟨some d,.indexAddr t x y,ty,pos,af,gd⟩ st (st.set d (.cp ds)):=
 cG rfl hd λA M w0 a w hR=>by
  obtain⟨h0,h1,h2⟩:=aIz hp;have hk:cD x=true:=by cases x with|const u=>cases hx|_=>rfl
  have h:=hR.eval' hk;rw[hx] at h
  generalize hu:a.eval x=u at h
  cases h with
  | d h=>
   obtain⟨b,o,cap,vs,rfl,hds,hc,hX⟩:=h.row h2;exact⟨_,by simp only[execOp,hu,hR.lit hy,Sem.run_bind,aKx ht h0 h1];rfl,.cp b _ hds hc hX⟩
theorem aVo[Mode]{x y:Operand}{t e k m:Nat}{v:Value}{e':Nat}{rows:List (List D)}{kd:IntKind}{p:Int}{ty:TypeId}{pos:String}{af:Array Edge}{gd:Option (Nat×Bool)}{ds:List D}(hd:d<n)
  (hx:st.eval x=.d (.lit v))(ho:st.objs[m]?=some (.arr v e' k rows))(hy:st.eval y=.d (.lit (.int kd p)))(ht:mD P t e k)(hp:idx rows p=some ds):
  aQ P n ⟨some d,.indexAddr t x y,ty,pos,af,gd⟩ st (st.set d (.ep v k p.toNat 0)):=
 cG rfl hd λA M w0 a w hR=>by
  obtain⟨h0,h1,h2⟩:=aIz hp;obtain⟨xs,_,hown,_⟩:=hR.inv.holds _ (i8 ho)
  rcases hown.2 with⟨_,hn⟩|⟨g,cap,cur,rfl,_⟩
  ·rw[hn] at h1;omega
  ·refine⟨.pointer (some ⟨g,p.toNat*k+0,none⟩),?_,.ep g rows.length cap k p.toNat 0⟩;have:=aKx (P:=P) ht (w:=w) (b:=g) (o:=0) (len:=rows.length) (cap:=cap) (kd:=kd) h0 h1;simp only[s8] at this
   simp[execOp,hR.lit hx,hR.lit hy,this]
theorem bAk{t len e k:Nat}(ht:aXl P t len e k){w:World}{b o:Nat}{kd:IntKind}{p:Int}(h0:0<=p)(h1:p<len):
  (Instr.indexAt t (.pointer (some ⟨b,o,none⟩)) (.int kd p)).run P w=.ok (.pointer (some ⟨b,o+p.toNat*k,none⟩)) w:=by
 simp[Instr.indexAt,asIntOf,ht.1,ht.2,h0,h1,Instr.sureAddr,Addr.add_lit]
theorem aFj[Mode]{x y:Operand}{t len e k b o j:Nat}{kd:IntKind}{p:Int}{ty:TypeId}{pos:String}{af:Array Edge}{gd:Option (Nat×Bool)}(hd:d<n)
  (hx:st.eval x=.bp b o j)(hy:st.eval y=.d (.lit (.int kd p)))(ht:aXl P t len e k)(h0:0<=p)(h1:p<len):
  aQ P n ⟨some d,.indexAddr t x y,ty,pos,af,gd⟩ st (st.set d (.bp b o (j+p.toNat*k))):=
 cG rfl hd λA M w0 a w hR=>by
  have hk:cD x=true:=by cases x with|const u=>cases hx|_=>rfl
  have h:=hR.eval' hk;rw[hx] at h
  generalize hu:a.eval x=u at h
  cases h with
  |bp=>exact⟨.pointer (some ⟨b,o+j+p.toNat*k,none⟩),by simp[execOp,hu,hR.lit hy,bAk ht h0 h1],by rw[Nat.add_assoc];exact .bp b o _⟩
theorem bKg[Mode]{x:Operand}{k:Nat}{rows:List (List D)}{t ty:TypeId}{pos:String}{af:Array Edge}{gd:Option (Nat×Bool)}(hd:d<n)
  (hx:st.eval x=.d (.sl k rows)){e kk:Nat}(ht:mD P t e kk):aQ P n ⟨some d,.call {callee:=.builtin .len,args:= #[x],argTypes:= #[t]},ty,pos,af,gd⟩ st (st.set d (.i rows.length)):=
 cG rfl hd λA M w0 a w hR=>by
  have hk:cD x=true:=by cases x with|const u=>cases hx|_=>rfl
  have h:=hR.eval' hk;rw[hx] at h
  generalize hu:a.eval x=u at h
  refine⟨.int .i64 rows.length,?_,.of_lit rfl⟩;cases h with
  | d h=>
   cases h with
   |nil=>simp[execOp,resolve,hu,invoke,builtin,Builtin.len_,goInt,ht.1]
   |e0=>simp[execOp,resolve,hu,invoke,builtin,Builtin.len_,goInt,ht.1]
   |sl=>simp[execOp,resolve,hu,invoke,builtin,Builtin.len_,goInt,ht.1]
theorem cFk[Mode]{w:World}{X:aR}{v:Value}{e k:Nat}{rows:List (List D)}(h:(MO.arr v e k rows).holds w X):∃b c,v=.slice b rows.length c:=by
 obtain⟨xs,_,hown,_⟩:=h
 rcases hown.2 with⟨h,hn⟩|⟨g,cap,cur,h,_⟩
 ·exact⟨none,0,by rw[h,hn]⟩
 ·exact⟨_,_,h⟩
theorem bFa[Mode]{x:Operand}{v:Value}{e k m:Nat}{rows:List (List D)}{t ty:TypeId}{pos:String}{af:Array Edge}{gd:Option (Nat×Bool)}(hd:d<n)
  (hx:st.eval x=.d (.lit v))(ho:st.objs[m]?=some (.arr v e k rows)){e' kk:Nat}(ht:mD P t e' kk):aQ P n ⟨some d,.call {callee:=.builtin .len,args:= #[x],argTypes:= #[t]},ty,pos,af,gd⟩ st (st.set d (.i rows.length)):=
 cG rfl hd λA M w0 a w hR=>by
  obtain⟨b,c,rfl⟩:=cFk (hR.inv.holds _ (i8 ho));exact⟨.int .i64 rows.length,by simp[execOp,resolve,hR.lit hx,invoke,builtin,Builtin.len_,goInt,ht.1],.of_lit rfl⟩
end
end Go.Am
end
section
section
namespace Go.Am
theorem Keeps.alloc[Mode](Z:aR)(w:World)(o:Obj):Keeps Z w (w.alloc o):=
  ⟨rfl,rfl,rfl,by simp,λb hb _=>heap_alloc_old w o b hb,λb _ hb _=>World.cell?_alloc_lt w o _ hb,
   λb _ hb _=>World.frozen?_alloc_old w o ⟨b,_,none⟩ (Nat.ne_of_lt hb),λ_=>n5 _⟩
theorem Keeps.drew[Mode](Z:aR)(w:World):Keeps Z w w.drew:=
 ⟨rfl,rfl,rfl,n5 _,λ_ _ _=>rfl,λ_ _ _ _=>rfl,λ_ _ _ _=>rfl,λ_=>Nat.le_succ _⟩
theorem aIy(b:Nat):∀(vs:List Value) (o:Nat) (w:World) (i:Nat),i≠b->(w.setCells b o vs).heap[i]?=w.heap[i]?
 |[],_,_,_,_=>rfl
 | v::vs,o,w,i,h=>by
  rw[World.setCells,aIy b vs _ _ i h,heap_setCell_other _ _ _ _ h]
theorem aSz(b:Nat):∀(vs:List Value) (o:Nat) (w:World),(w.setCells b o vs).os=w.os/\(w.setCells b o vs).tape=w.tape/\(w.setCells b o vs).output=w.output/\(w.setCells b o vs).heap.size=w.heap.size/\(w.setCells b o vs).drawn=w.drawn
 |[],_,_=>⟨rfl,rfl,rfl,rfl,rfl⟩
 | v::vs,o,w=>by
  rw[World.setCells];have:=aSz b vs (o+1) (w.setCell ⟨b,o,none⟩ v)
  simpa[World.setCell] using this
theorem Keeps.setCells[Mode](w:World)(b o:Nat)(vs:List Value){Z:aR}(hz:∀y,o<=y->y<o+vs.length->Z b y)(hne:vs≠[]):Keeps Z w (w.setCells b o vs):=by
 have hf:=aSz b vs o w;refine⟨hf.1,hf.2.1,hf.2.2.1,by rw[hf.2.2.2.1];exact n5 _,λi hi h=>?_,λi y hi h=>?_,λ_ _ _ _=>World.frozen?_setCells b vs o w _,λ_=>by rw[hf.2.2.2.2];exact n5 _⟩
 ·by_cases hib:i=b
  ·subst hib;have:0<vs.length:=List.length_pos_iff.2 hne;exact absurd (hz o (n5 _) (by omega)) (h o)
  ·exact aIy b vs o w i hib
 ·refine World.cell?_setCells_out b vs o w ⟨i,y,none⟩ λhb _=>?_;simp only at hb|-;subst hb
  rcases aC1 y o with h1|h1
  ·exact .inl h1
  ·rcases aC1 y (o+vs.length) with h2|h2
   ·exact absurd (hz y h1 h2) h
   ·exact .inr h2
theorem R.change[Mode]{A M Z:aR}{w0:W0}{n:Nat}{st:St}{a:Act}{w w':World}{objs':List MO}(h:R A M w0 n st a w)(hk:Keeps Z w w')
  (hz:∀b o,Z b o->fJ st.objs b o)(hl:∀b o,b<w.heap.size->fJ objs' b o->fJ st.objs b o)(hsep:Sep objs')
  (hh:Mono w (aU A st.objs) w' (aU A objs')->∀m∈objs',m.holds w' (aU A objs')):R A M w0 n ⟨st.env,objs'⟩ a w':=by
 have hm:Mono w (aU A st.objs) w' (aU A objs'):=lR hk (λb o hb=>.inr (hz b o hb)) λb o hb hx=>hx.imp id (hl b o hb);have hs0:=h.keeps.size;refine⟨h.size,h.defers.step hk (λb o hb=>.inr (hz b o hb)) (λb o hb hx=>hx.imp id (hl b o hb)),λk=>(h.env k).mono hm,⟨hsep,λm hm' b o hf hA=>?_,hh hm,h.inv.amb.on hm⟩,h.keeps.weaken hk λb o hb=>?_,λm hm' b o hf=>?_,h.old⟩
 ·have hlt:=u4 (h.old b o hA) hs0;obtain⟨m2,h2,h3⟩:=hl b o hlt ⟨m,hm',hf⟩;exact h.inv.apart m2 h2 b o h3 hA
 ·obtain⟨m2,h2,h3⟩:=hz b o hb;exact h.own m2 h2 b o h3
 ·rcases aC1 b w.heap.size with hlt|hge
  ·obtain⟨m2,h2,h3⟩:=hl b o hlt ⟨m,hm',hf⟩;exact h.own m2 h2 b o h3
  ·exact .inr (aH4 hs0 hge)
theorem kT{l l':List MO}{b o:Nat}:fJ (l++l') b o↔fJ l b o\/fJ l' b o:=by
 constructor
 ·rintro⟨m,hm,hf⟩
  rcases i6.1 hm with h|h
  ·exact .inl ⟨m,h,hf⟩
  ·exact .inr ⟨m,h,hf⟩
 ·rintro(⟨m,hm,hf⟩|⟨m,hm,hf⟩)
  ·exact⟨m,i6.2 (.inl hm),hf⟩
  ·exact⟨m,i6.2 (.inr hm),hf⟩
theorem bZv{m:MO}{b o:Nat}:fJ [m] b o↔m.foot b o:=by simp[fJ]
theorem R.add[Mode]{A M:aR}{w0:W0}{n:Nat}{st:St}{a:Act}{w w':World}{m:MO}(h:R A M w0 n st a w)(hk:Keeps (λ_ _=>False) w w')
  (hf:∀b o,m.foot b o->w.heap.size<=b)(hh:Mono w (aU A st.objs) w' (aU A (st.objs++[m]))->m.holds w' (aU A (st.objs++[m]))):R A M w0 n ⟨st.env,st.objs++[m]⟩ a w':=by
 have hlt:∀x∈st.objs,∀b o,x.foot b o->b<w.heap.size:=λx hx b o hxf=>lU (h.inv.holds x hx) hxf;refine h.change hk (λ_ _ hx=>hx.elim) (λb o hb hx=>?_) ?_ λhm x hx=>?_
 ·rcases kT.1 hx with h1|h1
  ·exact h1
  ·have:=hf b o (bZv.1 h1);omega
 ·refine p9.2 ⟨h.inv.sep,by simp,λx hx y hy b o hxf hyf=>?_⟩
  simp at hy;subst hy
  have:=hlt x hx b o hxf;have:=hf b o hyf
  omega
 ·rcases i6.1 hx with h1|h1
  ·exact cI (h.inv.holds x h1) hk (λ_ _ _ hx=>hx) hm
  ·simp at h1;subst h1;exact hh hm
theorem R.replace[Mode]{A M Z:aR}{w0:W0}{n:Nat}{st:St}{a:Act}{w w':World}{i:Nat}{m m':MO}(h:R A M w0 n st a w)(hi:st.objs[i]?=some m)(hk:Keeps Z w w')
  (hz:∀b o,Z b o->m.foot b o)(hf:∀b o,m'.foot b o->m.foot b o\/w.heap.size<=b)
  (hh:Mono w (aU A st.objs) w' (aU A (st.objs.set i m'))->m'.holds w' (aU A (st.objs.set i m'))):R A M w0 n ⟨st.env,st.objs.set i m'⟩ a w':=by
 have hlt:∀x∈st.objs,∀b o,x.foot b o->b<w.heap.size:=λx hx b o hxf=>lU (h.inv.holds x hx) hxf;have hil:i<st.objs.length:=(g7.1 hi).1;have hmi:st.objs[i]=m:=(g7.1 hi).2;have hsep:=u0.1 h.inv.sep;refine h.change hk (λb o hb=>⟨m,i8 hi,hz b o hb⟩) (λb o hb hx=>?_) ?_ λhm x hx=>?_
 ·obtain⟨x,hx,hxf⟩:=hx
  rcases aC0 hx with h1|rfl
  ·exact⟨x,h1,hxf⟩
  ·rcases hf b o hxf with h1|h1
   ·exact⟨m,i8 hi,h1⟩
   ·omega
 ·refine u0.2 λp q hp hq hpq b o hpf hqf=>?_;simp only[aA7] at hp hq;simp only[List.getElem_set] at hpf hqf;split at hpf
  ·rename_i hip
   split at hqf
   ·omega
   ·subst hip
    rcases hf b o hpf with h1|h1
    ·exact hsep i q hil hq hpq b o (hmi▸h1) hqf
    ·have:=hlt _ (j9 hq) b o hqf;omega
  ·split at hqf
   ·rename_i hiq
    subst hiq
    rcases hf b o hqf with h1|h1
    ·exact hsep p i hp hil hpq b o hpf (hmi▸h1)
    ·have:=hlt _ (j9 hp) b o hpf;omega
   ·exact hsep p q hp hq hpq b o hpf hqf
 ·obtain⟨q,hq⟩:=List.getElem?_of_mem hx;rw[aB3] at hq
  by_cases hne:i=q
  ·subst hne;rw[if_pos rfl,if_pos hil] at hq;cases hq;exact hh hm
  ·rw[if_neg hne] at hq;have hql:q<st.objs.length:=(g7.1 hq).1;have hqe:st.objs[q]=x:=(g7.1 hq).2;have hxm:x∈st.objs:=i8 hq;refine cI (h.inv.holds x hxm) hk (λb o hxf hzb=>?_) hm;have hmf:=hz b o hzb
   rcases Nat.lt_or_gt_of_ne hne with h1|h1
   ·exact hsep i q hil hql h1 b o (hmi▸hmf) (hqe▸hxf)
   ·exact hsep q i hql hil h1 b o (hqe▸hxf) (hmi▸hmf)
def AV.cells:AV->Option (List D)
 | .d x=>some [x]
 | .agg xs=>some xs
 |_=>none
theorem VR.cells{w:World}{X:aR}{x:AV}{v:Value}{ds:List D}(h:VR w X x v)(hc:x.cells=some ds):DRs w X ds v.cells.toList:=by
 cases h with
 | d h=>
  cases hc;have:=h.oneCell;cases v<;>first|(exact⟨h,trivial⟩)|(simp[Value.oneCell'] at this)
 |agg h=>cases hc;exact h
 |_=>cases hc
section
variable{P:Program}{n d:Nat}{st:St}{o:Oper}
theorem aRd[Mode]{w:World}{X X':aR}{ds:List D}{cs:Array Value}{e:TypeId}(h:DRs w X ds cs.toList)(hm:Mono w X (w.alloc (.cells cs e)) X'):(MO.box w.heap.size 0 ds).holds (w.alloc (.cells cs e)) X':=by
 refine⟨cs.toList,h.mono hm,λj v hj=>?_,λj _=>?_⟩
 ·rw[World.cell?_alloc_new];simpa using hj
 ·simp
theorem mY[Mode]{x:Operand}{t:TypeId}{v:AV}{ds:List D}{ty:TypeId}{pos:String}{af:Array Edge}{gd:Option (Nat×Bool)}(hd:d<n)
  (hx:st.eval x=v)(hk:cD x=true)(hv:v.cells=some ds):
  Step P n ⟨some d,.box t x,ty,pos,af,gd⟩ st (λs=>∃b,s=(st.setadd d (.bp b 0 0) (.box b 0 ds))):=by
 intro A M w0 a w hR K Q hK;have h:=hR.eval' hk;rw[hx] at h;have hds:=h.cells hv;unfold Oper.wp;have hrun:(execOp a.eval ⟨some d,.box t x,ty,pos,af,gd⟩).run P w=.ok (.value (.pointer (some ⟨w.heap.size,0,none⟩))) (w.alloc (.cells (a.eval x).cells t)):=by
  simp[execOp,Instr.box,newVar,newRow]
 rw[hrun,Oper.upon_value];refine hK _ _ _ ⟨w.heap.size,rfl⟩ ?_;have hR':=hR.add (w':=w.alloc (.cells (a.eval x).cells t)) (m:=.box w.heap.size 0 ds) (Keeps.alloc _ _ _) (λb o hf=>by cases hf.1;exact n5 _)
  (λhm=>aRd hds hm)
 exact hR'.put (o:=⟨some d,.box t x,ty,pos,af,gd⟩) rfl hd (.bp _ 0 0)
def bD:D->Value
 | .lit v=>v
 | .sl _ _=>.slice none 0 0
 | .sn _ _=>.slice none 0 0
 | .mp _ _=>.map none
 | .pt _=>.pointer none
 | .fc .. =>undef
 | .hv .. =>undef
def zOK:List D->Bool
 |[]=>true
 | .lit v::l=>v.oneCell'&&zOK l
 | .sl _ []::l=>zOK l
 |_=>false
theorem aAs{w:World}{X:aR}:∀{zs:List D},zOK zs=true->DRs w X zs (zs.map bD)
 |[],_=>trivial
 | .lit v::l,h=>by
  simp only[zOK,f4] at h;exact⟨.lit v h.1,aAs h.2⟩
 | .sl k []::l,h=>⟨.nil k,aAs (by simpa[zOK] using h)⟩
 | .sl k (r::rs)::l,h=>by simp[zOK] at h
 | .sn k rs::l,h=>by simp[zOK] at h
 | .mp _ _::l,h=>by simp[zOK] at h
 | .pt _::l,h=>by simp[zOK] at h
 | .fc .. ::l,h=>by simp[zOK] at h
 | .hv .. ::l,h=>by simp[zOK] at h
theorem dW[Mode]{t:TypeId}{z:Value}{zs:List D}{ty:TypeId}{pos:String}{af:Array Edge}{gd:Option (Nat×Bool)}(hd:d<n)
  (hz:∀w,(zeroValue t).run P w=.ok z w)(hzs:z.cells=(zs.map bD).toArray)(hok:zOK zs=true):
  Step P n ⟨some d,.alloc t,ty,pos,af,gd⟩ st (λs=>∃b,s=(st.setadd d (.bp b 0 0) (.box b 0 zs))):=by
 intro A M w0 a w hR K Q hK;unfold Oper.wp;have hrun:(execOp a.eval ⟨some d,.alloc t,ty,pos,af,gd⟩).run P w=.ok (.value (.pointer (some ⟨w.heap.size,0,none⟩))) (w.alloc (.cells (zs.map bD).toArray t)):=by
  simp[execOp,Instr.alloc,newVar,newRow,hz,hzs]
 rw[hrun,Oper.upon_value];refine hK _ _ _ ⟨w.heap.size,rfl⟩ ?_;have hR':=hR.add (w':=w.alloc (.cells (zs.map bD).toArray t)) (m:=.box w.heap.size 0 zs) (Keeps.alloc _ _ _) (λb o hf=>by cases hf.1;exact n5 _)
  (λhm=>aRd (by simpa using aAs (w:=w) (X:=aU A st.objs) hok) hm)
 exact hR'.put (o:=⟨some d,.alloc t,ty,pos,af,gd⟩) rfl hd (.bp _ 0 0)
theorem aKy{t m:Nat}(hs:∀w,(sizeOf t).run P w=.ok m w){w:World}{b o:Nat}{v:Value}(hm:v.cells.size=m)
  (hc:∀j,j<m->(w.cell? ⟨b,o+j,none⟩).isSome=true)(hf:∀j,j<m->w.frozen? ⟨b,o+j,none⟩=false)(h1:∀u∈v.cells.toList,u.oneCell'=true):
  (Instr.storeAt t (.pointer (some ⟨b,o,none⟩)) v).run P w=.ok () (w.setCells b o v.cells.toList):=by
 have:=run_storeCells_cells (P:=P) b o v.cells.toList 0 w (by simpa[hm] using hc) (by simpa[hm] using hf) h1
 simp[Instr.storeAt,Instr.sureAddr,storeVar,hs,hm]
 simpa using this
def dO(ds:List D)(j:Nat)(es:List D):List D:=ds.take j++es++ds.drop (j+es.length)
theorem aCp{ds es:List D}{j:Nat}(h:j+es.length<=ds.length):(dO ds j es).length=ds.length:=by
 simp[dO];omega
theorem aVl{w:World}{X X':aR}{b o:Nat}{ds es:List D}{vs us:List Value}{j:Nat}(hds:DRs w X ds vs)(hc:cellsAt w b o vs)(hes:DRs w X es us)(hj:j+es.length<=ds.length)
  (hm:Mono w X (w.setCells b (o+j) us) X'):
  ∃vs',DRs (w.setCells b (o+j) us) X' (dO ds j es) vs'/\cellsAt (w.setCells b (o+j) us) b o vs':=by
 have hlv:=hds.length;have hlu:=hes.length;refine⟨vs.take j++us++vs.drop (j+es.length),(((hds.take j).append hes).append (hds.drop _)).mono hm,λq v hq=>?_⟩;have hcell:∀i,i<vs.length->(w.cell? ⟨b,o+i,none⟩).isSome=true:=λi hi=>by rw[hc i _ (g9 hi)];rfl
 rcases aC1 q j with h1|h1
 ·rw[List.append_assoc,m9 (by simp;omega),aF3,if_pos h1] at hq;rw[World.cell?_setCells_out b us (o+j) w ⟨b,o+q,none⟩ λ_ _=>.inl (by simp only;omega)];exact hc q v hq
 ·rcases aC1 q (j+us.length) with h2|h2
  ·rw[List.append_assoc,p7 (by simp;omega),m9 (by simp;omega)] at hq;have hq':q-(List.take j vs).length=q-j:=by simp;omega
   rw[hq'] at hq;have:=World.cell?_setCells_in b us (o+j) w (λi hi=>by rw[Nat.add_assoc];exact hcell (j+i) (by omega)) (q-j) (by omega);rw[show o+j+(q-j)=o+q by omega] at this;rw[this,<-hq,g9]
  ·rw[p7 (by simp;omega),aG9] at hq;have hq':j+es.length+(q-(List.take j vs++us).length)=q:=by simp;omega
   rw[hq'] at hq;rw[World.cell?_setCells_out b us (o+j) w ⟨b,o+q,none⟩ λ_ _=>.inr (by simp only;omega)];exact hc q v hq
theorem eY[Mode]{x y:Operand}{t m b o0 j i:Nat}{ds es ds':List D}{v:AV}{ty:TypeId}{pos:String}{af:Array Edge}{gd:Option (Nat×Bool)}
  (hx:st.eval x=.bp b o0 j)(ho:st.objs[i]?=some (.box b o0 ds))(hy:st.eval y=v)(hk:cD y=true)(hv:v.cells=some es)(ht:∀w,(sizeOf t).run P w=.ok m w)(hm:es.length=m)(hm0:0<m)
  (hj:j+es.length<=ds.length)(hds:dO ds j es=ds'):
  aQ P n ⟨none,.store t x y,ty,pos,af,gd⟩ st (st.put1 i (.box b o0 ds')):=by
 intro A M w0 a w hR K Q hK;have hkx:cD x=true:=by cases x with|const u=>cases hx|_=>rfl
 have h:=hR.eval' hkx;rw[hx] at h;have hyv:=hR.eval' hk;rw[hy] at hyv;have hes:=hyv.cells hv;obtain⟨vs,hvs,hc,hf⟩:=hR.inv.holds _ (i8 ho);have hlv:=hvs.length;have hle:=hes.length;have hsz:(a.eval y).cells.size=m:=by rw[<-Array.length_toList,hle,hm]
 have hcell:∀i,i<vs.length->(w.cell? ⟨b,o0+i,none⟩).isSome=true:=λi hi=>by rw[hc i _ (g9 hi)];rfl
 have hpt:a.eval x=.pointer (some ⟨b,o0+j,none⟩):=by
  generalize hu:a.eval x=u at h
  cases h;rfl
 have hst:=aKy (P:=P) ht (w:=w) (b:=b) (o:=o0+j) hsz (λq hq=>by rw[Nat.add_assoc];exact hcell _ (by omega)) (λq hq=>by rw[Nat.add_assoc];exact hf _ (by omega)) hes.oneCell;unfold Oper.wp;have hrun:(execOp a.eval ⟨none,.store t x y,ty,pos,af,gd⟩).run P w=.ok .skip (w.setCells b (o0+j) (a.eval y).cells.toList):=by
  simp[execOp,hpt,hst]
 rw[hrun,Oper.upon_skip];refine hK _ _ _ rfl ?_;subst hds;have hne:(a.eval y).cells.toList≠[]:=by intro h0;rw[h0] at hle;simp at hle;omega
 have hR':=hR.replace (w':=w.setCells b (o0+j) (a.eval y).cells.toList) (m':=.box b o0 (dO ds j es)) ho (Keeps.setCells w b (o0+j) _ (Z:=(MO.box b o0 ds).foot) (λq h1 h2=>⟨rfl,by omega,by omega⟩) hne)
  (λ_ _ hz=>hz) (λp q hf'=>.inl ⟨hf'.1,hf'.2.1,by have:=hf'.2.2;rwa[aCp hj] at this⟩) λhmono=>by
   obtain⟨vs',h1,h2⟩:=aVl hvs hc hes hj hmono;exact⟨vs',h1,h2,λq hq=>by rw[World.frozen?_setCells];exact hf q (by rwa[aCp hj] at hq)⟩
 exact hR'.put_none rfl
end
end Go.Am
end
section
namespace Go.Am
theorem aRq:∀(vs:List Value) (off k:Nat) (cs:Array Value),off+k+vs.length<=cs.size->
  ((vs.zipIdx k).foldl (λcs x=>cs.setIfInBounds (off+x.2) x.1) cs).toList=cs.toList.take (off+k)++vs++cs.toList.drop (off+k+vs.length)
 |[],off,k,cs,_=>by simp
 | v::vs,off,k,cs,h=>by
  simp only[aB2] at h;simp only[List.zipIdx_cons,aG3];rw[aRq vs off (k+1) (cs.setIfInBounds (off+k) v) (by simp;omega)];rw[Array.toList_setIfInBounds];have hl:off+k<cs.toList.length:=by simp;omega
  rw[show off+(k+1)=off+k+1 by omega,p6 (by simpa using hl),List.take_set_of_le (by omega)];rw[List.drop_set_of_lt (by omega)];simp only[List.getElem_set_self,aB2,List.append_assoc,List.singleton_append,aA4,aG4];rw[show off+k+1+vs.length=off+k+(vs.length+1) by omega]
def zV(place:Nat->Option (Nat×Nat))(ds:List D):List (Nat×AV)->Option (List D)
 |[]=>some ds
 | (i,x)::rest=>
  match place i,x.cells with
  |some (off,size),some es=>if es.length=size/\off+es.length<=ds.length then zV place (dO ds off es) rest else none
  |_,_=>none
def PRs(w:World)(X:aR):List (Nat×AV)->List (Nat×Value)->Prop
 |[],[]=>True
 |(i,x)::l,(j,v)::l'=>i=j/\VR w X x v/\PRs w X l l'
 |_,_=>False
theorem aWb{w:World}{X:aR}{place:Nat->Option (Nat×Nat)}:∀{l:List (Nat×AV)} {l':List (Nat×Value)} {ds ds':List D} {cs:Array Value},
  DRs w X ds cs.toList->PRs w X l l'->zV place ds l=some ds'->∃cs',Instr.fill place cs l'=some cs'/\DRs w X ds' cs'.toList
 | [],[],ds,ds',cs,h,_,hf=>by
  simp only[zV,m7] at hf;subst hf;exact⟨cs,rfl,h⟩
 | (i,x)::l,(j,v)::l',ds,ds',cs,h,hp,hf=>by
  obtain⟨rfl,hv,hp'⟩:=hp;simp only[zV] at hf;split at hf
  ·rename_i off size es hpl hcell
   split at hf
   ·rename_i hcond
    obtain⟨h1,h2⟩:=hcond;have hes:=hv.cells hcell;have hle:=hes.length;have hlc:=h.length;simp only[Array.length_toList] at hle hlc;have hfold:=aRq v.cells.toList off 0 cs (by simp;omega);simp only[aE1] at hfold;have harr:v.cells.zipIdx.foldl (λcs (c,j)=>cs.setIfInBounds (off+j) c) cs=(cs.toList.take off++v.cells.toList++cs.toList.drop (off+v.cells.toList.length)).toArray:=by
     apply Array.ext';rw[<-hfold,<-Array.foldl_toList]
     simp
    have hd':DRs w X (dO ds off es) (cs.toList.take off++v.cells.toList++cs.toList.drop (off+v.cells.toList.length)):=by
     unfold dO;rw[show v.cells.toList.length=es.length by simp;omega];exact((h.take off).append hes).append (h.drop _)
    obtain⟨cs',hc1,hc2⟩:=aWb (l:=l) (l':=l') (cs:=(cs.toList.take off++v.cells.toList++cs.toList.drop (off+v.cells.toList.length)).toArray) (by simpa using hd') hp' hf;refine⟨cs',?_,hc2⟩;simp only[Instr.fill,hpl,harr];rw[if_neg (by simp;omega)];exact hc1
   ·cases hf
  ·cases hf
section
variable{P:Program}{n d:Nat}{st:St}{o:Oper}
def St.parts(st:St):List (Nat×Operand)->List (Nat×AV)
 |[]=>[]
 |(i,x)::l=>(i,st.eval x)::St.parts st l
def wC:List (Nat×Operand)->Bool
 |[]=>true
 |(_,x)::l=>cD x&&wC l
theorem aBj[Mode]{A M:aR}{w0:W0}{a:Act}{w:World}(hR:R A M w0 n st a w):∀{l:List (Nat×Operand)},wC l=true->
  PRs w (aU A st.objs) (st.parts l) (l.map λ(i,x)=>(i,a.eval x))
 |[],_=>trivial
 | (i,x)::l,h=>by
  simp only[wC,f4] at h;exact⟨rfl,hR.eval' h.1,aBj hR h.2⟩
def mP(P:Program)(t:TypeId)(z:Value)(pl:List (Nat×Nat)):Prop:=
 (∀w,(zeroValue t).run P w=.ok z w)/\∃fs,(∀w,(underlying t).run P w=.ok (.struct fs) w)/\
  (∀w,(fs.mapM λf=>(do pure (f.offset,<-sizeOf f.type):Sem (Nat×Nat))).run P w=.ok pl.toArray w)
theorem jI[Mode]{t:TypeId}{z:Value}{pl:List (Nat×Nat)}{l:List (Nat×Operand)}{zs es:List D}{ty:TypeId}{pos:String}{af:Array Edge}{gd:Option (Nat×Bool)}(hd:d<n)
  (ht:mP P t z pl)(hzs:z.cells=(zs.map bD).toArray)(hok:zOK zs=true)(hp:wC l=true){ps:List (Nat×AV)}(hps:st.parts l=ps)(he:zV (λi=>pl[i]?) zs ps=some es):
  aQ P n ⟨some d,.build t l.toArray,ty,pos,af,gd⟩ st (st.set d (.agg es)):=
 cG rfl hd λA M w0 a w hR=>by
  replace hps:=hps.symm;subst hps
  obtain⟨hz,fs,hu,hm⟩:=ht;obtain⟨cs',h1,h2⟩:=aWb (place:=λi=>pl[i]?) (cs:=(zs.map bD).toArray) (by simpa using aAs (w:=w) (X:=aU A st.objs) hok) (aBj hR hp) he;refine⟨.agg cs',?_,.agg h2⟩;have h1':Instr.fill (λx=>pl.toArray[x]?) (zs.map bD).toArray (l.map λ(i,x)=>(i,a.eval x))=some cs':=by
   rw[<-h1];congr 1;funext i;simp
  simp only[execOp,Instr.build,Sem.run_bind,hz,Result.andThen_ok,hu,hm,hzs,List.map_toArray];rw[h1']
  simp
def rE:Nat->List (Nat×AV)->Option (List (List D))
 |_,[]=>some []
 | k,(i,x)::l=>match x.cells,rE (k+1) l with
  |some ds,some rows=>if i=k then some (ds::rows) else none
  |_,_=>none
theorem bDy{w:World}{X:aR}{size len:Nat}:∀{l:List (Nat×AV)} {l':List (Nat×Value)} {k:Nat} {rows:List (List D)} {cs:Array Value} {pre:List Value},PRs w X l l'->rE k l=some rows->(∀r∈rows,r.length=size)->
  cs.toList.take (k*size)=pre->cs.size=len*size->k+rows.length=len->
  ∃vs,Instr.fill (λi=>some (i*size,size)) cs l'=some (pre++vs).toArray/\DRs w X rows.flatten vs
 | [],[],k,rows,cs,pre,_,hr,hs,hpre,hc,hl=>by
  simp only[rE,m7] at hr;subst hr;refine⟨[],?_,trivial⟩;simp only[aF1,aE1] at hl;subst hl;rw[aC6 (by simp[hc])] at hpre;subst hpre
  simp[Instr.fill]
 | (i, x)::l,(j,v)::l',k,rows,cs,pre,hp,hr,hs,hpre,hc,hl=>by
  obtain⟨rfl,hv,hp'⟩:=hp;simp only[rE] at hr;split at hr
  ·rename_i ds rows' hcell hrows'
   split at hr
   ·rename_i hik
    subst hik;cases hr;have hes:=hv.cells hcell;have hle:=hes.length;have hds:ds.length=size:=hs ds (by simp);simp only[Array.length_toList] at hle;simp only[aB2] at hl;have hsum:i*size+size<=cs.size:=by rw[hc,<-hl,<-Nat.succ_mul];exact aG0 _ (by omega)
    have hfold:=aRq v.cells.toList (i*size) 0 cs (by simp;omega);simp only[aE1] at hfold;have harr:v.cells.zipIdx.foldl (λcs (c,j)=>cs.setIfInBounds (i*size+j) c) cs=(cs.toList.take (i*size)++v.cells.toList++cs.toList.drop (i*size+v.cells.toList.length)).toArray:=by
     apply Array.ext';rw[<-hfold,<-Array.foldl_toList]
     simp
    have hvl:v.cells.toList.length=size:=by simp;omega
    obtain⟨vs,h1,h2⟩:=bDy (l:=l) (l':=l') (k:=i+1) (len:=len) (size:=size) (cs:=(cs.toList.take (i*size)++v.cells.toList++cs.toList.drop (i*size+v.cells.toList.length)).toArray) (pre:=pre++v.cells.toList) hp' hrows'
     (λr h=>hs r (j5 _ h)) (by
      rw[<-hpre,Nat.succ_mul,List.toList_toArray];rw[aE4 (by simp;omega),aC6 (by simp;omega)])
     (by simp only[List.size_toArray,aA8,List.length_take,List.length_drop,hvl,Array.length_toList];omega) (by omega)
    refine⟨v.cells.toList++vs,?_,by simpa using hes.append h2⟩;simp only[Instr.fill,harr];rw[if_neg (by simp;omega),<-List.append_assoc];exact h1
   ·cases hr
  ·cases hr
theorem aEr{t e k:Nat}(ht:mD P t e k){z:Value}(hz:∀w,(zeroValue e).run P w=.ok z w)(hzc:z.cells.size=k){w:World}{X:aR}{len:Nat}{l:List (Nat×AV)}{l':List (Nat×Value)}{rows:List (List D)}
  (hp:PRs w X l l')(hr:rE 0 l=some rows)(hk:∀r∈rows,r.length=k)(hl:rows.length=len)(hb:len*k<=16777216):
  ∃vs,(Instr.buildSlice t len l'.toArray).run P w=.ok (.slice (some ⟨w.heap.size,0,none⟩) len len) (w.alloc (.cells vs.toArray e))/\DRs w X rows.flatten vs:=by
 have key:∀cs:Array Value,cs.size=len*k->
   ∃vs,Instr.fill (λi=>some (i*k,k)) cs l'=some vs.toArray/\DRs w X rows.flatten vs:=by
  intro cs hcs;obtain⟨vs,h1,h2⟩:=bDy (l:=l) (l':=l') (k:=0) (len:=len) (size:=k) (cs:=cs) (pre:=[]) hp hr hk (by simp) hcs (by omega);exact⟨vs,by simpa using h1,h2⟩
 by_cases h0:len*k=0
 ·obtain⟨vs,h1,h2⟩:=key ((Array.range (len*k)).map ((#[]:Array Value)[·%(#[]:Array Value).size]!)) (by simp);refine⟨vs,?_,h2⟩;simp only[Instr.buildSlice,Sem.run_bind,ht.1,ht.2,Result.andThen_ok,h0,aF2];rw[h0,Array.range_zero',Array.map_empty] at h1
  simp[newRow,Array.range_zero',h1]
 ·obtain⟨vs,h1,h2⟩:=key ((Array.range (len*k)).map (z.cells[·% z.cells.size]!)) (by simp);refine⟨vs,?_,h2⟩;simp only[Instr.buildSlice,Sem.run_bind,ht.1,ht.2,Result.andThen_ok,h0,aB8,show¬2^24<len*k by omega,gt_iff_lt,hz,Sem.run_pure,h1]
  simp[newRow]
end
end Go.Am
end
end
end
