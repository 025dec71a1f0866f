/- Several texts, one behind the other. -/
import Derived.Test.YtejdennodgdfhaaGreatDoorAmRange
import Derived.Test.YtejdennodgdfhaaGreatDoorAmClo
import Derived.Lib.ItoaNum
import Derived.Lib.Join
import Derived.Lib.LaidTab
import Derived.Lib.AppendIntMem
import Derived.Lib.Split
import Derived.Lib.SplitLaws
import Derived.Lib.IndexMore
import Derived.Lib.ConvBytes
import Derived.Laws.BytesArg
import Derived.Shelf.SlSortCmp.Insertion
section
namespace Go.Am
open RowKit Go.Sort
abbrev zI:Mode:=⟨False⟩
theorem aQs[Mode](w:World)(k:Nat)(os:Array Obj):Keeps (λ_ _=>False) w (grow (w.drewN k) os):=by
 refine⟨rfl,rfl,rfl,?_,λb hb _=>heap_grow_old (w.drewN k) os hb,λb o hb _=>cell?_grow (w.drewN k) os ⟨b,o,none⟩ hb,λb o hb _=>frozen?_grow (w.drewN k) os ⟨b,o,none⟩ hb,λ_=>Nat.le_add_right _ _⟩;show w.heap.size<=(w.heap++os).size;rw[Array.size_append];exact Nat.le_add_right _ _
theorem aNm{w w':World}(h:Below w.heap.size w w'): @Keeps zI (λ_ _=>False) w w':=
 @Keeps.mk zI _ _ _ h.os h.tape h.output h.size (λb hb _=>h.block b hb) (λb o hb _=>by simp only[World.cell?,h.block b hb]) (λb o hb _=>by simp only[World.frozen?,h.block b hb]) λx=>x.elim
theorem aKr[Mode]{P:Program}{f:FuncId}{args:List AV}{r:AV}(h:∀(A:bE) (w:World) (vs:List Value),Amb w (aV A [])->VRs w (aV A []) args vs->(∀b o,aV A [] b o->b<w.heap.size)->Calls P f vs.toArray w λe w'=>∃v,e=.returned v/\Keeps (λ_ _=>False) w w'/\(Mono w (aV A []) w' (aV A [])->VR w' (aV A []) r v)):Fn P f args r:=by
 intro A w vs hI hA hv;refine(h A w vs hI.amb hv λb o h=>h.elim (hA b o) λ⟨m,hm,_⟩=>by simp at hm).mono ?_;rintro e w' ⟨v,rfl,hk,hr⟩;have hm:Mono w (aV A []) w' (aV A []):=gK (objs:=[]) (objs':=[]) hk (λ_ _ h=>h.elim) (λ_ _ _ h=>h);exact⟨v,r,[],rfl,hk.mono (λ_ _ h=>h.elim),⟨by simp[Sep],by simp,by simp,hI.amb.on hm⟩,hr hm,by simp,rfl,rfl⟩
def aXs:Nat->Nat->Str
 |0,u=>[UInt8.ofNat (48+u)]
 |f+1,u=>if u<10 then [UInt8.ofNat (48+u)] else aXs f (u/10)++[UInt8.ofNat (48+u % 10)]
theorem aSs:∀(f u:Nat),u<10^(f+1)->aXs f u=Lib.decDigits u
 |0,u,h=>(Lib.decDigits_one (by simpa using h)).symm
 | f+1,u,h=>by
  unfold aXs
  split
  ·rename_i h0;exact(Lib.decDigits_one h0).symm
  ·rename_i h0
   rw[Lib.decDigits,dif_neg h0,aSs f (u/10) (by rw[Nat.pow_succ] at h;omega)]
def aWk(n:Int):Option Str:=if-9223372036854775808<=n/\n<=9223372036854775807 then some (if n<0 then 45::aXs 19 n.natAbs else aXs 19 n.toNat) else none
theorem bEo{n:Int}{r:Str}(h:aWk n=some r):(-9223372036854775808<=n/\n<=9223372036854775807)/\r=Lib.itoa n:=by
 unfold aWk at h;split at h
 ·rename_i hc
  cases h;refine⟨hc,?_⟩;unfold Lib.itoa
  split
  ·rw[aSs 19 _ (by omega)]
  ·rw[aSs 19 _ (by omega)]
 ·cases h
theorem bPi[Mode]{P:Program}{f:FuncId}(hamb:∀w X,Amb w X->Lib.TabIs P w "internal/strconv.uint64pow10" .u64 Lib.pow10Tab)
  (kit:∀(n:Int),-9223372036854775808<=n->n<=9223372036854775807->∀(w:World),Lib.TabIs P w "internal/strconv.uint64pow10" .u64 Lib.pow10Tab->Calls P f #[.int .i64 n] w λe w'=>e=.returned (.string ⟨(Lib.itoa n).toArray⟩)/\∃k os,w'=grow (w.drewN k) os)
  {n:Int}{r:Str}(h:aWk n=some r):Fn P f [.i n] (.d (.lit (sv r))):=by
 obtain⟨⟨h0,h1⟩,rfl⟩:=bEo h;refine aKr λA w vs ha hv hX=>?_
 match vs,hv with
 | [u],hv=>
  have:=hv.1.lit;subst this;refine(kit n h0 h1 w (hamb _ _ ha)).mono ?_;rintro e w' ⟨rfl,k,os,rfl⟩;exact⟨_,rfl,aQs w k os,λ_=>.of_lit rfl⟩
def bEp(l:List Str)(sep:Str):Option Str:=let r:=Lib.join l sep;if l.length<=140737488355328/\r.length<=140737488355328 then some r else none
theorem aVq{w:World}{X:bE}{l:List Str}{v:Value}(h:DR w X (.sl 1 (l.map iI)) v):(l=[]/\∃a c,v=.slice a 0 c)\/∃b o c,v=.slice (some ⟨b,o,none⟩) l.length c/\l.length<=c/\(∀(j:Nat) (x:Str),l[j]?=some x->w.cell? ⟨b,o+j,none⟩=some (sv x)):=by
 generalize hd:l.map iI=rows at h
 have hl:rows.length=l.length:=by rw[<-hd,List.length_map]
 cases h with
 |nil k=>exact .inl ⟨by simpa using hd,none,0,rfl⟩
 |e0 k a=>exact .inl ⟨by simpa using hd,some a,0,rfl⟩
 | sl k rows b o cap f hk hcap hmax hc hr=>
  refine .inr ⟨b,o,cap,by rw[hl],by omega,λj x hj=>?_⟩;have hlt:j<l.length:=(List.getElem?_eq_some_iff.1 hj).1;have h1:=(hc j 0 (by omega) (by decide)).1;have h2:=hr j 0 (by omega) (by decide);have e1:(rows.getD j []).getD 0 (.lit undef)=.lit (sv x):=by rw[<-hd];simp[List.getD,hj,iI,sv]
  rw[e1] at h2;rw[show o+j=o+(j*1+0) by omega,h1]
  generalize f j 0=q at h2
  cases h2 with
  |lit=>rfl
theorem bPj{P:Program}{f:FuncId}(k0:∀(a:Option Addr) (c:Nat) (sep:ByteArray) (w:World),Calls P f #[.slice a 0 c,.string sep] w λe w'=>e=.returned (.string ⟨#[]⟩)/\w'=w)
  (k1:∀(bk o c:Nat) (xs:List ByteArray) (sep:ByteArray) (w:World),(∀(j:Nat) x,xs[j]?=some x->w.cell? ⟨bk,o+j,none⟩=some (.string x))->bk<w.heap.size->xs.length<=140737488355328->xs.length<=c->(Lib.join (xs.map (·.data.toList)) sep.data.toList).length<=140737488355328->
   Calls P f #[.slice (some ⟨bk,o,none⟩) xs.length c,.string sep] w λe w'=>e=.returned (.string ⟨(Lib.join (xs.map (·.data.toList)) sep.data.toList).toArray⟩)/\Below w.heap.size w w')
  {l:List Str}{sep r:Str}(h:bEp l sep=some r): @Fn zI P f [.d (.sl 1 (l.map iI)),.d (.lit (sv sep))] (.d (.lit (sv r))):=by
 letI:=zI
 unfold bEp at h;simp only at h;split at h
 ·rename_i hc
  cases h;refine aKr λA w vs ha hv hX=>?_
  match vs,hv with
  | [u, q],hv=>
   have:=hv.2.1.lit;subst this;have h1:=hv.1;cases h1 with
   | d h1=>
    rcases aVq h1 with⟨rfl,a,c,rfl⟩|⟨b,o,c,rfl,hlc,hcells⟩
    ·refine(k0 a c _ w).mono ?_;rintro e w' ⟨rfl,rfl⟩;exact⟨_,rfl,Keeps.refl _ _,λ_=>.of_lit rfl⟩
    ·cases l with
     | nil=>
      refine(k0 _ c _ w).mono ?_;rintro e w' ⟨rfl,rfl⟩;exact⟨_,rfl,Keeps.refl _ _,λ_=>.of_lit rfl⟩
     | cons x l=>
      have hb:b<w.heap.size:=block_lt_of_cell (hcells 0 x rfl);have e1:((x::l).map λs:Str=>(⟨s.toArray⟩:ByteArray)).map (·.data.toList)=x::l:=by
       rw[List.map_map];exact(List.map_congr_left λs _=>by simp).trans (List.map_id _)
      have hk:=k1 b o c ((x::l).map λs=>(⟨s.toArray⟩:ByteArray)) ⟨sep.toArray⟩ w (λj y hj=>by
       rw[List.getElem?_map] at hj;cases hg:(x::l)[j]? with
       |none=>rw[hg] at hj;cases hj
       |some s=>rw[hg] at hj;cases hj;exact hcells j s hg) hb (by rw[List.length_map];exact hc.1) (by rw[List.length_map];exact hlc) (by rw[e1];simpa using hc.2)
      rw[e1,List.length_map] at hk;refine hk.mono ?_;rintro e w' ⟨rfl,hbl⟩;exact⟨_,rfl,aNm hbl,λ_=>.of_lit rfl⟩
 ·cases h
def uY(sep:Str):Nat->Str->List Str
 |0,s=>[s]
 |k+1,s=>if Lib.index s sep== -1 then [s] else s.take (Lib.index s sep).toNat::uY sep k (s.drop ((Lib.index s sep).toNat+sep.length))
theorem aLz(sep:Str):∀(k:Nat) (s:Str),Lib.splitB ⟨sep.toArray⟩ 0 k ⟨s.toArray⟩=(uY sep k s).map λs=>(⟨s.toArray⟩:ByteArray)
 |0,s=>rfl
 | k+1,s=>by
  have hi:Lib.indexB ⟨s.toArray⟩ ⟨sep.toArray⟩=Lib.index s sep:=by simp[Lib.indexB]
  unfold Lib.splitB uY;rw[hi]
  split
  ·rfl
  ·rw[List.map_cons,aHe,Nat.add_zero,jP,jP,aHe,List.drop_zero,List.take_length,aLz sep k]
def bAd(s sep:Str):Option (List Str):=if s.length<4294967281/\1<=sep.length then some (uY sep (Lib.count s sep) s) else none
theorem bMx[Mode]{P:Program}{f:FuncId}{t:TypeId}(hamb:∀w X,Amb w X->∃m:Int,w.cell? ⟨0,0,none⟩=some (.int .i64 m))
  (kit:∀(s sep:ByteArray) (m:Int) (w:World),s.size<4294967281->w.cell? ⟨0,0,none⟩=some (.int .i64 m)->1<=sep.size->Calls P f #[.string s,.string sep] w λe w'=>
   e=.returned (.slice (some ⟨w.heap.size,0,none⟩) (Lib.countB s sep+1) (Lib.countB s sep+1))/\w'=w.alloc (.cells ((Lib.splitB sep 0 (Lib.countB s sep) s).map Value.string).toArray t))
  {s sep:Str}{r:List Str}(h:bAd s sep=some r):Fn P f [.d (.lit (sv s)),.d (.lit (sv sep))] (.d (.sl 1 (r.map iI))):=by
 unfold bAd at h;split at h
 ·rename_i hc
  cases h;refine aKr λA w vs ha hv hX=>?_
  match vs,hv with
  | [u,q],hv=>
   have h1:=hv.1.lit;have h2:=hv.2.1.lit;subst h1;subst h2;obtain⟨m,hm⟩:=hamb _ _ ha;have hcount:Lib.countB ⟨s.toArray⟩ ⟨sep.toArray⟩=Lib.count s sep:=by simp[Lib.countB]
   have hlen:=Lib.splitB_all ⟨sep.toArray⟩ (by rw[jP];exact hc.2) 0 _ ⟨s.toArray⟩ rfl;have hle:=Lib.countB_le ⟨sep.toArray⟩ (by rw[jP];exact hc.2) s.length ⟨s.toArray⟩ (Nat.le_refl _);refine(kit ⟨s.toArray⟩ ⟨sep.toArray⟩ m w (by rw[jP];exact hc.1) hm (by rw[jP];exact hc.2)).mono ?_;rintro e w' ⟨rfl,rfl⟩;rw[hcount,jP] at hle;rw[aLz,List.length_map,hcount] at hlen;rw[hcount,aLz];refine⟨_,rfl,Keeps.alloc _ _ _,λ_=>.d ?_⟩;have hl2:((uY sep (Lib.count s sep) s).map iI).length=Lib.count s sep+1:=by rw[List.length_map];exact hlen
   rw[<-hl2];have hcell:∀i (hi:i<(uY sep (Lib.count s sep) s).length),(w.alloc (.cells (((uY sep (Lib.count s sep) s).map λs=>(⟨s.toArray⟩:ByteArray)).map Value.string).toArray t)).cell? ⟨w.heap.size,0+(i*1+0),none⟩=some (sv ((uY sep (Lib.count s sep) s)[i])):=by
    intro i hi;rw[show(0+(i*1+0):Nat)=i by omega];have e1:=heap_alloc_new w (.cells (((uY sep (Lib.count s sep) s).map λs=>(⟨s.toArray⟩:ByteArray)).map Value.string).toArray t);simp only[World.cell?,e1];rw[List.getElem?_toArray,List.getElem?_map,List.getElem?_map,List.getElem?_eq_getElem hi]
    rfl
   refine .sl 1 _ w.heap.size 0 _ (λi _=>sv ((uY sep (Lib.count s sep) s).getD i [])) (λr hr=>?_) (Nat.le_refl _) ?_ (λi j hi hj=>?_) (λi j hi hj=>?_)
   ·obtain⟨x,_,rfl⟩:=List.mem_map.1 hr;rfl
   ·rw[hl2];unfold maxLen;omega
   ·rw[List.length_map] at hi;have:j=0:=by omega
    subst this;exact⟨by rw[hcell i hi];simp[List.getD,hi],λhx=>by have:=hX _ _ hx;omega⟩
   ·rw[List.length_map] at hi;have:j=0:=by omega
    subst this;simp only[List.getD,List.getElem?_map,List.getElem?_eq_getElem hi,Option.map_some,Option.getD_some,iI];exact .lit _ rfl
 ·cases h
def bEd(s sep:Str):Option (Str×Str×Bool):=if s.length<4294967281 then some (Lib.cut s sep) else none
theorem bRh[Mode]{P:Program}{f:FuncId}(hamb:∀w X,Amb w X->∃m:Int,w.cell? ⟨0,0,none⟩=some (.int .i64 m))
  (kit:∀(s sep:ByteArray) (m:Int) (w:World),s.size<4294967281->w.cell? ⟨0,0,none⟩=some (.int .i64 m)->Calls P f #[.string s,.string sep] w λe w'=>
   e=.returned (.tuple #[.string ⟨(Lib.cut s.data.toList sep.data.toList).1.toArray⟩,.string ⟨(Lib.cut s.data.toList sep.data.toList).2.1.toArray⟩,.bool (Lib.cut s.data.toList sep.data.toList).2.2])/\∃n,w'=w.drewN n)
  {s sep:Str}{r:Str×Str×Bool}(h:bEd s sep=some r):Fn P f [.d (.lit (sv s)),.d (.lit (sv sep))] (.tup [.d (.lit (sv r.1)),.d (.lit (sv r.2.1)),.d (.lit (.bool r.2.2))]):=by
 unfold bEd at h;split at h
 ·rename_i hc
  cases h;refine aKr λA w vs ha hv hX=>?_
  match vs,hv with
  | [u,q],hv=>
   have h1:=hv.1.lit;have h2:=hv.2.1.lit;subst h1;subst h2;obtain⟨m,hm⟩:=hamb _ _ ha;refine(kit ⟨s.toArray⟩ ⟨sep.toArray⟩ m w (by rw[jP];exact hc) hm).mono ?_;rintro e w' ⟨rfl,n,rfl⟩;refine⟨_,rfl,by simpa using aQs w n #[],λ_=>.tup (us:=[_,_,_]) rfl λi hi=>?_⟩
   match i,hi with
   |0,_=>exact .of_lit rfl
   |1,_=>exact .of_lit rfl
   |2,_=>exact .of_lit rfl
 ·cases h
end Go.Am
end
section
section
namespace Go.Am
def sE(s:Str):List Int:=s.map λb=>(b.toNat:Int)
def aXk(s:Str):Option (List Int):=if s.length<=maxLen then some (sE s) else none
def bAg(l:List Int):Str:=l.map λn=>UInt8.ofNat n.toNat
def bFk(n:Int):Str:=(Utf8.encode n).data.toList
theorem bBa[Mode](w:World)(e:TypeId)(s:ByteArray):Keeps (λ_ _=>False) w (Lib.bytesWorld w e s):=by
 have hb:∀b,b<w.heap.size->(Lib.bytesWorld w e s).heap[b]?=w.heap[b]?:=λb h=>Lib.bytesWorld_at_old w e s b h;refine⟨?_,?_,?_,by rw[Lib.bytesWorld_size];omega,λb h _=>hb b h,λb o h _=>World.cell?_of_block (hb b h),λb o h _=>World.frozen?_of_block (hb b h),λ_=>?_⟩
 all_goals simp only[Lib.bytesWorld,World.freeze]
 all_goals split
 all_goals simp[World.alloc,World.drew,-World.alloc_eq,-World.drew_eq]
theorem bGy(l:List Int):(l.map pB).flatten=l.map λn=>D.lit (.int .u8 n):=by
 induction l with
 |nil=>rfl
 |cons a l ih=>simp only[List.map_cons,List.flatten_cons,ih,pB,List.cons_append,List.nil_append]
theorem aXx{w:World}{X:bE}:∀{l:List Int},DRs w X (l.map λn=>D.lit (.int .u8 n)) (l.map (Value.int .u8))
 |[]=>trivial
 |_::_=>⟨.lit _ rfl,aXx⟩
section
variable{P:Program}{n d:Nat}{st:St}{x y:Operand}{t u e ty:TypeId}{pos:String}{af:Array Edge}{gd:Option (Nat×Bool)}{a:Str}
theorem bCu[Mode]{l:List Int}(hd:d<n)(hx:st.eval x=.d (.lit (sv a)))(ht:P.underlying t=some .string)(hu:P.underlying u=some (.slice e))(he:P.underlying e=some (.int .u8))(h:aXk a=some l):
  aY P n ⟨some d,.convert t u x,ty,pos,af,gd⟩ st (st.set d (.d (.sl 1 (l.map pB)))):=by
 intro A M w0 ac w hR K Q hK;have hl:a.length<=maxLen/\l=sE a:=by
  unfold aXk at h;split at h
  ·rename_i hc;exact⟨hc,(Option.some.inj h).symm⟩
  ·cases h
 obtain⟨hl,rfl⟩:=hl;have hrun:(execOp ac.eval ⟨some d,.convert t u x,ty,pos,af,gd⟩).run P w=.ok (.value (.slice (some ⟨w.heap.size,0,none⟩) a.length (grownCap w a.length 0 e))) (Lib.bytesWorld w e ⟨a.toArray⟩):=by
  have h1:=Lib.run_convert_string_bytes (P:=P) w t u e (⟨a.toArray⟩:ByteArray) ht hu he;rw[jP] at h1;simp only[execOp,hR.lit hx,sv,Sem.run_bind];rw[h1];rfl
 unfold Oper.wp;rw[hrun,Oper.upon_value];refine hK _ _ _ rfl ?_;have hk:=bBa w e ⟨a.toArray⟩;have hR':R A M w0 n ⟨st.env,st.objs⟩ ac (Lib.bytesWorld w e ⟨a.toArray⟩):=hR.change hk (λ_ _ h=>h.elim) (λ_ _ _ h=>h) hR.inv.sep λhm m hmm=>bV (hR.inv.holds m hmm) hk (λ_ _ _ h=>h) hm;refine hR'.put (o:=⟨some d,.convert t u x,ty,pos,af,gd⟩) rfl hd (.d ?_);have hlen:((sE a).map pB).length=a.length:=by simp[sE]
 rw[<-hlen];refine DR.of_flat (vs:=(sE a).map (Value.int .u8)) (bN (f:=pB) λ_=>rfl) (by rw[bGy];exact aXx) (λj v hj=>?_) (λj hj hx=>?_) ?_ ?_
 ·rw[Nat.zero_add];have hj':j<a.length:=by
   have:=(List.getElem?_eq_some_iff.1 hj).1
   simpa[sE] using this
  rw[Lib.bytesWorld_cell w e _ j (by rw[jP];exact hj')];simp only[sE,List.map_map,List.getElem?_map,List.getElem?_eq_getElem hj',Option.map_some,Option.some.injEq] at hj;rw[<-hj]
  simp[List.getD,hj']
 ·exact xE hR _ hx
 ·rw[hlen];exact grownCap_ge w _ 0 e
 ·rw[hlen];exact grownCap_le_maxLen w _ 0 e hl
theorem bQa[Mode]{l:List Int}(hd:d<n)(hx:st.eval x=.d (.sl 1 (l.map pB)))(hok:cJ x=true)(ht:P.underlying t=some (.slice e))(he:P.underlying e=some (.int .u8))(hu:P.underlying u=some .string):
  aY P n ⟨some d,.convert t u x,ty,pos,af,gd⟩ st (st.set d (.d (.lit (sv (bAg l))))):=
 cA rfl hd λA M w0 ac w hR=>by
  have hv:=hR.eval' hok;rw[hx] at hv;cases hv with
  |d hv=>
  refine⟨sv (bAg l),?_,.d (.lit _ rfl)⟩;have hrun:∀v,DR w (aV A st.objs) (.sl 1 (l.map pB)) v->(convert t u v).run P w=.ok (sv (bAg l)) w:=by
   intro v hv
   generalize hr:l.map pB=rows at hv
   cases hv with
   | nil=>cases l with
    |nil=>exact run_convert_bytes_nil w t e ht he 0 0 u hu
    |cons=>cases hr
   | e0=>cases l with
    |nil=>rw[run_convert_bytes_string w t u e _ 0 0 ht he hu,run_bytesToString w _ 0 0 [] (by rfl)];rfl
    |cons=>cases hr
   | sl _ _ b o cap f hk hcap hmax hc hdr=>
    subst hr;refine run_convert_bytes_arg w t e ht he b o _ cap l (by simp) (λi hi=>?_) u hu;have hi':i<l.length:=by simpa using hi
    have h1:=(hc i 0 hi (by omega)).1;have h2:=hdr i 0 hi (by omega);rw[show i*1+0=i by omega] at h1;rw[h1];have e3:(((l.map pB).getD i []).getD 0 (.lit undef))=.lit (.int .u8 (l.getD i 0)):=by simp[List.getD,hi',pB]
    rw[e3] at h2
    generalize f i 0=q at h2|-
    cases h2;rfl
  rw[show(execOp ac.eval ⟨some d,.convert t u x,ty,pos,af,gd⟩)=(convert t u (ac.eval x)>>=λv=>pure (.value v)) from rfl,Sem.run_bind,hrun _ hv]
  rfl
theorem bPz[Mode]{k:IntKind}{m:Int}{td:TypeDesc}(hd:d<n)(hx:st.eval x=.d (.lit (.int k m)))(ht:P.underlying t=some td)(hu:P.underlying u=some .string):
  aY P n ⟨some d,.convert t u x,ty,pos,af,gd⟩ st (st.set d (.d (.lit (sv (bFk m))))):=
 fQ rfl hd rfl λA M w0 ac w hR=>by
  simp[execOp,hR.lit hx,convert,run_underlying ht,run_underlying hu,Conv.intToString,sv,bFk]
end
end Go.Am
end
section
namespace Go.Am
open Go.Sort Go.Proofs
def ltO{α:Type}(cmp:α->α->Option Int)(x y:α):Bool:=match cmp x y with|some r=>decide (r<0)|none=>false
def aEm{α:Type}[DecidableEq α](zs:List α)(cmp:α->α->Option Int):Bool:=
 zs.all λx=>!ltO cmp x x&&zs.all λy=>(cmp x y).isSome&&(decide (x=y)||ltO cmp x y||ltO cmp y x)&&zs.all λz=>(!(ltO cmp x y&&ltO cmp y z)||ltO cmp x z)&&(ltO cmp x y||ltO cmp y z||!ltO cmp x z)
def eO{α:Type}(cmp:α->α->Option Int)(zs:List α):List α:=zs.mergeSort λx y=>!ltO cmp y x
def zT{α:Type}[DecidableEq α](zs:List α)(cmp:α->α->Option Int):Option (List α):=if aEm zs cmp=true/\zs.length<4611686018427387904 then some (eO cmp zs) else none
section
variable{α:Type}[DecidableEq α]{zs:List α}{cmp:α->α->Option Int}(hok:aEm zs cmp=true)
include hok
theorem yU:(∀x∈zs,ltO cmp x x=false)/\(∀x∈zs,∀y∈zs,∃r,cmp x y=some r)/\(∀x∈zs,∀y∈zs,x=y\/ltO cmp x y=true\/ltO cmp y x=true)/\
  (∀x∈zs,∀y∈zs,∀z∈zs,ltO cmp x y=true->ltO cmp y z=true->ltO cmp x z=true)/\∀x∈zs,∀y∈zs,∀z∈zs,ltO cmp x y=false->ltO cmp y z=false->ltO cmp x z=false:=by
 unfold aEm at hok;simp only[List.all_eq_true,Bool.and_eq_true,Bool.or_eq_true,Bool.not_eq_true',decide_eq_true_eq] at hok;refine⟨λx hx=>(hok x hx).1,λx hx y hy=>Option.isSome_iff_exists.1 ((hok x hx).2 y hy).1.1,λx hx y hy=>or_assoc.1 ((hok x hx).2 y hy).1.2,λx hx y hy z hz h1 h2=>?_,λx hx y hy z hz h1 h2=>?_⟩
 ·rcases(((hok x hx).2 y hy).2 z hz).1 with h|h
  ·simp[h1,h2] at h
  ·exact h
 ·rcases(((hok x hx).2 y hy).2 z hz).2 with(h|h)|h
  ·rw[h1] at h;cases h
  ·rw[h2] at h;cases h
  ·exact h
def cfS(zs:List α)(cmp:α->α->Option Int)(x y:{x // x∈zs}):Int:=(cmp x.1 y.1).getD 0
theorem zG(x y:{x // x∈zs}):ltOf (cfS zs cmp) x y=ltO cmp x.1 y.1:=by
 obtain⟨r,hr⟩:=(yU hok).2.1 x.1 x.2 y.1 y.2;unfold ltOf cfS ltO;rw[hr];rfl
theorem aXm:SWO (ltOf (cfS zs cmp)):=by
 obtain⟨h1,_,_,h4,h5⟩:=yU hok;exact⟨λx=>by rw[zG hok];exact h1 x.1 x.2,λx y z=>by rw[zG hok,zG hok,zG hok];exact h4 x.1 x.2 y.1 y.2 z.1 z.2,λx y z=>by rw[zG hok,zG hok,zG hok];exact h5 x.1 x.2 y.1 y.2 z.1 z.2⟩
theorem bGn(x y:{x // x∈zs})(h1:ltOf (cfS zs cmp) x y=false)(h2:ltOf (cfS zs cmp) y x=false):x=y:=by
 rw[zG hok] at h1 h2
 rcases(yU hok).2.2.1 x.1 x.2 y.1 y.2 with h|h|h
 ·exact Subtype.ext h
 ·rw[h1] at h;cases h
 ·rw[h2] at h;cases h
theorem aFy:(zs.attach.mergeSort λx y=>!(ltOf (cfS zs cmp)) y x).map Subtype.val=eO cmp zs:=by
 unfold eO;rw[List.map_mergeSort (s:=λx y=>!ltO cmp y x) λa _ b _=>by rw[zG hok],List.attach_map_subtype_val]
end
end Go.Am
end
end
