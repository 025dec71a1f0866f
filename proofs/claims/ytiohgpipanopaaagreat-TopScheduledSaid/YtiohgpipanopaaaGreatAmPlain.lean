/- Several texts, one behind the other. -/
import Derived.Test.YtiohgpipanopaaaGreatAmView
import Derived.Test.YtiohgpipanopaaaGreatAmFam2
import Derived.Lib.BitFns
import Derived.Test.YtiohgpipanopaaaGreatAmSortF0
import Derived.Shelf.SlSortCmp.NoneTotal
import Derived.Test.YtiohgpipanopaaaGreatAmGen
section
section
namespace Go.Am
section
variable{P:Program}{n d:Nat}{st:St}{Q:Exit->St->Prop}
end
end Go.Am
end
section
namespace Go.Am
theorem bHc{a b:List D}(h1:eZ a=true)(h2:eZ b=true):eZ (a++b)=true:=by
 induction a with
 |nil=>exact h2
 | cons x a ih=>
  cases x with
  |lit v=>exact ih h1
  |sl=>simp[eZ] at h1
  |sn=>simp[eZ] at h1
  |mp=>simp[eZ] at h1
  |pt=>simp[eZ] at h1
  |hv=>simp[eZ] at h1
theorem bAn{α:Type}{enc:α->List D}(h:∀x,eZ (enc x)=true):∀xs:List α,eZ (xs.map enc).flatten=true
 |[]=>rfl
 |x::xs=>by rw[List.map_cons,List.flatten_cons];exact bHc (h x) (bAn h xs)
theorem pmn:∀m∈([]:List MO),aDa m:=λ_ h=>by cases h
theorem pmc{a:MO}{l:List MO}(h:aDa a)(hl:∀m∈l,aDa m):∀m∈a::l,aDa m:=λm hm=>by
 rcases List.mem_cons.1 hm with rfl|hm
 ·exact h
 ·exact hl m hm
end Go.Am
end
section
namespace Go.Am
section
variable{P:Program}{n d:Nat}{st:St}{o:Oper}
end
theorem bKl{env env':Nat->AV}{objs:List MO}{b o:Nat}{ds ds':List D}(keepers gone:List MO)(hp:objs=(.box b o ds::keepers)++gone)(hd:DVs gone ds ds')(he:BLe gone env env'):
  Ent ⟨env,objs⟩ ⟨env',.box b o ds'::keepers⟩:=by
 subst hp;intro A M w0 n a w hR;have hlen:=hd.length;have hft:∀x y,(MO.box b o ds').foot x y↔(MO.box b o ds).foot x y:=λx y=>by simp only[MO.foot,hlen]
 have hfeet:∀x y,fC (.box b o ds'::keepers) x y->∃m∈MO.box b o ds::keepers,m.foot x y:=by
  rintro x y ⟨m,hm,hf⟩
  rcases List.mem_cons.1 hm with rfl|hm
  ·exact⟨_,List.mem_cons_self,(hft x y).1 hf⟩
  ·exact⟨m,List.mem_cons_of_mem _ hm,hf⟩
 have hsep:Sep ((MO.box b o ds::keepers)++gone):=hR.inv.sep;have hsub:∀x y,bF A (.box b o ds'::keepers) x y->bF A ((MO.box b o ds::keepers)++gone) x y:=λx y h=>h.imp id λh=>by
  obtain⟨m,hm,hf⟩:=hfeet x y h;exact⟨m,List.mem_append.2 (.inl hm),hf⟩
 have hap:∀m∈gone,∀x y,m.foot x y->¬bF A (.box b o ds'::keepers) x y:=by
  intro m hm x y hf hl
  rcases hl with hA|hl
  ·exact hR.inv.apart m (List.mem_append.2 (.inr hm)) x y hf hA
  ·obtain⟨m',hm',hf'⟩:=hfeet x y hl;exact(List.pairwise_append.1 hsep).2.2 m' hm' m hm x y hf' hf
 have hh:∀m∈gone,m.holds w (bF A ((MO.box b o ds::keepers)++gone)):=λm hm=>hR.inv.holds m (List.mem_append.2 (.inr hm));have hmono:Mono w (bF A ((MO.box b o ds::keepers)++gone)) w (bF A (.box b o ds'::keepers)):=Mono.sub hsub;have hs1:=(List.pairwise_append.1 hsep).1;refine⟨hR.size,hR.defers.sub hsub,λk=>(he k).sound hh hsub hap (hR.env k),⟨?_,λm hm x y hf hA=>?_,λm hm=>?_⟩,hR.keeps,λm hm x y hf=>?_,hR.old⟩
 ·have h2:=List.pairwise_cons.1 hs1;exact List.pairwise_cons.2 ⟨λm hm x y h1=>h2.1 m hm x y ((hft x y).1 h1),h2.2⟩
 ·obtain⟨m',hm',hf'⟩:=hfeet x y ⟨m,hm,hf⟩;exact hR.inv.apart m' (List.mem_append.2 (.inl hm')) x y hf' hA
 ·rcases List.mem_cons.1 hm with rfl|hm
  ·obtain⟨vs,h1,h2,h3⟩:=hR.inv.holds (.box b o ds) (by simp);exact⟨vs,hd.sound hh hsub hap h1,h2,λj hj=>h3 j (by rwa[hlen] at hj)⟩
  ·exact bY (hR.inv.holds m (List.mem_append.2 (.inl (List.mem_cons_of_mem _ hm)))) (Keeps.refl (λ_ _=>False) w) (λ_ _ _ h=>h) hmono
 ·obtain⟨m',hm',hf'⟩:=hfeet x y ⟨m,hm,hf⟩;exact hR.own m' (List.mem_append.2 (.inl hm')) x y hf'
end Go.Am
end
section
namespace Go.Am
theorem MRs.of{w:World}{X:bH}:∀{es:List (Value×AV)} {ms:List MapEntry},ms.map (·.key)=es.map (·.1)->(∀(i:Nat) (m:MapEntry) (e:Value×AV),ms[i]?=some m->es[i]?=some e->VR w X e.2 m.val)->MRs w X es ms
 |[],[],_,_=>trivial
 | (k,x)::es,m::ms,hk,h=>by
  simp only[List.map_cons,List.cons.injEq] at hk;exact⟨hk.1,h 0 m (k,x) rfl rfl,MRs.of hk.2 λi m' e h1 h2=>h (i+1) m' e (by simpa using h1) (by simpa using h2)⟩
 |[],_::_,hk,_=>by simp at hk
 |_::_,[],hk,_=>by simp at hk
section
variable{P:Program}{n d:Nat}{st:St}
end
section
variable{P:Program}{n d:Nat}{st:St}
def bXz(i j:Nat):Option Nat:=if j<i then some j else if j=i then none else some (j-1)
theorem er{α:Type}{l:List α}{i j:Nat}(j':Nat){x:α}(hj:bXz i j'=some j)(h:l[j']?=some x):(l.eraseIdx i)[j]?=some x:=by
 unfold bXz at hj;split at hj
 ·cases hj;rw[List.getElem?_eraseIdx,if_pos (by assumption)];exact h
 ·split at hj
  ·cases hj
  ·cases hj;rw[List.getElem?_eraseIdx,if_neg (by omega),show j'-1+1=j' by omega];exact h
theorem bRb{env:Nat->AV}{objs objs':List MO}(h:objs.Perm objs'):Ent ⟨env,objs⟩ ⟨env,objs'⟩:=
 oS (gone:=[]) (by simpa using h) λ_=>.same _
theorem bHn{c:Callee}{l:List Operand}{f:FuncId}{args args':List AV}{e k:Nat}{rows:List (List D)}{ts:Array TypeId}{ty:TypeId}{pos:String}{af:Array Edge}{gd:Option (Nat×Bool)}(hd:d<n)
  {a0:List AV}(hc:rY P st c l f a0)(ha:a0=args)(hok:mW l=true)(hb:BVs st.objs args args')(hf:dX P f args' [] (λr' o'=>∃w,r'=.d (.lit w)/\o'=[.arr w e k rows]))(hp:eZ rows.flatten=true):
  Step P n ⟨some d,.call {callee:=c,args:=l.toArray,argTypes:=ts},ty,pos,af,gd⟩ st (λs=>∃w,s=(st.setadd d (.d (.lit w)) (.arr w e k rows))):=by
 intro A M w0 a w hR K Q hK;refine bSx (passed:=[]) hd rfl hc ha hok hb hf pmn (by rintro _ _ ⟨w,rfl,rfl⟩;exact⟨rfl,pmc (bOx hp) pmn⟩) A M w0 a w hR K Q ?_;rintro s a' w' ⟨_,_,⟨v,rfl,rfl⟩,rfl⟩ hR';refine hK _ a' w' ⟨v,rfl⟩ (bRb ?_ A M w0 n a' w' hR');exact List.perm_append_comm
end
end Go.Am
end
end
section
section
namespace Go.Am
open Go.Sort Go.Proofs
theorem bBq{w w':World}(h:Keeps (fC []) w w'):∃q os,w'=grow (w.drewN q) os:=by
 refine⟨w'.drawn-w.drawn,w'.heap.extract w.heap.size w'.heap.size,?_⟩;have hd:=h.drawn;have hs:=h.size;have hh:w.heap++w'.heap.extract w.heap.size w'.heap.size=w'.heap:=by
  apply Array.ext_getElem?;intro i
  by_cases hi:i<w.heap.size
  ·rw[Array.getElem?_append_left hi];exact(h.block i hi λo ⟨m,hm,_⟩=>by simp at hm).symm
  ·rw[Array.getElem?_append_right (by omega),Array.getElem?_extract]
   by_cases hi2:i<w'.heap.size
   ·rw[if_pos (by omega),show w.heap.size+(i-w.heap.size)=i by omega]
   ·rw[if_neg (by omega),Array.getElem?_eq_none (by omega)]
 have hq:w.drawn+(w'.drawn-w.drawn)=w'.drawn:=by omega
 unfold grow World.drewN;simp only[hh,hq];rw[<-h.tape,<-h.os,<-h.output]
theorem bHf{γ:Type}[Inhabited γ](E:γ->Value){w:World}{X:bH}{g m:Nat}{F:Array γ}{os:Array Obj}(hg:∀o,X g o):Mono w X (grow (putRow E (Sort.ahead w m) g 0 F) os) X:=by
 have hne:∀b,b≠g->b<w.heap.size->(grow (putRow E (Sort.ahead w m) g 0 F) os).heap[b]?=w.heap[b]?:=λb hb hlt=>by
  rw[heap_grow_old _ _ (by simpa using hlt)]
  simp[putRow,mapBlock,Sort.ahead,Array.getElem?_modify,Ne.symm hb]
 refine⟨λb o v hc hx=>⟨?_,hx⟩,λr ms c hr hx=>⟨?_,hx⟩⟩
 ·have hb:b≠g:=λe=>hx (e▸hg o);have hlt:b<w.heap.size:=by
   refine Nat.lt_of_not_le λhle=>?_
   simp[World.cell?,Array.getElem?_eq_none hle] at hc
  simp only[World.cell?,hne b hb hlt];exact hc
 ·have hb:r≠g:=λe=>hx 0 (e▸hg 0);rw[hne r hb (Array.getElem?_eq_some_iff.1 hr).1];exact hr
theorem bHs{γ:Type}[Inhabited γ](E:γ->Value)(w:World)(g m:Nat)(F:Array γ)(os:Array Obj):w.heap.size<=(grow (putRow E (Sort.ahead w m) g 0 F) os).heap.size:=by
 show _<=((putRow E (Sort.ahead w m) g 0 F).heap++os).size;rw[Array.size_append,Proofs.size_putRow];exact Nat.le_add_right _ _
theorem bZt{P:Program}{f:FuncId}{args caps:List AV}{r:Int}(h:Fn P f (args++caps) (.d (.lit (.int .i64 r)))){w W:World}{avs cbs:List Value}{X:bH}(hX:VRs w X caps cbs)(hm:Mono w X W X)(hs:∀b o,X b o->b<W.heap.size)(ha:VRs W X args avs):
  Calls P f (avs++cbs).toArray W λe w'=>e=.returned (.int .i64 r)/\∃q os,w'=grow (W.drewN q) os:=by
 have hz:Mono W X W (bF X []):=Mono.sub λb o h=>h.elim id λ⟨m,hm,_⟩=>by simp at hm
 refine(h X W (avs++cbs) ⟨by simp[Sep],by simp,by simp⟩ hs ((ha.mono hz).append (hX.mono (hm.trans hz)))).mono ?_;rintro e w' ⟨v,r',objs',rfl,hk,_,hv,_,rfl,_⟩;have hv':=hv.lit;subst hv';exact⟨rfl,bBq hk⟩
theorem bPp{P:Program}{N f:FuncId}{caps:List AV}{cmp:Int->Int->Option Int}
  (kit:∀{β:Type} [Inhabited β] (enc:β->Value),OneCell enc->∀(cf:β->β->Int),SWO (ltOf cf)->∀(g:Nat) (cb:Array Value) (blk off cap:Nat) (d:Array β) (w:World),(∀args w,(callFunc g args).run P w=.ok (.enter g args) w)->CmpLays1 P g cb enc cf blk off d.size w->Holds enc w blk off d->blk<w.heap.size->d.size<4611686018427387904->
   (∀x y,(ltOf cf) x y=false->(ltOf cf) y x=false->x=y)->Calls P N #[.slice (some ⟨blk,off,none⟩) d.size cap,.func (.func g) #[] cb] w λe w'=>e=.returned (.tuple #[])/\∃n os,w'=sortWorld enc w blk off n (d.toList.mergeSort λx y=>!(ltOf cf) y x).toArray os)
  (kit0:∀(p:Option Addr) (cap:Nat) (fv:Value) (w:World),Calls P N #[.slice p 0 cap,fv] w λe w'=>e=.returned (.tuple #[])/\w'=w)
  (he:∀args w,(callFunc f args).run P w=.ok (.enter f args) w)(hc:∀x y r,cmp x y=some r->Fn P f ([.d (.lit (.int .i64 x)),.d (.lit (.int .i64 y))]++caps) (.d (.lit (.int .i64 r))))
  {v:Value}{e:TypeId}{zs r:List Int}(h:aXc zs cmp=some r):
  dX P N [.d (.lit v),.fn f caps] [.arr v e 1 (zs.map aD)] (λr' o=>r'=.tup []/\o=[.arr v e 1 (r.map aD)]):=by
 unfold aXc at h;split at h
 case isFalse=>cases h
 rename_i hh
 obtain⟨hok,hl⟩:=hh;cases h;intro A w vs hI hA hv;obtain⟨u1,u2,hvs⟩:∃u1 u2,vs=[u1,u2]:=by
  match vs,hv with
  |[u1,u2],_=>exact⟨u1,u2,rfl⟩
 subst hvs;obtain⟨hv1,hv2,_⟩:=hv;have e1:=hv1.lit;subst e1;obtain⟨xs,hd,hown,hr⟩:=hI.holds _ (List.mem_singleton.2 rfl);have hx:=bGv hd;subst hx;rw[List.length_map] at hown;have hvr:∀w' X,VR w' X (.tup []) (.tuple #[]):=λw' X=>.tup (us:=[]) rfl λi hi=>by simp at hi
 cases hv2 with
 | fn hlc hcap=>
  rename_i us
  rcases hown.2 with⟨hn,hz⟩|⟨g,cap,cur,rfl,hb,hg,h2,h3,h4,h5⟩
  ·subst hn;have hz0:zs=[]:=List.length_eq_zero_iff.1 hz;subst hz0;refine(kit0 none 0 _ w).mono ?_;rintro e' w' ⟨rfl,rfl⟩;exact⟨_,.tup [],_,rfl,Keeps.refl _ _,hI,hvr _ _,λm hm b o hf=>.inl ⟨m,hm,hf⟩,rfl,by simp[lQ]⟩
  ·rw [Nat.mul_one] at h5;have hcaps:VRs w (bF A [.arr (.slice (some ⟨g,0,none⟩) zs.length cap) e 1 (zs.map aD)]) caps us:=yM hlc hcap;have hgX:∀o,bF A [.arr (.slice (some ⟨g,0,none⟩) zs.length cap) e 1 (zs.map aD)] g o:=λo=>.inr ⟨_,List.mem_singleton.2 rfl,rfl⟩;have hgs:g<w.heap.size:=(Array.getElem?_eq_some_iff.1 hg).1;have hXs:∀b o,bF A [.arr (.slice (some ⟨g,0,none⟩) zs.length cap) e 1 (zs.map aD)] b o->b<w.heap.size:=λb o hx=>by
    rcases hx with hx|⟨m,hm,hf⟩
    ·exact hA b o hx
    ·cases List.mem_singleton.1 hm;have:some g=some b:=hf;cases this;exact hgs
   have hsl:(lQ cmp zs).length=zs.length:=by simp[lQ]
   by_cases hne:zs=[]
   ·subst hne;refine(kit0 _ cap _ w).mono ?_;rintro e' w' ⟨rfl,rfl⟩;exact⟨_,.tup [],_,rfl,Keeps.refl _ _,hI,hvr _ _,λm hm b o hf=>.inl ⟨m,hm,hf⟩,rfl,by simp[lQ]⟩
   ·obtain⟨z0,hz0⟩:=List.exists_mem_of_ne_nil zs hne
    haveI:Inhabited {x // x∈zs}:=⟨⟨z0,hz0⟩⟩
    have hat:zs.attach.toArray.size=zs.length:=by simp
    have hH:Holds (λx:{x // x∈zs}=>Value.int .i64 x.1) w g 0 zs.attach.toArray:=by
     intro j hj;have hj':j<zs.length:=by simpa using hj
     have:=holds_of_blockI hg (by simpa using h5) j (by simpa using hj');refine⟨?_,this.2⟩;rw[this.1]
     simp[hj']
    have hk:=kit (β:={x // x∈zs}) (λx=>Value.int .i64 x.1) (λ_=>rfl) (cfS zs cmp) (bXq hok) f us.toArray g 0 cap zs.attach.toArray w he (λm os dk hs x y=>?_) hH hgs (by simpa using hl) (bXr hok)
    ·rw [hat] at hk;refine hk.mono ?_;rintro e' w' ⟨rfl,n,os,rfl⟩;have hd':sortWorld (λx:{x // x∈zs}=>Value.int .i64 x.1) w g 0 n (zs.attach.toArray.toList.mergeSort λx y=>!(ltOf (cfS zs cmp)) y x).toArray os=grow (putRow (Value.int .i64) (Sort.ahead w n) g 0 (lQ cmp zs).toArray) os:=by
      unfold sortWorld
      congr 1
      unfold putRow
      congr 1
      funext c
      unfold putCells;have hsize:(zs.attach.toArray.toList.mergeSort λx y=>!(ltOf (cfS zs cmp)) y x).toArray.size=(lQ cmp zs).toArray.size:=by simp[lQ]
      refine congrArg (λh=>Array.mapIdx h c) ?_
      funext k x
      rw[hsize]
      split
      ·rename_i hkk
       have h1:k-0<(lQ cmp zs).length:=by simpa using hkk
       have h2:k-0<(zs.attach.toArray.toList.mergeSort λx y=>!(ltOf (cfS zs cmp)) y x).length:=by simpa[lQ] using h1
       have:=congrArg (λl=>l[k-0]?) (bHu hok);simp only[List.getElem?_map,List.getElem?_eq_getElem h1] at this;rw[List.getElem?_eq_getElem (by simpa using h2)] at this;simp only[Option.map_some,Option.some.injEq] at this;rw[getElem!_pos _ _ (by simpa using h2),getElem!_pos _ _ (by simpa using h1)];simp only[List.getElem_toArray];rw[<-this]
      ·rfl
     rw[hd'];have hgb:=grownBy_sortedI (w:=w) (g:=g) (n:=n) (os:=os) (lQ cmp zs).toArray;have hk':=bHb (v:=.slice (some ⟨g,0,none⟩) zs.length cap) hgb (Nat.le_add_right _ _);refine⟨_,.tup [],[.arr (.slice (some ⟨g,0,none⟩) zs.length cap) e 1 ((lQ cmp zs).map aD)],rfl,hk'.mono λb o h=>⟨_,List.mem_singleton.2 rfl,h⟩,⟨?_,λm hm b o hf=>?_,λm hm=>?_⟩,hvr _ _,λm hm b o hf=>?_,rfl,rfl⟩
     ·exact List.pairwise_singleton _ _
     ·cases List.mem_singleton.1 hm;exact hI.apart _ (List.mem_singleton.2 rfl) b o hf
     ·cases List.mem_singleton.1 hm;refine⟨_,bDk (lQ cmp zs),?_,λr hr'=>?_⟩
      ·have:=ownsRow_sortedI (base:=0) (n:=n) (os:=os) (ss:=zs) (ts:=lQ cmp zs) hsl hb hg h2 h3 h4;rw[List.length_map,hsl];exact this
      ·obtain⟨x,_,rfl⟩:=List.mem_map.1 hr'
       rfl
     ·cases List.mem_singleton.1 hm;exact .inl ⟨_,List.mem_singleton.2 rfl,hf⟩
    ·obtain⟨q,hq⟩:=(aMr hok).2.1 x.1 x.2 y.1 y.2;have hcq:cfS zs cmp x y=q:=by unfold cfS;rw[hq];rfl
     rw[hcq];have:=bZt (hc x.1 y.1 q hq) hcaps (W:=sortWorld (λx:{x // x∈zs}=>Value.int .i64 x.1) w g 0 m dk os) (bHf _ hgX) (λb o hb=>Nat.lt_of_lt_of_le (hXs b o hb) (bHs _ _ _ _ _ _)) (avs:=[.int .i64 x.1,.int .i64 y.1]) ⟨.of_lit rfl,.of_lit rfl,trivial⟩
     simpa using this
section
variable{α:Type}[DecidableEq α]
end
end Go.Am
end
section
namespace Go.Am
theorem cD{n:Int}(h1: -9223372036854775808<=n)(h2:n<=9223372036854775807):w64 n=n:=by
 have hw:IntKind.i64.wrap n=if n<9223372036854775808-18446744073709551616*0 then n else n:=by
  simp[IntKind.wrap,IntKind.signed,IntKind.bits]
  omega
 simpa using hw
theorem aZ{i:Nat}(h:i<9223372036854775807):w64 ((i:Int)+1)=((i+1:Nat):Int):=by
 rw[cD (by omega) (by omega)];omega
theorem rN{i:Nat}(h:0<i)(h2:i<=9223372036854775807):w64 ((i:Int)-1)=((i-1:Nat):Int):=by
 rw[cD (by omega) (by omega)];omega
theorem aY{α:Type}{xs:List α}{i:Nat}(h:i<xs.length):idx xs (i:Int)=some xs[i]:=by
 simp[idx,h]
theorem pW{α:Type}{xs:List α}{p:Int}(h0:0<=p)(h:p.toNat<xs.length):idx xs p=some xs[p.toNat]:=by
 simp[idx,h0,h]
theorem aTi{α:Type}{x:α}{xs:List α}:idx (x::xs) 0=some x:=by simp[idx]
theorem aRe{α:Type}{xs:List α}{i:Nat}(h:i<=xs.length):sub xs 0 (i:Int)=some (xs.take i):=by
 simp[sub]
 omega
theorem bOi{α:Type}{bytes n:Nat}{z:α}(h:n*bytes<=140737488355328):mk bytes (n:Int) z=some (List.replicate n z):=by
 have:(n:Int)*(bytes:Int)<=140737488355328:=by
  rw[<-Int.natCast_mul]
  omega
 unfold mk;rw[if_pos ⟨by omega,this⟩]
 simp
theorem eE{α:Type}{bytes:Nat}{xs ys:List α}(h:(xs.length+ys.length)*bytes<=140737488355328):app bytes xs ys=some (xs++ys):=by
 unfold app;rw[if_pos h]
theorem dJ(a b:Bool):(bif a then some true else some b)=some (a||b):=by cases a<;>rfl
theorem cW(a b:Bool):(bif a then some b else some false)=some (a&&b):=by cases a<;>rfl
theorem bI{n:Nat}(h:n<=9223372036854775807):n<BIG:=by unfold BIG;omega
theorem eH{T:Type}(F:Nat->Int->T)(n:Nat)(good:Nat->Bool)(bad K:T)(hstep:∀k i,i<n->F (k+1) (i:Int)=bif good i then F k ((i+1:Nat):Int) else bad)(hstop:∀k,F (k+1) (n:Int)=K):
  ∀k,n<k->F k 0=bif (List.range n).all good then K else bad:=by
 have key:∀m k i,n-i=m->i<=n->m<k->F k (i:Int)=bif (List.range' i (n-i)).all good then K else bad:=by
  intro m
  induction m with
  | zero=>
   intro k i hm hi hk;have:i=n:=by omega
   subst this;cases k with
   |zero=>omega
   |succ k=>simpa using hstop k
  | succ m ih=>
   intro k i hm hi hk;cases k with
   |zero=>omega
   | succ k=>
    rw[hstep k i (by omega),ih k (i+1) (by omega) (by omega) (by omega)];have e:n-i=(n-(i+1))+1:=by omega
    rw[e,List.range'_succ];cases hg:good i<;>simp[hg]
 intro k hk;have:=key n k 0 (by omega) (by omega) hk
 simpa[List.range_eq_range'] using this
theorem dD{S T:Type}(F:Nat->Int->S->T)(n:Nat)(G:Nat->S->T)(I:Nat->S->Prop)(hstep:∀k i s,i<n->I i s->(∀s',I (i+1) s'->F k ((i+1:Nat):Int) s'=G (i+1) s')->F (k+1) (i:Int) s=G i s)
  (hstop:∀k s,I n s->F (k+1) (n:Int) s=G n s):∀k s,n<k->I 0 s->F k 0 s=G 0 s:=by
 have key:∀m k i s,n-i=m->i<=n->m<k->I i s->F k (i:Int) s=G i s:=by
  intro m
  induction m with
  | zero=>
   intro k i s hm hi hk hI;have:i=n:=by omega
   subst this;cases k with
   |zero=>omega
   |succ k=>exact hstop k s hI
  | succ m ih=>
   intro k i s hm hi hk hI;cases k with
   |zero=>omega
   |succ k=>exact hstep k i s (by omega) hI λs' hs'=>ih k (i+1) s' (by omega) (by omega) (by omega) hs'
 intro k s hk hI;exact key n k 0 s (by omega) (by omega) hk hI
theorem dL{n:Nat}{good:Nat->Bool}:(List.range n).all good=true↔∀i,i<n->good i=true:=by simp
theorem iZ{S T:Type}(F:Nat->Int->S->T)(n:Nat)(G:T->Prop)(I:Nat->S->Prop)(hstep:∀k i s,i<n->I i s->(∀s',I (i+1) s'->G (F k ((i+1:Nat):Int) s'))->G (F (k+1) (i:Int) s))
  (hstop:∀k i s,n<=i->I i s->G (F (k+1) (i:Int) s)):∀k i s,n-i<k->I i s->G (F k (i:Int) s):=by
 have key:∀m k i s,n-i=m->m<k->I i s->G (F k (i:Int) s):=by
  intro m
  induction m with
  | zero=>
   intro k i s hm hk hI;cases k with
   |zero=>omega
   |succ k=>exact hstop k i s (by omega) hI
  | succ m ih=>
   intro k i s hm hk hI;cases k with
   |zero=>omega
   |succ k=>exact hstep k i s (by omega) hI λs' hs'=>ih k (i+1) s' (by omega) (by omega) hs'
 intro k i s hk hI;exact key (n-i) k i s rfl hk hI
theorem bQb(n:Int): -9223372036854775808<=w64 n/\w64 n<=9223372036854775807:=by
 simp only[w64,IntKind.wrap,IntKind.signed,IntKind.bits]
 simp
 omega
end Go.Am
end
end
