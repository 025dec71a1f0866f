/- Write: the file of a script. -/
import Derived.Test.YtejdennodgdfhaaGreatDoorRfFile
import Derived.Test.YtejdennodgdfhaaGreatDoorXSimP2
import Derived.Test.YtejdennodgdfhaaGreatDoorRfStrShelf
import Derived.Test.YtejdennodgdfhaaGreatDoorRfAmb
import Derived.Lib.Case
import Derived.BigCall
import Derived.BigGuard
import Derived.LoopTactic
namespace Go.Am
open Go.Proofs Go.RowKit
attribute [local instance] zI
theorem bHs{P:Program}{f:FuncId}{us:List Value}{u:Value}(h:Fn P f (us.map λv=>.d (.lit v)) (.d (.lit u)))(ho:∀v∈us,v.oneCell'=true)(w:World)(ha:Amb w λ_ _=>False):
  Calls P f us.toArray w λe w'=>e=.returned u/\Keeps (λ_ _=>False) w w':=by
 have hz:∀b o,aV (λ_ _=>False) ([]:List MO) b o->False:=λb o h=>h.elim id λ⟨m,hm,_⟩=>by simp at hm
 have hv:∀{l:List Value},(∀v∈l,v.oneCell'=true)->VRs w (aV (λ_ _=>False) []) (l.map λv=>.d (.lit v)) l:=by
  intro l
  induction l with
  |nil=>intro _;trivial
  |cons a l ih=>intro h;exact⟨.d (.lit a (h a (by simp))),ih λv hv=>h v (by simp[hv])⟩
 refine(h (λ_ _=>False) w us ⟨by simp[Sep],by simp,by simp,ha.on (Mono.sub λb o h=>hz b o h)⟩ (λ_ _ h=>h.elim) (hv ho)).mono ?_;rintro e w' ⟨v,r,o,rfl,hk,_,hv,_,rfl,rfl⟩;refine⟨?_,hk.mono λb o ⟨m,hm,_⟩=>by simp at hm⟩;cases hv with|d h=>cases h;rfl
theorem aKe{T e:TypeId}{B b:Nat}{bs:List Value}{w w':World}(h:Lib.IsBuilder T e B b bs w)(hk:Keeps (λ_ _=>False) w w'):Lib.IsBuilder T e B b bs w':=by
 have hb:∀k,k<w.heap.size->w'.heap[k]?=w.heap[k]?:=λk hk'=>hk.block k hk' λ_ h=>h;have one:∀{p},Lib.BuilderAt T e B b p bs w->Lib.BuilderAt T e B b p bs w':=by
  rintro p ⟨h1,v,h2,h3,h4⟩;refine⟨h1,v,?_,h3.kept (row:=none) ⟨hk.os,hk.tape,hk.output,hk.size,λk hk' _=>hb k hk'⟩ ?_,h4⟩
  ·rw[hb b (Array.getElem?_eq_some_iff.1 h2).1];exact h2
  ·cases v.ownBlock<;>simp
 exact h.imp one one
theorem aPo{B:Nat}{a w w':World}(h:Below B a w)(hB:B<=w.heap.size)(hk:Keeps (λ_ _=>False) w w'):Below B a w':=
 h.trans ⟨hk.os,hk.tape,hk.output,hk.size,λk hk'=>hk.block k (by omega) λ_ h=>h⟩
set_option maxRecDepth 1000000 in
set_option maxHeartbeats 2000000 in
theorem aVv(l:List Str)(a:Option Addr)(c:Nat)(w:World)(ha:Amb w λ_ _=>False)
  (hcell:∀(j:Nat) (x:Str),l[j]?=some x->∃b o,a=some ⟨b,o,none⟩/\b<w.heap.size/\w.cell? ⟨b,o+j,none⟩=some (sv x)){r:Str×Int}(h:mT l=some r):
  Calls Tryz.prog 38 #[.slice a l.length c] w λe w'=>e=.returned (.tuple #[sv r.1,.int .i64 r.2])/\Below w.heap.size w w':=by
 have HC:=Any.hidJ hcell
 clear hcell
 unfold mT at h;have Hh:=Any.hidJ h
 clear h
 go_enter Tryz.func38,Tryz.ntmps38
 go_wp2_with fail
 ·go_ret2
  have h1:80<l.length:=by omega
  have h:=Hh.out;rw[decide_eq_true h1] at h;cases h;exact⟨rfl,Below.refl _ _⟩
 ·have h1:¬80<l.length:=by omega
  have H0:Hid (gH l BIG 0 []=some r):=Any.hidJ (by have h:=Hh.out;rwa[decide_eq_false h1] at h)
  clear Hh
  go_loopw [12] (λi wr=>∃(k kf:Nat) (out:Str),k<=l.length/\i=.int .i64 k/\Hid (gH l kf k out=some r)/\Hid (Lib.IsBuilder 161 5 w.heap.size w.heap.size (Lib.byteCells out) wr)/\Hid (Below w.heap.size w wr)) (λi _=>l.length-(Go.Proofs.intOf i).toNat)
  case atStart=>
   exact⟨0,BIG,[],Nat.zero_le _,rfl,H0,Any.hidJ (.inl ⟨Nat.le_refl _,.slice none 0 0,heap_alloc_new w _,World.ownsRow_nil _ _ _ _,by simp[Value.ownBlock]⟩),Any.hidJ ((Below.refl _ _).alloc (Nat.le_refl _) _)⟩
  case round=>
   obtain⟨k,kf,out,hk,rfl,HL,HB,HW⟩:=hrel;cases kf with
   |zero=>have:=HL.out;cases this
   |succ kf=>
   by_cases hkn:k<l.length
   ·obtain⟨x,hx⟩:∃x,l[k]?=some x:=⟨l[k],List.getElem?_eq_getElem hkn⟩;obtain⟨b,o,rfl,hb,hc⟩:=HC.out k x hx;have hc1:wr.cell? ⟨b,o+k,none⟩=some (sv x):=by rw[HW.out.cell (p:=⟨b,o+k,none⟩) hb];exact hc
    have hL:=HL.out;simp only[gH] at hL;have hL:=yK (decide_eq_true (by omega)) hL;obtain⟨x',hx',hL⟩:=bind_some hL;obtain rfl:x'=x:=by
     have:=aCz hx';have h2:=this.2.2;rw[Int.toNat_natCast,hx] at h2;exact(Option.some.inj h2).symm
    obtain⟨bw,hbw,hL⟩:=bind_some hL;have haw:Amb wr λ_ _=>False:=ha.mono λq c e f hq hn=>⟨by rw[HW.out.block q (Array.getElem?_eq_some_iff.1 hq).1];exact hq,λ_ h=>h⟩;have C1:=Any.hidJ (bHs (us:=[sv x']) (aAn x' hbw) (by simp[sv,Value.oneCell']) wr haw);have hBw:w.heap.size<=wr.heap.size:=HW.out.size;have HL2:=Any.hidJ hL
    clear hL hbw hx' HL hc
    go_wp2_with fail
    refine C1.out.mono ?_;rintro e w1 ⟨rfl,hk1⟩;have HB1:=Any.hidJ (aKe HB.out hk1);have HW1:=Any.hidJ (aPo HW.out hBw hk1);have haw1:Amb w1 λ_ _=>False:=ha.mono λq c e f hq hn=>⟨by rw[HW1.out.block q (Array.getElem?_eq_some_iff.1 hq).1];exact hq,λ_ h=>h⟩;have hBw1:w.heap.size<=w1.heap.size:=HW1.out.size
    clear C1 hk1 HB HW hBw hc1 haw
    cases bw with
    | false=>
     have hr:=HL2.out;cases hr
     go_wp2_with fail
     go_ret2
     exact⟨rfl,HW1.out⟩
    | true=>
     have hL:=HL2.out;have hL:=vT rfl hL;obtain⟨q,hq,hL⟩:=bind_some hL;have hlen:out.length+q.length<=140737488355328:=by
      rcases Nat.lt_or_ge 140737488355328 (out.length+q.length) with hx|hx
      ·rw[decide_eq_false (by omega)] at hL;cases hL
      ·exact hx
     rw[decide_eq_true hlen] at hL;have C2:=Any.hidJ (bHs (us:=[sv x',.int .i64 k]) (aDo x' k hq) (by simp[sv,Value.oneCell']) w1 haw1);have HL3:=Any.hidJ hL
     clear hL hq HL2
     go_wp2_with fail
     refine C2.out.mono ?_;rintro e w2 ⟨rfl,hk2⟩;have HB2:=Any.hidJ (aKe HB1.out hk2);have HW2:=Any.hidJ (aPo HW1.out hBw1 hk2);have hBw2:w.heap.size<=w2.heap.size:=HW2.out.size
     clear C2 hk2 HB1 HW1 hBw1 haw1
     go_wp2_with fail
     refine(Tryz.Builder_WriteString w.heap.size w.heap.size _ ⟨q.toArray⟩ w2 HB2.out (by rw[Lib.byteCells_length];exact hlen) hBw2).mono ?_;rintro e w3 ⟨rfl,h3,hb3⟩;have HW3:=Any.hidJ (HW2.out.trans hb3);have hcells:Lib.byteCells out++Lib.strCells ⟨q.toArray⟩=Lib.byteCells (out++q):=by rw[Lib.strCells_eq,<-Lib.byteCells_append]
     rw[hcells] at h3;have HB3:=Any.hidJ (Or.inr h3:Lib.IsBuilder 161 5 w.heap.size w.heap.size (Lib.byteCells (out++q)) w3)
     clear h3 hb3 HW2 HB2 hcells
     go_wp2
     refine⟨⟨k+1,kf,out++q,by omega,by go_num,Any.hidJ ?_,HB3,HW3⟩,by simp[Go.Proofs.intOf];omega⟩;have hw:w64 ((k:Int)+1)=((k+1:Nat):Int):=by
      rw[eK (by omega) (by omega)];omega
     rw[<-hw];exact HL3.out
   ·have hke:k=l.length:=by omega
    subst hke;have hL:=HL.out;simp only[gH] at hL;have hL:=Option.some.inj (vT (decide_eq_false (by omega)) hL);subst hL;have hBw:w.heap.size<=wr.heap.size:=HW.out.size
    go_wp2_with fail
    refine(Tryz.Builder_String_any w.heap.size w.heap.size _ wr HB.out hBw).mono ?_;rintro e w5 ⟨rfl,hb5⟩;have Hb5:=Any.hidJ (HW.out.trans hb5)
    clear hb5
    go_wp2
    go_ret2
    exact⟨rfl,Hb5.out⟩
theorem aEp(l:List Str){r:Str×Int}(h:mT l=some r):Fn Tryz.prog 38 [.d (.sl 1 (l.map iI))] (.tup [.d (.lit (.string ⟨r.1.toArray⟩)),.d (.lit (.int .i64 r.2))]):=by
 refine aKr λA w vs ha hv hX=>?_
 match vs,hv with
 | [u],hv=>
  have h1:=hv.1;cases h1 with
  | d h1=>
   have ha':Amb w λ_ _=>False:=ha.mono λq c e f hq hn=>⟨hq,λ_ h=>h⟩;have fin:∀{e:Ending} {w':World},(e=.returned (.tuple #[sv r.1,.int .i64 r.2])/\Below w.heap.size w w')->∃v,e=.returned v/\Keeps (λ_ _=>False) w w'/\(Mono w (aV A []) w' (aV A [])->VR w' (aV A []) (.tup [.d (.lit (.string ⟨r.1.toArray⟩)),.d (.lit (.int .i64 r.2))]) v):=by
    rintro e w' ⟨rfl,hb⟩;exact⟨_,rfl,aNm hb,λ_=>.tup (us:=[_,_]) rfl λi hi=>by
     match i,hi with
     |0,_=>exact .d (.lit _ rfl)
     |1,_=>exact .d (.lit _ rfl)⟩
   rcases aVq h1 with⟨rfl,a,c,rfl⟩|⟨b,o,c,rfl,hlc,hcells⟩
   ·exact(aVv [] a c w ha' (λj x hx=>by simp at hx) h).mono λe w' h=>fin h
   ·exact(aVv l (some ⟨b,o,none⟩) c w ha' (λj x hx=>⟨b,o,rfl,block_lt_of_cell (hcells j x hx),hcells j x hx⟩) h).mono λe w' h=>fin h
end Go.Am
