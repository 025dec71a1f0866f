/- The files of scripts: which lines can be written. -/
import Derived.Test.YtejdennodgdfhaaGreatDoorRfSh
import Derived.Test.YtejdennodgdfhaaGreatDoorAmRng
import Derived.Test.YtejdennodgdfhaaGreatDoorAmSortF0
import Derived.Test.YtejdennodgdfhaaGreatDoorChecked
namespace Go.Am
open Go.Proofs
set_option maxRecDepth 100000
set_option maxHeartbeats 4000000
theorem aAn[Mode](a:Str){r:Bool}(h:lK a=some r):Fn Tryz.prog 72 [.d (.lit (.string ⟨a.toArray⟩))] (.d (.lit (.bool r))):=by
 unfold lK at h;refine eH Tryz.func72 rfl (rs:=[.tmp 2]) Tryz.results72 Tryz.ntmps72 (Nat.le_of_ble_eq_true rfl) ?_;refine aO (aL ?_);refine tr1 rfl (bL (v:=.d (.lit (.bool false))) (aA rfl) rfl rfl) ?_;refine aM (aO (aO (aL ?_)));refine tr1 rfl (bK (v:=.d (.lit (sv a))) (aA rfl) rfl rfl) ?_;refine aZ rfl (bMq (aA rfl) Tryz.underlying9 rfl) ?_;rintro _ ⟨q,rfl⟩;refine aM (qQ ?_);refine eQ [0,2,6] (λ_:Nat=>[]) (λp=>[xR q a p]) (λk p=>gU a k p) (λ_=>rfl) 0 h (cP (bA ⟨rfl,rfl,rfl,trivial⟩)) ?_;rintro k p h;simp only[gU] at h;refine aO (aL ?_);cases hp:a[p]? with
 | none=>
  rw [hp] at h;have h:=Option.some.inj h;subst h;have hpl:¬p<a.length:=by
    intro hl;rw[List.getElem?_eq_getElem hl] at hp;cases hp
  refine tr1 rfl (bBn (m:=0) (aA rfl) rfl rfl hpl) ?_;refine tr1 rfl (dD (aA rfl) rfl rfl) ?_;refine aM (aO ?_);refine iY rfl (λhc=>by cases hc) (λ_=>?_);refine dO ?_;refine .inl ⟨rfl,?_⟩;refine aO (aL ?_);refine tr1 rfl (bK (v:=.d (.lit (sv a))) (aA rfl) rfl rfl) ?_;refine tr1 rfl (aZz (a:=a) (aA rfl) rfl Tryz.underlying9) ?_;refine tr1 rfl (nF (aA rfl) rfl rfl rfl) ?_;refine tr1 rfl (bL (v:=.d (.lit (.bool (decide ((a.length:Int)<=30))))) (aA rfl) rfl rfl) ?_;refine aM ?_;exact bP ⟨rfl,_,[xR q a p],.one (.tmp 2 rfl),.refl _,by rw[show decide ((a.length:Int)<=30)=decide (a.length<=30) from by simp[Int.ofNat_le];omega];exact .same _⟩
 | some c=>
  rw[hp] at h
  dsimp only at h
  refine aZ rfl (bQb (m:=0) (aA rfl) rfl rfl hp) ?_;rintro _ ⟨u,p',hu1,hu2,rfl⟩;refine tr1 rfl (dD (aA rfl) rfl rfl) ?_;refine aM (aO ?_);refine iY rfl (λ_=>?_) (λhc=>by cases hc);refine lS (qQ (aO (aL ?_)));refine tr1 rfl (dD (aA rfl) rfl rfl) ?_;refine tr1 rfl (bL (v:=.d (.lit (.int .i32 u))) (aA rfl) rfl rfl) ?_;refine aM (aO (aL ?_));refine tr1 rfl (bK (v:=.d (.lit (.int .i32 u))) (aA rfl) rfl rfl) ?_;refine tr1 rfl (nF (aA rfl) rfl rfl rfl) ?_;refine tr1 rfl (bK (v:=.d (.lit (.bool (decide (u<32))))) (aA rfl) rfl rfl) ?_;refine eD 3 [0,2,6] 15 (decide (u<32)||decide (126<u)) ?_ ?_
  ·refine aHf (decide (u<32)) (λc=>?_) (λc=>?_)
   ·iterate 2 refine lR rfl rfl (aA rfl) rfl (aA rfl) rfl c ?_
    refine tr1 rfl (vN (v:=.d (.lit (.bool true))) (aA rfl) rfl c rfl rfl) ?_;rw[c];exact aM (bX rfl ⟨rfl,rfl,rfl,trivial⟩ rfl)
   ·refine fR rfl rfl (aA rfl) rfl c (bK (v:=.d (.lit (.int .i32 u))) (aA rfl) rfl rfl) ?_;refine fR rfl rfl (aA rfl) rfl c (nF (aA rfl) rfl rfl rfl) ?_;refine tr1 rfl (rM (v:=.d (.lit (.bool (decide (126<u))))) (aA rfl) rfl c rfl rfl) ?_;rw[c];exact aM (bX rfl ⟨rfl,rfl,rfl,trivial⟩ rfl)
  refine aM ?_;have e:(decide (u<32)||decide (126<u))=(decide (c.toNat<32)||decide (126<c.toNat)):=by
    rcases Nat.lt_or_ge c.toNat 128 with hc|hc
    · rw[(hu1 hc).1,Bool.eq_iff_iff];simp;omega
    · have:=hu2 hc
      rw[Bool.eq_iff_iff];simp;omega
  refine iY rfl (λhc=>?_) (λhc=>?_)
  ·rw[<-e,hc] at h;have h:=Option.some.inj h;subst h;refine aO (aL ?_);refine tr1 rfl (bL (v:=.d (.lit (.bool false))) (aA rfl) rfl rfl) ?_;refine aM ?_;exact bP ⟨rfl,_,[xR q a p'],.one (.tmp 2 rfl),.refl _,.same _⟩
  ·have hp':p'=p+1:=by
    simp at hc
    rcases Nat.lt_or_ge c.toNat 128 with h8|h8
    · exact(hu1 h8).2
    · have:=hu2 h8;omega
   subst hp';rw[<-e,hc] at h;refine gW ?_;exact⟨p+1,h,cP (bA ⟨rfl,rfl,rfl,trivial⟩)⟩
end Go.Am
