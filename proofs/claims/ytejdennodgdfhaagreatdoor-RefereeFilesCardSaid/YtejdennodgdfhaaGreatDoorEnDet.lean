/- The entries do not depend on the order in which the players are looked at. -/
import Derived.Test.YtejdennodgdfhaaGreatDoorRgSh
import Derived.Test.YtejdennodgdfhaaGreatDoorAmPlain
namespace Go.Am
open Go.Sort Go.Proofs
theorem aGo{α:Type}{R:α->α->Prop}:∀{l1 l2:List α},l1.Perm l2->l1.Pairwise R->l2.Pairwise R->(∀a∈l1,∀b∈l1,R a b->R b a->a=b)->l1=l2
 |[],l2,h,_,_,_=>by simpa using h.symm
 |a::l1,[],h,_,_,_=>by simp at h
 | a ::l1,b::l2,h,h1,h2,ha=>by
  have hab:a=b:=by
   rcases List.mem_cons.1 (h.mem_iff.1 (List.mem_cons_self (a:=a) (l:=l1))) with e|hm
   ·exact e
   ·rcases List.mem_cons.1 (h.mem_iff.2 (List.mem_cons_self (a:=b) (l:=l2))) with e|hm2
    ·exact e.symm
    ·exact ha a (by simp) b (by simp[hm2]) (List.rel_of_pairwise_cons h1 hm2) (List.rel_of_pairwise_cons h2 hm)
  subst hab;rw[aGo (List.perm_cons_inv' h) (List.Pairwise.of_cons h1) (List.Pairwise.of_cons h2) λx hx y hy=>ha x (by simp[hx]) y (by simp[hy])]
where
 List.perm_cons_inv' {α:Type} {a:α} {l1 l2:List α} (h:(a::l1).Perm (a::l2)):l1.Perm l2:=(List.perm_cons a).1 h
section
variable{α:Type}[DecidableEq α]
omit[DecidableEq α] in
theorem zS(cmp:α->α->Option Int)(zs:List α):(eO cmp zs).Perm zs:=List.mergeSort_perm zs _
theorem aJo{cmp:α->α->Option Int}{zs:List α}(hok:aEm zs cmp=true):(eO cmp zs).Pairwise λx y=>ltO cmp y x=false:=by
 rw [<-aFy hok,List.pairwise_map];have hs:=aXm hok;have:=List.pairwise_mergeSort (le:=λx y:{x // x∈zs}=>!(ltOf (cfS zs cmp)) y x) (λa b c h1 h2=>by
  simp only[Bool.not_eq_true'] at h1 h2|-;exact hs.ntrans _ _ _ h2 h1) (λa b=>by
  cases h:ltOf (cfS zs cmp) b a with
  |false=>rfl
  | true=>
   cases h2:ltOf (cfS zs cmp) a b with
   |false=>rfl
   | true=>
    have:=hs.trans _ _ _ h h2;rw[hs.irrefl] at this;cases this) zs.attach
 refine this.imp λ{x y} h=>?_;rw[zG hok] at h
 simpa using h
theorem aRd{cmp:α->α->Option Int}{zs zs':List α}(hp:zs.Perm zs')(h:aEm zs cmp=true):aEm zs' cmp=true:=by
 unfold aEm at h|-;have hm:∀x,x∈zs'↔x∈zs:=λx=>hp.mem_iff.symm;simp only[List.all_eq_true,Bool.and_eq_true] at h|-;intro x hx;have:=h x ((hm x).1 hx);refine⟨this.1,λy hy=>?_⟩;have:=this.2 y ((hm y).1 hy);exact⟨this.1,λz hz=>this.2 z ((hm z).1 hz)⟩
theorem aWd{cmp:α->α->Option Int}{zs zs':List α}(hp:zs.Perm zs')(h:aEm zs cmp=true):eO cmp zs'=eO cmp zs:=by
 refine aGo ((zS cmp zs').trans (hp.symm.trans (zS cmp zs).symm)) (aJo (aRd hp h)) (aJo h) λa ha b hb h1 h2=>?_;have ha':a∈zs:=hp.mem_iff.2 ((zS cmp zs').mem_iff.1 ha);have hb':b∈zs:=hp.mem_iff.2 ((zS cmp zs').mem_iff.1 hb)
 rcases(yU h).2.2.1 a ha' b hb' with e|e|e
 ·exact e
 ·rw[h2] at e;cases e
 ·rw[h1] at e;cases e
theorem bFs{cmp:α->α->Option Int}{zs zs' r:List α}(hp:zs.Perm zs')(h:zT zs cmp=some r):zT zs' cmp=some r:=by
 unfold zT at h|-;split at h
 case isFalse=>cases h
 rename_i hh
 rw[if_pos ⟨aRd hp hh.1,by rw[<-hp.length_eq];exact hh.2⟩,aWd hp hh.1];exact h
end
def isE(ps:List (Int×aD))(n:Int):Bool:=(aR n (aD.mk false false 0 0 false false false false) ps).entered&&!(aR n (aD.mk false false 0 0 false false false false) ps).quit&&!(aR n (aD.mk false false 0 0 false false false false) ps).had
theorem aQp(ps:List (Int×aD))(n:Int):iJ ps n=some (isE ps n):=by
 unfold iJ isE;cases(aR n (aD.mk false false 0 0 false false false false) ps).entered<;>cases(aR n (aD.mk false false 0 0 false false false false) ps).quit<;>rfl
theorem aJf{α:Type}:∀{l:List α} {i:Nat} {p:α},l[i]?=some p->l.Perm (p::l.eraseIdx i)
 |[],_,_,h=>by simp at h
 |a::l,0,p,h=>by simp at h;subst h;simp
 | a::l,i+1,p,h=>by
  simp only[List.eraseIdx_cons_succ];exact((aJf (by simpa using h)).cons a).trans (.swap _ _ _)
theorem aHj(Q:List Int->Prop)(l:bZ):∀(n k:Nat) (out:List Int) (left:List (Int×aD)),left.length=n->n<k->(out.length+n)*8<=140737488355328->
  (∀out':List Int,out'.Perm (out++((left.filter λp=>isE l.players p.1).map Prod.fst))->mP Q l out')->fM Q l k out left
 |n,0,_,_,_,h,_,_=>by omega
 | n, k+1,out,left,hn,hk,hb,hK=>by
  simp only[fM];refine⟨λhe=>?_,λi p hp=>?_⟩
  ·subst he;exact hK out (by simp)
  ·have hper:=aJf hp;have hlen:(left.eraseIdx i).length=n-1:=by
    have:=hper.length_eq
    simp at this
    omega
   have hn0:0<n:=by
    rcases Nat.eq_zero_or_pos n with h|h
    ·subst h;have:=List.length_eq_zero_iff.1 hn;subst this
     simp at hp
    ·exact h
   refine⟨isE l.players p.1,aQp _ _,?_⟩;have hpf:=(hper.filter λp=>isE l.players p.1).map Prod.fst;cases hE:isE l.players p.1 with
   | true=>
    simp only[cond_true];refine⟨out++[p.1],jZ (by simp;omega),aHj Q l (n-1) k _ _ hlen (by omega) (by simp;omega) λout' ho=>hK out' (ho.trans ?_)⟩;rw[List.filter_cons_of_pos (by simpa using hE)] at hpf;refine List.Perm.trans ?_ (hpf.symm.append_left out)
    simp
   | false=>
    simp only[cond_false];refine aHj Q l (n-1) k _ _ hlen (by omega) (by omega) λout' ho=>hK out' (ho.trans ?_);rw[List.filter_cons_of_neg (by simp[hE])] at hpf;exact hpf.symm.append_left out
theorem aFg(l:bZ){r:List Int}(h:mM l=some r)(Q:List Int->Prop)(hQ:Q r):pC l Q:=by
 unfold mM at h;split at h
 case isFalse=>cases h
 rename_i hl
 have e1:(λp:Int×aD=>(iJ l.players p.1).getD false)=λp=>isE l.players p.1:=by
  funext p
  rw[aQp];rfl
 rw[e1] at h;unfold pC yR;refine aHj Q l l.players.length BIG [] l.players rfl (Nat.lt_trans hl (by decide)) (by simp;omega) λout' ho=>?_;unfold mP sL;exact⟨r,bFs (by simpa using ho.symm) h,hQ⟩
end Go.Am
