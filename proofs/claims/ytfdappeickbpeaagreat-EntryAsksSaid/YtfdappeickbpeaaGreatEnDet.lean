/- The entries do not depend on the order in which the players are looked at. -/
import Derived.Test.YtfdappeickbpeaaGreatEnSh
import Derived.Test.YtfdappeickbpeaaGreatAmPlain
namespace Go.Am
open Go.Sort Go.Proofs
theorem wU {α : Type} {R : α → α → Prop} : ∀ {l1 l2 : List α}, l1.Perm l2 → l1.Pairwise R → l2.Pairwise R → (∀ a ∈ l1, ∀ b ∈ l1, R a b → R b a → a = b) → l1 = l2
 | [], l2, h, _, _, _ => by simpa using h.symm
 | a :: l1, [], h, _, _, _ => by simp at h
 | a :: l1, b :: l2, h, h1, h2, ha => by
  have hab : a = b := by
   rcases List.mem_cons.1 (h.mem_iff.1 (List.mem_cons_self (a := a) (l := l1))) with e | hm
   ·exact e
   ·rcases List.mem_cons.1 (h.mem_iff.2 (List.mem_cons_self (a := b) (l := l2))) with e | hm2
    ·exact e.symm
    ·exact ha a (by simp) b (by simp [hm2]) (List.rel_of_pairwise_cons h1 hm2) (List.rel_of_pairwise_cons h2 hm)
  subst hab
  rw [wU (List.perm_cons_inv' h) (List.Pairwise.of_cons h1) (List.Pairwise.of_cons h2) fun x hx y hy => ha x (by simp [hx]) y (by simp [hy])]
where
 List.perm_cons_inv' {α : Type} {a : α} {l1 l2 : List α} (h : (a :: l1).Perm (a :: l2)) : l1.Perm l2 := (List.perm_cons a).1 h
section
variable {α : Type} [DecidableEq α]
omit [DecidableEq α] in
theorem kB (cmp : α → α → Option Int) (zs : List α) : (eS cmp zs).Perm zs := List.mergeSort_perm zs _
theorem uV {cmp : α → α → Option Int} {zs : List α} (hok : uU zs cmp = true) : (eS cmp zs).Pairwise fun x y => ltO cmp y x = false := by
 rw [← aBd hok, List.pairwise_map]
 have hs := aLn hok
 have := List.pairwise_mergeSort (le := fun x y : { x // x ∈ zs } => !(ltOf (cfS zs cmp)) y x) (fun a b c h1 h2 => by
  simp only [Bool.not_eq_true'] at h1 h2 ⊢
  exact hs.ntrans _ _ _ h2 h1) (fun a b => by
  cases h : ltOf (cfS zs cmp) b a with
  | false => rfl
  | true =>
   cases h2 : ltOf (cfS zs cmp) a b with
   | false => rfl
   | true =>
    have := hs.trans _ _ _ h h2
    rw [hs.irrefl] at this
    cases this) zs.attach
 refine this.imp fun {x y} h => ?_
 rw [xB hok] at h
 simpa using h
theorem aId {cmp : α → α → Option Int} {zs zs' : List α} (hp : zs.Perm zs') (h : uU zs cmp = true) : uU zs' cmp = true := by
 unfold uU at h ⊢
 have hm : ∀ x, x ∈ zs' ↔ x ∈ zs := fun x => hp.mem_iff.symm
 simp only [List.all_eq_true, Bool.and_eq_true] at h ⊢
 intro x hx
 have := h x ((hm x).1 hx)
 refine ⟨this.1, fun y hy => ?_⟩
 have := this.2 y ((hm y).1 hy)
 exact ⟨this.1, fun z hz => this.2 z ((hm z).1 hz)⟩
theorem aKy {cmp : α → α → Option Int} {zs zs' : List α} (hp : zs.Perm zs') (h : uU zs cmp = true) : eS cmp zs' = eS cmp zs := by
 refine wU ((kB cmp zs').trans (hp.symm.trans (kB cmp zs).symm)) (uV (aId hp h)) (uV h) fun a ha b hb h1 h2 => ?_
 have ha' : a ∈ zs := hp.mem_iff.2 ((kB cmp zs').mem_iff.1 ha)
 have hb' : b ∈ zs := hp.mem_iff.2 ((kB cmp zs').mem_iff.1 hb)
 rcases (wT h).2.2.1 a ha' b hb' with e | e | e
 ·exact e
 ·rw [h2] at e; cases e
 ·rw [h1] at e; cases e
theorem aRa {cmp : α → α → Option Int} {zs zs' r : List α} (hp : zs.Perm zs') (h : uW zs cmp = some r) : uW zs' cmp = some r := by
 unfold uW at h ⊢
 split at h
 case isFalse => cases h
 rename_i hh
 rw [if_pos ⟨aId hp hh.1, by rw [← hp.length_eq]; exact hh.2⟩, aKy hp hh.1]
 exact h
end
def isE (ps : List (Int × aA)) (n : Int) : Bool := (aL n (aA.mk false false 0 0 false false false false) ps).entered && !(aL n (aA.mk false false 0 0 false false false false) ps).quit && !(aL n (aA.mk false false 0 0 false false false false) ps).had
theorem yQ (ps : List (Int × aA)) (n : Int) : iB ps n = some (isE ps n) := by
 unfold iB isE
 cases (aL n (aA.mk false false 0 0 false false false false) ps).entered <;> cases (aL n (aA.mk false false 0 0 false false false false) ps).quit <;> rfl
theorem aDd {α : Type} : ∀ {l : List α} {i : Nat} {p : α}, l[i]? = some p → l.Perm (p :: l.eraseIdx i)
 | [], _, _, h => by simp at h
 | a :: l, 0, p, h => by simp at h; subst h; simp
 | a :: l, i + 1, p, h => by
  simp only [List.eraseIdx_cons_succ]
  exact ((aDd (by simpa using h)).cons a).trans (.swap _ _ _)
theorem aBz (Q : List Int → Prop) (l : aN) : ∀ (n k : Nat) (out : List Int) (left : List (Int × aA)), left.length = n → n < k → (out.length + n) * 8 ≤ 140737488355328 →
  (∀ out' : List Int, out'.Perm (out ++ ((left.filter fun p => isE l.players p.1).map Prod.fst)) → nT Q l out') → iU Q l k out left
 | n, 0, _, _, _, h, _, _ => by omega
 | n, k + 1, out, left, hn, hk, hb, hK => by
  simp only [iU]
  refine ⟨fun he => ?_, fun i p hp => ?_⟩
  ·subst he
   exact hK out (by simp)
  ·have hper := aDd hp
   have hlen : (left.eraseIdx i).length = n - 1 := by
    have := hper.length_eq
    simp at this
    omega
   have hn0 : 0 < n := by
    rcases Nat.eq_zero_or_pos n with h | h
    ·subst h
     have := List.length_eq_zero_iff.1 hn
     subst this
     simp at hp
    ·exact h
   refine ⟨isE l.players p.1, yQ _ _, ?_⟩
   have hpf := (hper.filter fun p => isE l.players p.1).map Prod.fst
   cases hE : isE l.players p.1 with
   | true =>
    simp only [cond_true]
    refine ⟨out ++ [p.1], fR (by simp; omega), aBz Q l (n - 1) k _ _ hlen (by omega) (by simp; omega) fun out' ho => hK out' (ho.trans ?_)⟩
    rw [List.filter_cons_of_pos (by simpa using hE)] at hpf
    refine List.Perm.trans ?_ (hpf.symm.append_left out)
    simp
   | false =>
    simp only [cond_false]
    refine aBz Q l (n - 1) k _ _ hlen (by omega) (by omega) fun out' ho => hK out' (ho.trans ?_)
    rw [List.filter_cons_of_neg (by simp [hE])] at hpf
    exact hpf.symm.append_left out
theorem aAy (l : aN) {r : List Int} (h : fH l = some r) (Q : List Int → Prop) (hQ : Q r) : pV l Q := by
 unfold fH at h
 split at h
 case isFalse => cases h
 rename_i hl
 have e1 : (fun p : Int × aA => (iB l.players p.1).getD false) = fun p => isE l.players p.1 := by
  funext p
  rw [yQ]; rfl
 rw [e1] at h
 unfold pV aJb
 refine aBz Q l l.players.length BIG [] l.players rfl (Nat.lt_trans hl (by decide)) (by simp; omega) fun out' ho => ?_
 unfold nT tD
 exact ⟨r, aRa (by simpa using ho.symm) h, hQ⟩
end Go.Am
