/- Layer 7, plain: how far a player can come; sorted lists. -/
import Derived.Test.YtenffgkkeafnpaaBrPlain13
namespace Go.Am

def vM (bad : Nat → Bool) (n : Nat) : Nat := ((List.range n).find? bad).getD n
theorem sV {T : Type} (F : Nat → Int → T) (n : Nat) (bad : Nat → Bool) (out : Nat → T) (hstep : ∀ k i : Nat, i < n → F (k + 1) (i : Int) = bif bad i then out i else F k ((i + 1 : Nat) : Int)) (hstop : ∀ k, F (k + 1) (n : Int) = out n) : ∀ k, n < k → F k 0 = out (vM bad n) := by
  have := fun k h => eQ (S := Unit) (fun k i _ => F k i) n (fun i _ => out (((List.range' i (n - i)).find? bad).getD n)) (fun _ _ => True) ?_ ?_ k () h trivial
  · intro k h
    have := this k h
    simpa [vM, List.range_eq_range'] using this
  · intro k i _ hi _ ih
    have e : n - i = (n - (i + 1)) + 1 := by omega
    rw [hstep k i hi, ih () trivial, e, List.range'_succ, List.find?_cons]
    cases bad i <;> simp
  · intro k _ _
    rw [hstop k]; simp

section
variable {t : aO} (d : List Int) (must : List (List Int)) (a : Nat)
/-- A match on the way of a slot that another one has won. -/
def aDg (r : Nat) : Bool := !decide (mat must r (a / 2 ^ (r + 1)) = -2) && !decide (mat must r (a / 2 ^ (r + 1)) = d.getD a 0)
/-- A match on the way of a slot that its player has not won for sure. -/
def aDf (r : Nat) : Bool := !decide (mat must r (a / 2 ^ (r + 1)) = d.getD a 0)
def sX (t : aO) : Nat := vM (aDg d must a) t.Rounds.toNat
def aDz (t : aO) : Nat := vM (aDf d must a) t.Rounds.toNat
end
section
variable {t : aO} (ht : TreeOK t) {d : List Int} (hD : DOK t d) {must : List (List Int)} {P : kN} (hM : MustIs t must P)
include ht hD hM
end

/-! Sorted lists. -/
def Srt (l : List Int) : Prop := l.Pairwise (· ≤ ·)
theorem aJf : ∀ {l m : List Int}, Srt l → Srt m → l.Perm m → l = m
  | [], m, _, _, hp => hp.nil_eq
  | a :: l, [], _, _, hp => absurd hp.length_eq (by simp)
  | a :: l, b :: m, hl, hm, hp => by
    have hl' := List.pairwise_cons.1 hl
    have hm' := List.pairwise_cons.1 hm
    have h1 : a = b := by
      have ha : a ∈ b :: m := hp.subset (by simp)
      have hb : b ∈ a :: l := hp.symm.subset (by simp)
      rcases List.mem_cons.1 ha with e | ha
      · exact e
      · rcases List.mem_cons.1 hb with e | hb
        · exact e.symm
        · have := hl'.1 b hb
          have := hm'.1 a ha
          omega
    subst h1
    rw [aJf hl'.2 hm'.2 (List.Perm.cons_inv hp)]
theorem aHm (l : List Int) : Srt (l.mergeSort fun x y => decide (x ≤ y)) := by
  have := List.pairwise_mergeSort (le := fun x y : Int => decide (x ≤ y)) (fun a b c h1 h2 => by simp at *; omega) (fun a b => by simp; omega) l
  exact this.imp fun h => by simpa using h
/-- The inner loop: an element that goes down to its place. -/
structure SinkI (l out : List Int) (k : Nat) : Prop where
  lt : k < out.length
  perm : out.Perm l
  srt : ∀ i j, i < j → j < out.length → j ≠ k → i ≠ k → out.getD i 0 ≤ out.getD j 0
  up : ∀ j, k < j → j < out.length → out.getD k 0 ≤ out.getD j 0
theorem SinkI.done {l out : List Int} {k : Nat} (h : SinkI l out k) (hd : k = 0 ∨ out.getD (k - 1) 0 ≤ out.getD k 0) : Srt out ∧ out.Perm l := by
  refine ⟨?_, h.perm⟩
  unfold Srt
  rw [List.pairwise_iff_getElem]
  intro i j hi hj hij
  rw [← bP hi 0, ← bP hj 0]
  by_cases hjk : j = k
  · subst hjk
    rcases hd with h0 | h0
    · omega
    · by_cases hik : i = j - 1
      · subst hik; exact h0
      · have := h.srt i (j - 1) (by omega) (by omega) (by omega) (by omega)
        omega
  · by_cases hik : i = k
    · subst hik; exact h.up j hij hj
    · exact h.srt i j hij hj hjk hik
theorem aJg {l : List Int} {i j : Nat} (hi : i < l.length) (hj : j < l.length) : ((l.set i (l.getD j 0)).set j (l.getD i 0)).Perm l := by
  rw [bP hi, bP hj]
  by_cases hij : i = j
  · subst hij; rw [List.set_set]; rw [List.set_getElem_self]
  · exact List.set_set_perm hi hj
theorem SinkI.next {l out : List Int} {k : Nat} (h : SinkI l out k) (hk : 0 < k) (hlt : out.getD k 0 < out.getD (k - 1) 0) : SinkI l ((out.set k (out.getD (k - 1) 0)).set (k - 1) (out.getD k 0)) (k - 1) := by
  have hkl := h.lt
  have hg : ∀ j, ((out.set k (out.getD (k - 1) 0)).set (k - 1) (out.getD k 0)).getD j 0 = if j = k - 1 then out.getD k 0 else if j = k then out.getD (k - 1) 0 else out.getD j 0 := by
    intro j
    rw [jH (by rw [List.length_set]; omega), jH hkl]
  refine ⟨by simp; omega, (aJg hkl (by omega)).trans h.perm, fun i j hij hj hjk hik => ?_, fun j hj1 hj => ?_⟩
  · simp only [List.length_set] at hj
    rw [hg, hg, if_neg hik, if_neg hjk]
    by_cases hi : i = k
    · subst hi
      rw [if_pos rfl, if_neg (by omega)]
      exact h.srt (i - 1) j (by omega) hj (by omega) (by omega)
    · rw [if_neg hi]
      by_cases hj' : j = k
      · subst hj'
        rw [if_pos rfl]
        exact h.srt i (j - 1) (by omega) (by omega) (by omega) (by omega)
      · rw [if_neg hj']
        exact h.srt i j hij hj hj' hi
  · simp only [List.length_set] at hj
    rw [hg, hg, if_pos rfl, if_neg (by omega)]
    by_cases hj' : j = k
    · subst hj'; rw [if_pos rfl]; omega
    · rw [if_neg hj']
      exact h.up j (by omega) hj
theorem SinkI.start {out : List Int} (hs : Srt out) (x : Int) : SinkI (out ++ [x]) (out ++ [x]) out.length := by
  unfold Srt at hs
  rw [List.pairwise_iff_getElem] at hs
  refine ⟨by simp, .refl _, fun i j hij hj hjk hik => ?_, fun j h1 h2 => by simp at h2; omega⟩
  simp only [List.length_append, List.length_singleton] at hj
  have hj' : j < out.length := by omega
  have hi' : i < out.length := by omega
  rw [bP (by simp; omega), bP (by simp; omega), List.getElem_append_left hi', List.getElem_append_left hj']
  exact hs i j hi' hj' hij
end Go.Am
