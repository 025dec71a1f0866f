/- Plain laws, one behind the other. -/
import Derived.Test.YtiohgpipanopaaaGreatDrPlain3
section
namespace Go.Am
def aRw (p : bQ) (slot : Nat) (n : Int) : Bool :=
 if slot = 0 ∧ 0 < p.Seeds then decide (n = 0) else if (slot : Int) = p.Size - 1 ∧ 1 < p.Seeds then decide (n = 1)
 else decide (n = -1) || decide (p.Seeds ≤ n) || (decide (1 < n) && (decide ((slot : Int) = p.Size / 4) || decide ((slot : Int) = p.Size - 1 - p.Size / 4)))
def pn (p : bQ) (n : Int) : bC := pp p n.toNat
def aXv (p : bQ) (a b : Int) : Bool :=
 if a = -1 ∨ b = -1 then !decide (a = b) else (!decide ((pn p a).Nation = (pn p b).Nation) || decide ((pn p a).Nation = 0)) && !((pn p a).Qualified && (pn p b).Qualified)
def aXw (p : bQ) (n other : Int) : Bool := decide (n = -1) || decide (p.Seeds ≤ n) || decide (decide (other = -1) = decide (n < p.Size - p.Persons.length))
def aRe (p : bQ) (a b : Int) : Bool :=
 !(decide (p.Size - p.Persons.length ≤ p.Seeds) && (decide (a = -1) && decide (p.Seeds ≤ b) || decide (b = -1) && decide (p.Seeds ≤ a))) && (aXv p a b && aXw p a b && aXw p b a)
def Num (p : bQ) (n : Int) : Prop := n = -1 ∨ 0 ≤ n ∧ n < p.Persons.length
theorem Num.idx {p : bQ} {n : Int} (h : Num p n) (hn : n ≠ -1) : idx p.Persons n = some (pn p n) := by
 obtain ⟨h1, h2⟩ := h.resolve_left hn
 rw [aKb h1 (by omega), pn, aYk (by omega)]
section
variable {p : bQ} (hp : aOj p = true)
include hp
end
def okN (p : bQ) (l : List Int) (byes n : Int) : Bool :=
 !((decide ((if n = -1 then byes - 1 else byes) < 0) || (!decide (n = -1) && decide (n ∈ l))) || !aRw p l.length n || (decide (l.length % 2 = 1) && !aRe p (l.getD (l.length - 1) 0) n))
def aQw (byes n : Int) : Int := if n = -1 then byes - 1 else byes
section
variable {p : bQ} (hp : aOj p = true) {ranks : List Int} (hr : ∀ x ∈ ranks, Num p x) (hrl : ranks.length ≤ 100)
include hp hr hrl
end
end Go.Am
end
section
namespace Go.Am
section
variable {p : bQ} (hp : aJg p = true)
include hp
end
end Go.Am
end
section
namespace Go.Am
structure PreL (p : bQ) (l : List Int) (b : Int) : Prop where
 num : ∀ x ∈ l, Num p x
 nd : ∀ i j, i < j → j < l.length → l.getD i 0 = l.getD j 0 → l.getD j 0 = -1
 seat : ∀ i, i < l.length → aRw p i (l.getD i 0) = true
 pair : ∀ j, 2 * j + 1 < l.length → aRe p (l.getD (2 * j) 0) (l.getD (2 * j + 1) 0) = true
 byes : (l.count (-1) : Int) + b = p.Size - p.Persons.length
 left : 0 ≤ b
theorem mD {l : List Int} {n : Int} {i : Nat} (h : i < l.length) : (l ++ [n]).getD i 0 = l.getD i 0 := by
 rw [List.getD, List.getD, List.getElem?_append_left h]
theorem vF (l : List Int) (n : Int) : (l ++ [n]).getD l.length 0 = n := by
 rw [List.getD, List.getElem?_append_right (Nat.le_refl _), Nat.sub_self]; rfl
theorem PreL.next {p : bQ} {l : List Int} {b n : Int} (h : PreL p l b) (hn : Num p n) (hok : okN p l b n = true) : PreL p (l ++ [n]) (aQw b n) := by
 unfold okN at hok
 simp only [Bool.not_eq_true', Bool.or_eq_false_iff, decide_eq_false_iff_not, Bool.and_eq_false_iff, Bool.not_eq_false'] at hok
 obtain ⟨⟨⟨h1, h2⟩, h3⟩, h4⟩ := hok
 refine ⟨fun x hx => ?_, fun i j hij hj he => ?_, fun i hi => ?_, fun j hj => ?_, ?_, ?_⟩
 ·rcases List.mem_append.1 hx with hx | hx
  ·exact h.num x hx
  ·rw [List.mem_singleton.1 hx]; exact hn
 ·rw [List.length_append, List.length_singleton] at hj
  rcases Nat.lt_or_ge j l.length with hjl | hjl
  ·rw [mD (by omega), mD hjl] at he
   rw [mD hjl]
   exact h.nd i j hij hjl he
  ·have : j = l.length := by omega
   subst this
   rw [vF, mD hij, bT hij] at he
   rw [vF]
   rcases h2 with h2 | h2
   ·exact of_decide_eq_true h2
   ·exact absurd (he ▸ List.getElem_mem hij) h2
 ·rw [List.length_append, List.length_singleton] at hi
  rcases Nat.lt_or_ge i l.length with hil | hil
  ·rw [mD hil]; exact h.seat i hil
  ·have : i = l.length := by omega
   subst this
   rw [vF]; exact h3
 ·rw [List.length_append, List.length_singleton] at hj
  rcases Nat.lt_or_ge (2 * j + 1) l.length with hjl | hjl
  ·rw [mD (by omega), mD hjl]; exact h.pair j hjl
  ·have e : 2 * j + 1 = l.length := by omega
   have e2 : 2 * j = l.length - 1 := by omega
   rw [mD (by omega), e, vF, e2]
   rcases h4 with h4 | h4
   ·exact absurd (by omega : l.length % 2 = 1) h4
   ·exact h4
 ·rw [List.count_append, ← h.byes]
  unfold aQw
  split
  ·rename_i hb
   subst hb
   simp
   omega
  ·rename_i hb
   rw [List.count_singleton]
   have : (n == (-1 : Int)) = false := by simpa using hb
   rw [this]
   simp
 ·unfold aQw
  exact Int.not_lt.1 h1
structure aSc (p : bQ) (l : List Int) : Prop where
 len : (l.length : Int) = p.Size
 num : ∀ x ∈ l, Num p x
 nd : ∀ i j, i < j → j < l.length → l.getD i 0 = l.getD j 0 → l.getD j 0 = -1
 seat : ∀ i, i < l.length → aRw p i (l.getD i 0) = true
 pair : ∀ j, 2 * j + 1 < l.length → aRe p (l.getD (2 * j) 0) (l.getD (2 * j + 1) 0) = true
 byes : (l.count (-1) : Int) ≤ p.Size - p.Persons.length
section
variable {p : bQ} (hp : aJg p = true)
include hp
end
end Go.Am
end
