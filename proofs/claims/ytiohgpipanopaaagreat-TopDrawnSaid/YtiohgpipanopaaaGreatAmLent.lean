/- Calls that are lent things and give plain things to own. -/
import Derived.Test.YtiohgpipanopaaaGreatAmNd
namespace Go.Am
theorem aNg {a b : List D} (h1 : eN a = true) (h2 : eN b = true) : eN (a ++ b) = true := by
 induction a with
 | nil => exact h2
 | cons x a ih =>
  cases x with
  | lit v => exact ih h1
  | sl => simp [eN] at h1
  | sn => simp [eN] at h1
  | mp => simp [eN] at h1
  | pt => simp [eN] at h1
theorem aJk {α : Type} {enc : α → List D} (h : ∀ x, eN (enc x) = true) : ∀ xs : List α, eN (xs.map enc).flatten = true
 | [] => rfl
 | x :: xs => by rw [List.map_cons, List.flatten_cons]; exact aNg (h x) (aJk h xs)
theorem pmn : ∀ m ∈ ([] : List MO), vA m := fun _ h => by cases h
theorem pmc {a : MO} {l : List MO} (h : vA a) (hl : ∀ m ∈ l, vA m) : ∀ m ∈ a :: l, vA m := fun m hm => by
 rcases List.mem_cons.1 hm with rfl | hm
 ·exact h
 ·exact hl m hm
end Go.Am
