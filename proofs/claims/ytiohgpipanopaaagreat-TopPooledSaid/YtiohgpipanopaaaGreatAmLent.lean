/- Calls that are lent things and give plain things to own. -/
import Derived.Test.YtiohgpipanopaaaGreatAmNd
namespace Go.Am
theorem aWn {a b : List D} (h1 : fQ a = true) (h2 : fQ b = true) : fQ (a ++ b) = true := by
 induction a with
 | nil => exact h2
 | cons x a ih =>
  cases x with
  | lit v => exact ih h1
  | sl => simp [fQ] at h1
  | sn => simp [fQ] at h1
  | mp => simp [fQ] at h1
  | pt => simp [fQ] at h1
theorem aSj {α : Type} {enc : α → List D} (h : ∀ x, fQ (enc x) = true) : ∀ xs : List α, fQ (xs.map enc).flatten = true
 | [] => rfl
 | x :: xs => by rw [List.map_cons, List.flatten_cons]; exact aWn (h x) (aSj h xs)
theorem pmn : ∀ m ∈ ([] : List MO), aBl m := fun _ h => by cases h
theorem pmc {a : MO} {l : List MO} (h : aBl a) (hl : ∀ m ∈ l, aBl m) : ∀ m ∈ a :: l, aBl m := fun m hm => by
 rcases List.mem_cons.1 hm with rfl | hm
 ·exact h
 ·exact hl m hm
end Go.Am
