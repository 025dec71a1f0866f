/- Calls that are lent things and give plain things to own. -/
import Derived.Test.YtiohgpipanopaaaGreatAmNd
namespace Go.Am
theorem aLt {a b : List D} (h1 : eK a = true) (h2 : eK b = true) : eK (a ++ b) = true := by
 induction a with
 | nil => exact h2
 | cons x a ih =>
  cases x with
  | lit v => exact ih h1
  | sl => simp [eK] at h1
  | sn => simp [eK] at h1
  | mp => simp [eK] at h1
  | pt => simp [eK] at h1
theorem aHx {α : Type} {enc : α → List D} (h : ∀ x, eK (enc x) = true) : ∀ xs : List α, eK (xs.map enc).flatten = true
 | [] => rfl
 | x :: xs => by rw [List.map_cons, List.flatten_cons]; exact aLt (h x) (aHx h xs)
theorem pmn : ∀ m ∈ ([] : List MO), uG m := fun _ h => by cases h
theorem pmc {a : MO} {l : List MO} (h : uG a) (hl : ∀ m ∈ l, uG m) : ∀ m ∈ a :: l, uG m := fun m hm => by
 rcases List.mem_cons.1 hm with rfl | hm
 ·exact h
 ·exact hl m hm
end Go.Am
