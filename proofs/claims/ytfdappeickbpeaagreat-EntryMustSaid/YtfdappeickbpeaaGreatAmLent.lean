/- Calls that are lent things and give plain things to own. -/
import Derived.Test.YtfdappeickbpeaaGreatAmNd
namespace Go.Am
theorem aKq {a b : List D} (h1 : dZ a = true) (h2 : dZ b = true) : dZ (a ++ b) = true := by
 induction a with
 | nil => exact h2
 | cons x a ih =>
  cases x with
  | lit v => exact ih h1
  | sl => simp [dZ] at h1
  | sn => simp [dZ] at h1
  | mp => simp [dZ] at h1
  | pt => simp [dZ] at h1
theorem kR {α : Type} {enc : α → List D} (h : ∀ x, dZ (enc x) = true) : ∀ xs : List α, dZ (xs.map enc).flatten = true
 | [] => rfl
 | x :: xs => by rw [List.map_cons, List.flatten_cons]; exact aKq (h x) (kR h xs)
theorem pmn : ∀ m ∈ ([] : List MO), uL m := fun _ h => by cases h
theorem pmc {a : MO} {l : List MO} (h : uL a) (hl : ∀ m ∈ l, uL m) : ∀ m ∈ a :: l, uL m := fun m hm => by
 rcases List.mem_cons.1 hm with rfl | hm
 ·exact h
 ·exact hl m hm
end Go.Am
