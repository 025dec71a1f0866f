/- Calls that are lent things and give plain things to own. -/
import Derived.Test.YtfdappeickbpeaaGreatAmNd
namespace Go.Am
theorem aOk {a b : List D} (h1 : eX a = true) (h2 : eX b = true) : eX (a ++ b) = true := by
 induction a with
 | nil => exact h2
 | cons x a ih =>
  cases x with
  | lit v => exact ih h1
  | sl => simp [eX] at h1
  | sn => simp [eX] at h1
  | mp => simp [eX] at h1
  | pt => simp [eX] at h1
theorem mJ {α : Type} {enc : α → List D} (h : ∀ x, eX (enc x) = true) : ∀ xs : List α, eX (xs.map enc).flatten = true
 | [] => rfl
 | x :: xs => by rw [List.map_cons, List.flatten_cons]; exact aOk (h x) (mJ h xs)
theorem pmn : ∀ m ∈ ([] : List MO), wV m := fun _ h => by cases h
theorem pmc {a : MO} {l : List MO} (h : wV a) (hl : ∀ m ∈ l, wV m) : ∀ m ∈ a :: l, wV m := fun m hm => by
 rcases List.mem_cons.1 hm with rfl | hm
 ·exact h
 ·exact hl m hm
end Go.Am
