/- Calls that are lent things and give plain things to own. -/
import Derived.Test.YtfdappeickbpeaaGreatAmNd
namespace Go.Am
theorem aFr {a b : List D} (h1 : dO a = true) (h2 : dO b = true) : dO (a ++ b) = true := by
  induction a with
  | nil => exact h2
  | cons x a ih =>
    cases x with
    | lit v => exact ih h1
    | sl => simp [dO] at h1
    | sn => simp [dO] at h1
    | mp => simp [dO] at h1
    | pt => simp [dO] at h1
theorem iZ {α : Type} {enc : α → List D} (h : ∀ x, dO (enc x) = true) : ∀ xs : List α, dO (xs.map enc).flatten = true
  | [] => rfl
  | x :: xs => by rw [List.map_cons, List.flatten_cons]; exact aFr (h x) (iZ h xs)
theorem pmn : ∀ m ∈ ([] : List MO), rD m := fun _ h => by cases h
theorem pmc {a : MO} {l : List MO} (h : rD a) (hl : ∀ m ∈ l, rD m) : ∀ m ∈ a :: l, rD m := fun m hm => by
  rcases List.mem_cons.1 hm with rfl | hm
  · exact h
  · exact hl m hm
end Go.Am
