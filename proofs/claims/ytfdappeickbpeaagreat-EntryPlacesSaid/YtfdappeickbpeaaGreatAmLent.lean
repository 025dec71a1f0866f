/- Calls that are lent things and give plain things to own. -/
import Derived.Test.YtfdappeickbpeaaGreatAmNd
namespace Go.Am
theorem aGb {a b : List D} (h1 : dV a = true) (h2 : dV b = true) : dV (a ++ b) = true := by
  induction a with
  | nil => exact h2
  | cons x a ih =>
    cases x with
    | lit v => exact ih h1
    | sl => simp [dV] at h1
    | sn => simp [dV] at h1
    | mp => simp [dV] at h1
    | pt => simp [dV] at h1
theorem jN {α : Type} {enc : α → List D} (h : ∀ x, dV (enc x) = true) : ∀ xs : List α, dV (xs.map enc).flatten = true
  | [] => rfl
  | x :: xs => by rw [List.map_cons, List.flatten_cons]; exact aGb (h x) (jN h xs)
theorem pmn : ∀ m ∈ ([] : List MO), rR m := fun _ h => by cases h
theorem pmc {a : MO} {l : List MO} (h : rR a) (hl : ∀ m ∈ l, rR m) : ∀ m ∈ a :: l, rR m := fun m hm => by
  rcases List.mem_cons.1 hm with rfl | hm
  · exact h
  · exact hl m hm
end Go.Am
