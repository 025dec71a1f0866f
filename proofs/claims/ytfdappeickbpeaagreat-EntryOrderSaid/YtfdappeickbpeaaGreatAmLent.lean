/- Calls that are lent things and give plain things to own. -/
import Derived.Test.YtfdappeickbpeaaGreatAmNd
namespace Go.Am
theorem aDv {a b : List D} (h1 : dF a = true) (h2 : dF b = true) : dF (a ++ b) = true := by
  induction a with
  | nil => exact h2
  | cons x a ih =>
    cases x with
    | lit v => exact ih h1
    | sl => simp [dF] at h1
    | sn => simp [dF] at h1
    | mp => simp [dF] at h1
    | pt => simp [dF] at h1
theorem iN {α : Type} {enc : α → List D} (h : ∀ x, dF (enc x) = true) : ∀ xs : List α, dF (xs.map enc).flatten = true
  | [] => rfl
  | x :: xs => by rw [List.map_cons, List.flatten_cons]; exact aDv (h x) (iN h xs)
theorem pmn : ∀ m ∈ ([] : List MO), qG m := fun _ h => by cases h
theorem pmc {a : MO} {l : List MO} (h : qG a) (hl : ∀ m ∈ l, qG m) : ∀ m ∈ a :: l, qG m := fun m hm => by
  rcases List.mem_cons.1 hm with rfl | hm
  · exact h
  · exact hl m hm
end Go.Am
