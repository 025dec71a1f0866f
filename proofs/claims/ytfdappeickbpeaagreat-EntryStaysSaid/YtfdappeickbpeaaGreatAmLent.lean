/- Calls that are lent things and give plain things to own. -/
import Derived.Test.YtfdappeickbpeaaGreatAmNd
namespace Go.Am
theorem aEk {a b : List D} (h1 : dI a = true) (h2 : dI b = true) : dI (a ++ b) = true := by
  induction a with
  | nil => exact h2
  | cons x a ih =>
    cases x with
    | lit v => exact ih h1
    | sl => simp [dI] at h1
    | sn => simp [dI] at h1
    | mp => simp [dI] at h1
    | pt => simp [dI] at h1
theorem iO {α : Type} {enc : α → List D} (h : ∀ x, dI (enc x) = true) : ∀ xs : List α, dI (xs.map enc).flatten = true
  | [] => rfl
  | x :: xs => by rw [List.map_cons, List.flatten_cons]; exact aEk (h x) (iO h xs)
theorem pmn : ∀ m ∈ ([] : List MO), qP m := fun _ h => by cases h
theorem pmc {a : MO} {l : List MO} (h : qP a) (hl : ∀ m ∈ l, qP m) : ∀ m ∈ a :: l, qP m := fun m hm => by
  rcases List.mem_cons.1 hm with rfl | hm
  · exact h
  · exact hl m hm
end Go.Am
