/- Calls that are lent things and give plain things to own. -/
import Derived.Test.YtfdappeickbpeaaGreatAmNd
namespace Go.Am
theorem aDg {a b : List D} (h1 : cY a = true) (h2 : cY b = true) : cY (a ++ b) = true := by
  induction a with
  | nil => exact h2
  | cons x a ih =>
    cases x with
    | lit v => exact ih h1
    | sl => simp [cY] at h1
    | sn => simp [cY] at h1
    | mp => simp [cY] at h1
    | pt => simp [cY] at h1
theorem iH {α : Type} {enc : α → List D} (h : ∀ x, cY (enc x) = true) : ∀ xs : List α, cY (xs.map enc).flatten = true
  | [] => rfl
  | x :: xs => by rw [List.map_cons, List.flatten_cons]; exact aDg (h x) (iH h xs)
theorem pmn : ∀ m ∈ ([] : List MO), pY m := fun _ h => by cases h
theorem pmc {a : MO} {l : List MO} (h : pY a) (hl : ∀ m ∈ l, pY m) : ∀ m ∈ a :: l, pY m := fun m hm => by
  rcases List.mem_cons.1 hm with rfl | hm
  · exact h
  · exact hl m hm
end Go.Am
