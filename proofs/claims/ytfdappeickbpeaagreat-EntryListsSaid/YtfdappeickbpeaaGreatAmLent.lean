/- Calls that are lent things and give plain things to own. -/
import Derived.Test.YtfdappeickbpeaaGreatAmNd
namespace Go.Am
theorem aJp {a b : List D} (h1 : eJ a = true) (h2 : eJ b = true) : eJ (a ++ b) = true := by
 induction a with
 | nil => exact h2
 | cons x a ih =>
  cases x with
  | lit v => exact ih h1
  | sl => simp [eJ] at h1
  | sn => simp [eJ] at h1
  | mp => simp [eJ] at h1
  | pt => simp [eJ] at h1
theorem kZ {α : Type} {enc : α → List D} (h : ∀ x, eJ (enc x) = true) : ∀ xs : List α, eJ (xs.map enc).flatten = true
 | [] => rfl
 | x :: xs => by rw [List.map_cons, List.flatten_cons]; exact aJp (h x) (kZ h xs)
theorem pmn : ∀ m ∈ ([] : List MO), uJ m := fun _ h => by cases h
theorem pmc {a : MO} {l : List MO} (h : uJ a) (hl : ∀ m ∈ l, uJ m) : ∀ m ∈ a :: l, uJ m := fun m hm => by
 rcases List.mem_cons.1 hm with rfl | hm
 ·exact h
 ·exact hl m hm
end Go.Am
