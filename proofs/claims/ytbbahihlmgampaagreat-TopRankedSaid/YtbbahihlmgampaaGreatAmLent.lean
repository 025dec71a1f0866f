/- Calls that are lent things and give plain things to own. -/
import Derived.Test.YtbbahihlmgampaaGreatAmNd
namespace Go.Am
theorem aNa {a b : List D} (h1 : iS a = true) (h2 : iS b = true) : iS (a ++ b) = true := by
 induction a with
 | nil => exact h2
 | cons x a ih =>
  cases x with
  | lit v => exact ih h1
  | sl => simp [iS] at h1
  | sn => simp [iS] at h1
  | mp => simp [iS] at h1
  | pt => simp [iS] at h1
theorem mP {α : Type} {enc : α → List D} (h : ∀ x, iS (enc x) = true) : ∀ xs : List α, iS (xs.map enc).flatten = true
 | [] => rfl
 | x :: xs => by rw [List.map_cons, List.flatten_cons]; exact aNa (h x) (mP h xs)
theorem pmn : ∀ m ∈ ([] : List MO), wD m := fun _ h => by cases h
theorem pmc {a : MO} {l : List MO} (h : wD a) (hl : ∀ m ∈ l, wD m) : ∀ m ∈ a :: l, wD m := fun m hm => by
 rcases List.mem_cons.1 hm with rfl | hm
 ·exact h
 ·exact hl m hm
end Go.Am
