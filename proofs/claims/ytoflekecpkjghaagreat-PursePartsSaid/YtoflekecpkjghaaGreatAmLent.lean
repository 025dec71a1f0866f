/- Calls that are lent things and give plain things to own. -/
import Derived.Test.YtoflekecpkjghaaGreatAmNd
namespace Go.Am
theorem aSq {a b : List D} (h1 : iI a = true) (h2 : iI b = true) : iI (a ++ b) = true := by
  induction a with
  | nil => exact h2
  | cons x a ih =>
    cases x with
    | lit v => exact ih h1
    | sl => simp [iI] at h1
    | sn => simp [iI] at h1
    | mp => simp [iI] at h1
theorem aOp {α : Type} {enc : α → List D} (h : ∀ x, iI (enc x) = true) : ∀ xs : List α, iI (xs.map enc).flatten = true
  | [] => rfl
  | x :: xs => by rw [List.map_cons, List.flatten_cons]; exact aSq (h x) (aOp h xs)
theorem aBe {α : Type} {enc : α → List D} {v : Value} {e k : Nat} {xs : List α} (h : ∀ x, iI (enc x) = true) : xS (.arr v e k (xs.map enc)) := aXd (aOp h xs)
theorem pmn : ∀ m ∈ ([] : List MO), xS m := fun _ h => by cases h
theorem pmc {a : MO} {l : List MO} (h : xS a) (hl : ∀ m ∈ l, xS m) : ∀ m ∈ a :: l, xS m := fun m hm => by
  rcases List.mem_cons.1 hm with rfl | hm
  · exact h
  · exact hl m hm
end Go.Am
