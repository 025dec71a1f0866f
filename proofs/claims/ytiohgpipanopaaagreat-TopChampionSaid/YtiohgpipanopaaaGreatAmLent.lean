/- Calls that are lent things and give plain things to own. -/
import Derived.Test.YtiohgpipanopaaaGreatAmNd
namespace Go.Am
theorem aOz {a b : List D} (h1 : fD a = true) (h2 : fD b = true) : fD (a ++ b) = true := by
 induction a with
 | nil => exact h2
 | cons x a ih =>
  cases x with
  | lit v => exact ih h1
  | sl => simp [fD] at h1
  | sn => simp [fD] at h1
  | mp => simp [fD] at h1
  | pt => simp [fD] at h1
theorem aEq {α : Type} {enc : α → List D} (h : ∀ x, fD (enc x) = true) : ∀ xs : List α, fD (xs.map enc).flatten = true
 | [] => rfl
 | x :: xs => by rw [List.map_cons, List.flatten_cons]; exact aOz (h x) (aEq h xs)
theorem aRg {α : Type} {enc : α → List D} {v : Value} {e k : Nat} {xs : List α} (h : ∀ x, fD (enc x) = true) : uT (.arr v e k (xs.map enc)) := aLh (aEq h xs)
theorem pmn : ∀ m ∈ ([] : List MO), uT m := fun _ h => by cases h
theorem pmc {a : MO} {l : List MO} (h : uT a) (hl : ∀ m ∈ l, uT m) : ∀ m ∈ a :: l, uT m := fun m hm => by
 rcases List.mem_cons.1 hm with rfl | hm
 ·exact h
 ·exact hl m hm
theorem aRd {P : Program} {f : FuncId} {args : List AV} {α : Type} {F : α → Value → AV} {G : α → Value → List MO} {r : α} (h : dR P f args [] (fun r' o' => ∃ (x : α) (w : Value), x = r ∧ r' = F x w ∧ o' = G x w)) : dR P f args [] (fun r' o' => ∃ w, r' = F r w ∧ o' = G r w) :=
 aId h fun _ _ ⟨_, w, hx, h1, h2⟩ => ⟨w, hx ▸ h1, hx ▸ h2⟩
end Go.Am
