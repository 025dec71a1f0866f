/- What the library's sort comes to, in lists. -/
import Derived.Test.YtiohgpipanopaaaGreatAmSort
import Derived.Shelf.SlSortCmp.Insertion
namespace Go.Am
open Go.Sort Go.Proofs
def ltO {α : Type} (cmp : α → α → Option Int) (x y : α) : Bool := match cmp x y with | some r => decide (r < 0) | none => false
def aMd {α : Type} [DecidableEq α] (zs : List α) (cmp : α → α → Option Int) : Bool :=
 zs.all fun x => !ltO cmp x x && zs.all fun y => (cmp x y).isSome && (decide (x = y) || ltO cmp x y || ltO cmp y x) && zs.all fun z => (!(ltO cmp x y && ltO cmp y z) || ltO cmp x z) && (ltO cmp x y || ltO cmp y z || !ltO cmp x z)
def kV {α : Type} (cmp : α → α → Option Int) (zs : List α) : List α := zs.mergeSort fun x y => !ltO cmp y x
def aMf {α : Type} [DecidableEq α] (zs : List α) (cmp : α → α → Option Int) : Option (List α) := if aMd zs cmp = true ∧ zs.length < 4611686018427387904 then some (kV cmp zs) else none
section
variable {α : Type} [DecidableEq α] {zs : List α} {cmp : α → α → Option Int} (hok : aMd zs cmp = true)
include hok
theorem aCy : (∀ x ∈ zs, ltO cmp x x = false) ∧ (∀ x ∈ zs, ∀ y ∈ zs, ∃ r, cmp x y = some r) ∧ (∀ x ∈ zs, ∀ y ∈ zs, x = y ∨ ltO cmp x y = true ∨ ltO cmp y x = true) ∧
  (∀ x ∈ zs, ∀ y ∈ zs, ∀ z ∈ zs, ltO cmp x y = true → ltO cmp y z = true → ltO cmp x z = true) ∧ ∀ x ∈ zs, ∀ y ∈ zs, ∀ z ∈ zs, ltO cmp x y = false → ltO cmp y z = false → ltO cmp x z = false := by
 unfold aMd at hok
 simp only [List.all_eq_true, Bool.and_eq_true, Bool.or_eq_true, Bool.not_eq_true', decide_eq_true_eq] at hok
 refine ⟨fun x hx => (hok x hx).1, fun x hx y hy => Option.isSome_iff_exists.1 ((hok x hx).2 y hy).1.1, fun x hx y hy => or_assoc.1 ((hok x hx).2 y hy).1.2, fun x hx y hy z hz h1 h2 => ?_, fun x hx y hy z hz h1 h2 => ?_⟩
 ·rcases (((hok x hx).2 y hy).2 z hz).1 with h | h
  ·simp [h1, h2] at h
  ·exact h
 ·rcases (((hok x hx).2 y hy).2 z hz).2 with (h | h) | h
  ·rw [h1] at h; cases h
  ·rw [h2] at h; cases h
  ·exact h
def cfS (zs : List α) (cmp : α → α → Option Int) (x y : { x // x ∈ zs }) : Int := (cmp x.1 y.1).getD 0
theorem yA (x y : { x // x ∈ zs }) : ltOf (cfS zs cmp) x y = ltO cmp x.1 y.1 := by
 obtain ⟨r, hr⟩ := (aCy hok).2.1 x.1 x.2 y.1 y.2
 unfold ltOf cfS ltO
 rw [hr]; rfl
theorem aXy : SWO (ltOf (cfS zs cmp)) := by
 obtain ⟨h1, _, _, h4, h5⟩ := aCy hok
 exact ⟨fun x => by rw [yA hok]; exact h1 x.1 x.2, fun x y z => by rw [yA hok, yA hok, yA hok]; exact h4 x.1 x.2 y.1 y.2 z.1 z.2, fun x y z => by rw [yA hok, yA hok, yA hok]; exact h5 x.1 x.2 y.1 y.2 z.1 z.2⟩
theorem aXz (x y : { x // x ∈ zs }) (h1 : ltOf (cfS zs cmp) x y = false) (h2 : ltOf (cfS zs cmp) y x = false) : x = y := by
 rw [yA hok] at h1 h2
 rcases (aCy hok).2.2.1 x.1 x.2 y.1 y.2 with h | h | h
 ·exact Subtype.ext h
 ·rw [h1] at h; cases h
 ·rw [h2] at h; cases h
theorem aPm : (zs.attach.mergeSort fun x y => !(ltOf (cfS zs cmp)) y x).map Subtype.val = kV cmp zs := by
 unfold kV
 rw [List.map_mergeSort (s := fun x y => !ltO cmp y x) fun a _ b _ => by rw [yA hok], List.attach_map_subtype_val]
end
end Go.Am
