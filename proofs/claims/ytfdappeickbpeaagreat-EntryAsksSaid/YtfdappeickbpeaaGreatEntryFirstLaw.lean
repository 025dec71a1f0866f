/- The theorem of the first hour, plainly. -/
import Derived.Test.YtfdappeickbpeaaGreatEntryOrderLaw
namespace Go.Am
theorem zY (hour : Int) : ∀ (t : List aO) (l : aN), t.Pairwise (fun x y => dS x < dS y) → (∀ x ∈ t, bN x) → rP hour l t = (t.filter fun x => decide (x.Hour ≤ hour)).foldl cA l
 | [], _, _, _ => rfl
 | x :: t, l, hs, hb => by
  have h1 := List.pairwise_cons.1 hs
  by_cases h : x.Hour ≤ hour
  ·rw [List.filter_cons_of_pos (by simpa using h), List.foldl_cons]
   simp only [rP, show decide (hour < x.Hour) = false from decide_eq_false (by omega), cond_false]
   exact zY hour t _ h1.2 fun y hy => hb y (by simp [hy])
  ·rw [List.filter_cons_of_neg (by simpa using h)]
   have hno : t.filter (fun x => decide (x.Hour ≤ hour)) = [] := by
    rw [List.filter_eq_nil_iff]
    intro y hy
    have k := h1.1 y hy
    have b1 := hb x (by simp)
    have b2 := hb y (by simp [hy])
    unfold bN at b1 b2
    unfold dS at k
    simp
    omega
   rw [hno]
   simp only [rP, show decide (hour < x.Hour) = true from decide_eq_true (by omega), cond_true, List.foldl_nil]
theorem aSi {l : List aO} {h : Int} : h ∈ rY l ↔ ∃ y ∈ l, y.Hour = h := by
 unfold rY
 rw [aLr, aTi, List.mem_map]
theorem aMo (l : List aO) : (rY l).Pairwise fun x y => x ≤ y := by
 have hs : (rT (l.map fun x => x.Hour)).Pairwise fun x y => x ≤ y := by
  have := List.pairwise_mergeSort (le := fun x y : Int => decide (x ≤ y)) (by intro a b c; simp only [decide_eq_true_eq]; omega) (by intro a b; simp only [Bool.or_eq_true, decide_eq_true_eq]; omega) (l.map fun x => x.Hour)
  exact this.imp fun {x y} h => by simpa using h
 unfold rY
 cases hz : rT (l.map fun x => x.Hour) with
 | nil => exact .nil
 | cons q t =>
  rw [hz] at hs
  exact hs.sublist ((aKg q t).cons_cons q)
end Go.Am
