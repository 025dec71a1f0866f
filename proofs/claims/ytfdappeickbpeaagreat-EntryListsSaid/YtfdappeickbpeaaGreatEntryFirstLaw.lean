/- The theorem of the first hour, plainly. -/
import Derived.Test.YtfdappeickbpeaaGreatEntryOrderLaw
namespace Go.Am
theorem aDe (hour : Int) : ∀ (t : List aM) (l : aO), t.Pairwise (fun x y => dH x < dH y) → (∀ x ∈ t, bN x) → qQ hour l t = (t.filter fun x => decide (x.Hour ≤ hour)).foldl dM l
 | [], _, _, _ => rfl
 | x :: t, l, hs, hb => by
  have h1 := List.pairwise_cons.1 hs
  by_cases h : x.Hour ≤ hour
  ·rw [List.filter_cons_of_pos (by simpa using h), List.foldl_cons]
   simp only [qQ, show decide (hour < x.Hour) = false from decide_eq_false (by omega), cond_false]
   exact aDe hour t _ h1.2 fun y hy => hb y (by simp [hy])
  ·rw [List.filter_cons_of_neg (by simpa using h)]
   have hno : t.filter (fun x => decide (x.Hour ≤ hour)) = [] := by
    rw [List.filter_eq_nil_iff]
    intro y hy
    have k := h1.1 y hy
    have b1 := hb x (by simp)
    have b2 := hb y (by simp [hy])
    unfold bN at b1 b2
    unfold dH at k
    simp
    omega
   rw [hno]
   simp only [qQ, show decide (hour < x.Hour) = true from decide_eq_true (by omega), cond_true, List.foldl_nil]
end Go.Am
