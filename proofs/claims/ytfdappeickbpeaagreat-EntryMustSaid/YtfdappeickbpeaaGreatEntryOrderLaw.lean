/- The theorem of the messages, plainly. -/
import Derived.Test.YtfdappeickbpeaaGreatEnWorks
namespace Go.Am
theorem aUl (l : List aG) : oD l = some ((decide (20 < (l.length : Int)) && decide ((l.length : Int) ≤ 60)) || decide (100 < (l.length : Int))) := by
 unfold oD
 rw [jQ, Option.bind_some, lE, Option.bind_some]
theorem aRd (f : aP) (l : List aG) : ∃ r, mR f l = some r ∧ (r = true → VL f l ∧ l.length ≤ 20) := by
 unfold mR
 rw [aUl, Option.bind_some, aOc, Option.bind_some, jQ, Option.bind_some]
 refine ⟨_, rfl, fun h => ?_⟩
 simp only [Bool.and_eq_true, Bool.not_eq_true', Bool.or_eq_false_iff, Bool.and_eq_false_iff, decide_eq_false_iff_not, decide_eq_true_eq] at h
 have hv := oR.1 h.2
 have := hv.len
 exact ⟨hv, by omega⟩
theorem aOq (n : Int) : mC n = some (wi n 0 9999) := by
 unfold mC wi
 cases decide (0 ≤ n) <;> rfl
end Go.Am
