/- The theorem of the messages, plainly. -/
import Derived.Test.YtfdappeickbpeaaGreatEnWorks
namespace Go.Am

theorem aNu (l : List aJ) : mH l = some ((decide (20 < (l.length : Int)) && decide ((l.length : Int) ≤ 60)) || decide (100 < (l.length : Int))) := by
  unfold mH
  rw [tJ, Option.bind_some, tF, Option.bind_some]
theorem aLk (f : aV) (l : List aJ) : ∃ r, lB f l = some r ∧ (r = true → VL f l ∧ l.length ≤ 20) := by
  unfold lB
  rw [aNu, Option.bind_some, aIv, Option.bind_some, tJ, Option.bind_some]
  refine ⟨_, rfl, fun h => ?_⟩
  simp only [Bool.and_eq_true, Bool.not_eq_true', Bool.or_eq_false_iff, Bool.and_eq_false_iff, decide_eq_false_iff_not, decide_eq_true_eq] at h
  have hv := mU.1 h.2
  have := hv.len
  exact ⟨hv, by omega⟩
theorem aJg (n : Int) : kN n = some (wi n 0 9999) := by
  unfold kN wi
  cases decide (0 ≤ n) <;> rfl
end Go.Am
