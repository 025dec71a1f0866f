/- The theorem of the messages, plainly. -/
import Derived.Test.YtfdappeickbpeaaGreatEnWorks
namespace Go.Am

theorem aJq (l : List aK) : lD l = some ((decide (20 < (l.length : Int)) && decide ((l.length : Int) ≤ 60)) || decide (100 < (l.length : Int))) := by
  unfold lD
  rw [rQ, Option.bind_some, oK, Option.bind_some]
theorem aHr (f : aT) (l : List aK) : ∃ r, kB f l = some r ∧ (r = true → VL f l ∧ l.length ≤ 20) := by
  unfold kB
  rw [aJq, Option.bind_some, aFk, Option.bind_some, rQ, Option.bind_some]
  refine ⟨_, rfl, fun h => ?_⟩
  simp only [Bool.and_eq_true, Bool.not_eq_true', Bool.or_eq_false_iff, Bool.and_eq_false_iff, decide_eq_false_iff_not, decide_eq_true_eq] at h
  have hv := lN.1 h.2
  have := hv.len
  exact ⟨hv, by omega⟩
theorem aFs (n : Int) : jM n = some (wi n 0 9999) := by
  unfold jM wi
  cases decide (0 ≤ n) <;> rfl
end Go.Am
