/- The theorem of the messages, plainly. -/
import Derived.Test.YtfdappeickbpeaaGreatEnWorks
namespace Go.Am

theorem aNi (l : List aJ) : mA l = some ((decide (20 < (l.length : Int)) && decide ((l.length : Int) ≤ 60)) || decide (100 < (l.length : Int))) := by
  unfold mA
  rw [tA, Option.bind_some, sX, Option.bind_some]
theorem aKt (f : aS) (l : List aJ) : ∃ r, kY f l = some r ∧ (r = true → VL f l ∧ l.length ≤ 20) := by
  unfold kY
  rw [aNi, Option.bind_some, aIk, Option.bind_some, tA, Option.bind_some]
  refine ⟨_, rfl, fun h => ?_⟩
  simp only [Bool.and_eq_true, Bool.not_eq_true', Bool.or_eq_false_iff, Bool.and_eq_false_iff, decide_eq_false_iff_not, decide_eq_true_eq] at h
  have hv := oI.1 h.2
  have := hv.len
  exact ⟨hv, by omega⟩
theorem aIt (n : Int) : kH n = some (wi n 0 9999) := by
  unfold kH wi
  cases decide (0 ≤ n) <;> rfl
end Go.Am
