/- The theorem of the messages, plainly. -/
import Derived.Test.YtfdappeickbpeaaGreatEnWorks
namespace Go.Am

theorem aKz (l : List aK) : lI l = some ((decide (20 < (l.length : Int)) && decide ((l.length : Int) ≤ 60)) || decide (100 < (l.length : Int))) := by
  unfold lI
  rw [sK, Option.bind_some, sG, Option.bind_some]
theorem aIs (f : aT) (l : List aK) : ∃ r, kK f l = some r ∧ (r = true → VL f l ∧ l.length ≤ 20) := by
  unfold kK
  rw [aKz, Option.bind_some, aGp, Option.bind_some, sK, Option.bind_some]
  refine ⟨_, rfl, fun h => ?_⟩
  simp only [Bool.and_eq_true, Bool.not_eq_true', Bool.or_eq_false_iff, Bool.and_eq_false_iff, decide_eq_false_iff_not, decide_eq_true_eq] at h
  have hv := nO.1 h.2
  have := hv.len
  exact ⟨hv, by omega⟩
theorem aBj (n : Int) : iJ n = some (wi n 0 9999) := by
  unfold iJ wi
  cases decide (0 ≤ n) <;> rfl
end Go.Am
