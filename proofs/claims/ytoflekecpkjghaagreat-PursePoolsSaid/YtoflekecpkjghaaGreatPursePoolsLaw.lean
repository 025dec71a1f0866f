/- The plain law PursePools. -/
import Derived.Test.YtoflekecpkjghaaGreatPpPlain14
namespace Go.Am

theorem zC (p : aR) (n : Int) (_ : aKt p) (_ : okI n) : nZ p n = some true := by
  unfold nZ
  rcases aYm p with h | ⟨h, hn⟩
  · rw [h, Option.bind_some, cond_true, aHt, Option.bind_some]
  · have hz := hn.sz
    obtain ⟨r1, a1, b1⟩ : ∃ r : Int × Int, pC p = some r ∧ kK p = some r := by
      by_cases hc : lZ p = 0
      · obtain ⟨d, hg⟩ := aRv hc
        exact ⟨_, aWr hz hg, aZl hz hg⟩
      · exact ⟨_, aYx hz hc, aYd hz hc⟩
    obtain ⟨r2, a2, b2⟩ : ∃ r : bQ × Int, nN p n = some r ∧ jU p n = some r := by
      by_cases hc : lZ p = 0
      · obtain ⟨d, hg⟩ := aRv hc
        exact ⟨_, aRc hz hg n, aWy hz hg n⟩
      · exact ⟨_, aVr hz hc n, aUy hz hc n⟩
    have d0 : ∀ n : Int, decide (n = n) = true := fun n => decide_eq_true rfl
    have d1 : ∀ n : bQ, decide (n = n) = true := fun n => decide_eq_true rfl
    rw [h, Option.bind_some, cond_false, aZk hz, Option.bind_some, a1, Option.bind_some, b1, Option.bind_some, a2, Option.bind_some, b2, Option.bind_some, d0, d0, d0, d1, aHt]
    rfl
end Go.Am
