/- The plain law RankLists. -/
import Derived.Test.YtaocljlhapoieaaRkWorks
namespace Go.Am

theorem aHl {l : aN} (h : Near l) (w : Int) : ∃ r : List Int × Int, nZ l w = some r ∧ jZ l w = some r ∧ r.1.length ≤ 1000 := by
  by_cases ha : jL l 0 w = 0
  · obtain ⟨z, hz, hag, hP⟩ := h.gl ha
    have hw := (pE hag).2
    exact ⟨_, aHt hz hP hw, aKl hz hP hw, by have := ((hz.list hw.1 (by omega) hP).2.1).len (by omega); simp only; omega⟩
  · exact ⟨_, aHu h.bd ha, aKm h.bd ha, by simp⟩
theorem aGr {l : aN} (h : Near l) (p w : Int) : ∃ r : Int × Int, oA l p w = some r ∧ iY l p w = some r := by
  by_cases ha : jL l p w = 0
  · obtain ⟨z, hz, hag, hP⟩ := h.gl ha
    exact ⟨_, aGs hz hP hag, aJk hz hP hag⟩
  · exact ⟨_, aGt h.bd ha, aJl h.bd ha⟩
theorem aDs {l : aN} (h : Near l) (p w : Int) : ∃ r : Int × Int, lC l p w = some r ∧ hO l p w = some r := by
  by_cases ha : jL l p w = 0
  · obtain ⟨z, hz, hag, hP⟩ := h.gl ha
    have hw := (pE hag).2
    refine ⟨_, aEe hz hag, ?_⟩
    rw [aHc hz hag]
    have : decide (w = 400) = decide (400 ≤ w) := by rw [decide_eq_decide]; omega
    rw [this]
  · exact ⟨_, aEf h.bd ha, aHd h.bd ha⟩
theorem aBz {l : aN} (h : Near l) (p : Int) : ∃ r : Int × Int, kT l p = some r ∧ gH l p = some r := by
  by_cases ha : jL l p 0 = 0
  · obtain ⟨z, hz, hag, hP⟩ := h.gl ha
    exact ⟨_, aEz hz hP hag, aEq hz hP hag⟩
  · exact ⟨_, aFa h.bd ha, aEr h.bd ha⟩
theorem uP (l : aN) (x : pP) (ok0 : zW l) (ok1 : vW x) : mT l x = some true := by
  have works : (lT).bind (fun r14 => some r14) = some true := by rw [aFm, Option.bind_some]
  unfold mT
  rcases aJw (l := l) ⟨ok0.2.2.1.1, ok0.2.2.2.1.1, ok0.2.2.2.2.1⟩ with h | ⟨h, hn, _⟩
  · rw [h, Option.bind_some, cond_true, Option.bind_some, cond_true, works]
  · rw [h, Option.bind_some, cond_false, aJt, Option.bind_some, Option.bind_some]
    cases hl : (decide (250 < x.Week) && decide (x.Week ≤ 400)) with
    | true => rw [cond_true, works]
    | false =>
      obtain ⟨r1, a1, b1, c1⟩ := aHl hn x.Week
      obtain ⟨r2, a2, b2⟩ := aGr hn x.Player x.Week
      obtain ⟨r3, a3, b3⟩ := aDs hn x.Player x.Week
      obtain ⟨r4, a4, b4⟩ := aBz hn x.Player
      have d0 : ∀ n : Int, decide (n = n) = true := fun n => decide_eq_true rfl
      rw [cond_false, aFp hn.bd, Option.bind_some, a1, Option.bind_some, b1, Option.bind_some, a2, Option.bind_some, b2, Option.bind_some, aFi _ _ (by omega), Option.bind_some, decide_eq_true rfl, d0, d0, d0]
      rw [Bool.not_true, cond_false, Option.bind_some, cond_false, Option.bind_some, cond_false, Option.bind_some, cond_false, a3, Option.bind_some, b3, Option.bind_some, a4, Option.bind_some, b4, Option.bind_some, d0, d0, d0, d0, cond_true, Option.bind_some, cond_true, Option.bind_some, cond_true, Option.bind_some, cond_true, works, Option.bind_some]
end Go.Am
