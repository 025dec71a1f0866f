/- The plain law RankReach. -/
import Derived.Test.YtaocljlhapoieaaRkPlain27
import Derived.Test.YtaocljlhapoieaaRkWorks
namespace Go.Am

theorem aGz {l : aL} (h : Near l) (p w : Int) (prizes : List Int) (hb : prizes.length ≤ 1000000) : ∃ r : Int × Int × Int, mR l p w prizes = some r ∧ iW l p w prizes = some r := by
  by_cases ha : oW l p w = 0
  · obtain ⟨z, hz, hag, hP⟩ := h.gl ha
    exact ⟨_, aGx hz hP hag prizes hb, aJn hz hP hag prizes hb⟩
  · exact ⟨_, aGy h.bd ha prizes, aJo h.bd ha prizes⟩
theorem uH (l : aL) (x : pI) (prizes : List Int) (ok0 : aAg l) (ok1 : vR x) (ok2 : okL okI prizes) : mQ l x prizes = some true := by
  have works : (lF).bind (fun r14 => some r14) = some true := by rw [aFq, Option.bind_some]
  unfold mQ
  rcases aJy (l := l) ⟨ok0.2.2.1.1, ok0.2.2.2.1.1, ok0.2.2.2.2.1⟩ with h | ⟨h, hn, _⟩
  · rw [h, Option.bind_some, cond_true, Option.bind_some, cond_true, Option.bind_some, cond_true, Option.bind_some, cond_true, Option.bind_some, cond_true, works]
  · obtain ⟨e1, e2, e3⟩ := hn.bd
    rw [h, Option.bind_some, cond_false, aJw, Option.bind_some, Option.bind_some, eO, Option.bind_some, gI, Option.bind_some, eO, Option.bind_some, aBe l (by omega) (by omega) (by omega), Option.bind_some, gI, Option.bind_some, eO, Option.bind_some]
    cases hl : (decide (250 < x.Week) && decide (x.Week ≤ 400) || decide (20 < (prizes.length : Int)) || (decide (2 < (prizes.length : Int)) && decide ((prizes.length : Int) ≤ 4)) || (decide (4 < l.Players) && decide (jN l = 0))) with
    | true => rw [cond_true, works]
    | false =>
      simp only [Bool.or_eq_false_iff, decide_eq_false_iff_not] at hl
      obtain ⟨r1, a1, b1⟩ := aGz hn x.Player x.Week prizes (by omega)
      have d0 : ∀ n : Int, decide (n = n) = true := fun n => decide_eq_true rfl
      rw [cond_false, aFt hn.bd, Option.bind_some, gU (by simp; omega), Option.bind_some, List.nil_append, a1, Option.bind_some, b1, Option.bind_some, d0, d0, d0, cond_true, Option.bind_some, cond_true, Option.bind_some, cond_true, works, Option.bind_some]
end Go.Am
