/- The plain law PursePays. -/
import Derived.Test.YtoflekecpkjghaaGreatPpPlain15
namespace Go.Am

theorem aBw (p : aQ) (before : List aK) (_ : aMx p) (_ : okL aDf before) : pQ p before = some true := by
  unfold pQ
  rcases bBd p with h | ⟨h, hn⟩
  · rw [h, Option.bind_some, cond_true, Option.bind_some, cond_true, aDm, Option.bind_some]
  · have hz := hn.sz
    rw [h, Option.bind_some, cond_false, Option.bind_some]
    by_cases hl : 250 < (before.length : Int)
    · rw [decide_eq_true hl, cond_true, aDm, Option.bind_some]
    · rw [decide_eq_false hl, cond_false, bBy hz, Option.bind_some, fM (by simp; omega), Option.bind_some, List.nil_append]
      obtain ⟨r, a, b, l1, l2⟩ : ∃ r : List aK × List aK × Int, qD p before = some r ∧ jO p before = some r ∧ r.1.length ≤ 1000 ∧ r.2.1.length ≤ 1000 := by
        by_cases hc : pF p = 0
        · obtain ⟨d, hg⟩ := aZd hc
          by_cases hp : before.length ≤ 200 ∧ before.all (uC p) = true
          · refine ⟨_, bCo hz hg before hp.1 hp.2, bCn hz hg before hp.1 hp.2, ?_⟩
            have hbl : (kH p d).length ≤ 1000 := by unfold kH; rw [List.length_map]; exact sJ p
            have hpl := aJw before (kH p d) ([], [])
            simp only [List.length_nil] at hpl
            unfold aLn
            simp only
            omega
          · exact ⟨_, bCi hz hg before (by omega) hp, bCb hz hg before (by omega) hp, by simp, by simp⟩
        · exact ⟨_, bCh hz hc before, bCa hz hc before, by simp, by simp⟩
      have d0 : ∀ n : Int, decide (n = n) = true := fun n => decide_eq_true rfl
      rw [a, Option.bind_some, b, Option.bind_some, aPd _ l1, Option.bind_some, cond_true, aPd _ l2, Option.bind_some, Option.bind_some, cond_true, d0, Option.bind_some, cond_true, aDm]
      rfl
end Go.Am
