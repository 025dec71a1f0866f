/- The plain law RankMerges. -/
import Derived.Test.YtaocljlhapoieaaRkWorks
namespace Go.Am

theorem aGr {l : aM} (hb : Bd l) (more : List aC) : Bd (wC l more).1 := by
  unfold wC
  cases (!decide (jM l = 0)) with
  | true => unfold Bd noL; simp
  | false =>
    rw [cond_false]
    cases (!decide (jM (sP l more) = 0)) with
    | true => unfold Bd noL; simp
    | false =>
      rw [cond_false]
      cases h : decide (40 < (((dP (l.Reports ++ more)).getD []).length : Int)) with
      | true => unfold Bd noL; simp
      | false =>
        have := of_decide_eq_false h
        rw [cond_false]
        cases nN ((dP (l.Reports ++ more)).getD []) with
        | true => unfold Bd noL; simp
        | false => exact ⟨by show ((dP (l.Reports ++ more)).getD []).length ≤ 1000; omega, hb.2.1, hb.2.2⟩
theorem tF (l : aM) (more : List aC) (ok0 : zA l) (ok1 : okL sL more) : lD l more = some true := by
  have works : (kI).bind (fun r14 => some r14) = some true := by rw [aEc, Option.bind_some]
  unfold lD
  rcases aIa (l := l) ⟨ok0.2.2.1.1, ok0.2.2.2.1.1, ok0.2.2.2.2.1⟩ with h | ⟨h, hn, _⟩
  · rw [h, Option.bind_some, cond_true, Option.bind_some, cond_true, works]
  · rw [h, Option.bind_some, cond_false, Option.bind_some]
    cases hm : decide (60 < (more.length : Int)) with
    | true => rw [cond_true, works]
    | false =>
      have hml := of_decide_eq_false hm
      have d0 : ∀ n : Int, decide (n = n) = true := fun n => decide_eq_true rfl
      rw [cond_false, aEf hn.bd, Option.bind_some, gN (by simp; omega), Option.bind_some, List.nil_append, aIw hn.bd _ (by omega), Option.bind_some, aIq hn.bd _ (by omega), Option.bind_some, aGg (aGr hn.bd more), Option.bind_some, d0, cond_true, Option.bind_some, cond_true, works, Option.bind_some]
end Go.Am
