/- Layer 7, plain: valid trees and slips that agree, as the laws ask it. -/
import Derived.Test.YtenffgkkeafnpaaBkPlain3
namespace Go.Am
theorem aEp (t : aO) (l : List aD) : jO t l = some false ∨ ∃ d, Good t l d ∧ jO t l = some true ∧ l.length ≤ 60 := by
  unfold jO
  rw [aLn, Option.bind_some]
  rcases oO t l with ⟨d, hg⟩ | ⟨e, he⟩
  · refine .inr ⟨d, hg, ?_, hg.len⟩
    have h32 := hg.ht.len32
    have hl := hg.len
    have hf : aCx t l = false := by unfold aCx; rw [Bool.or_eq_false_iff, decide_eq_false_iff_not, decide_eq_false_iff_not]; omega
    rw [hf, mL hg]; rfl
  · refine .inl ?_
    rw [pL he]
    cases aCx t l with
    | true => rfl
    | false => simp only [Bool.not_false, cond_true, Option.bind_some, he.ne]
end Go.Am
