/- Layer 7, plain: valid trees and slips that agree, as the laws ask it. -/
import Derived.Test.YtenffgkkeafnpaaBkPlain3
namespace Go.Am
theorem aFq (t : aT) (l : List aI) : kI t l = some false ∨ ∃ d, Good t l d ∧ kI t l = some true ∧ l.length ≤ 60 := by
  unfold kI
  rw [aMe, Option.bind_some]
  rcases pI t l with ⟨d, hg⟩ | ⟨e, he⟩
  · refine .inr ⟨d, hg, ?_, hg.len⟩
    have h32 := hg.ht.len32
    have hl := hg.len
    have hf : aDx t l = false := by unfold aDx; rw [Bool.or_eq_false_iff, decide_eq_false_iff_not, decide_eq_false_iff_not]; omega
    rw [hf, qO hg]; rfl
  · refine .inl ?_
    rw [sG he]
    cases aDx t l with
    | true => rfl
    | false => simp only [Bool.not_false, cond_true, Option.bind_some, he.ne]
end Go.Am
