/- Layer 7, plain: valid trees and slips that agree, as the laws ask it. -/
import Derived.Test.YtenffgkkeafnpaaBkPlain3
namespace Go.Am
theorem aFx (t : aO) (l : List aE) : kE t l = some false ∨ ∃ d, Good t l d ∧ kE t l = some true ∧ l.length ≤ 60 := by
  unfold kE
  rw [aMs, Option.bind_some]
  rcases nZ t l with ⟨d, hg⟩ | ⟨e, he⟩
  · refine .inr ⟨d, hg, ?_, hg.len⟩
    have h32 := hg.ht.len32
    have hl := hg.len
    have hf : aEd t l = false := by unfold aEd; rw [Bool.or_eq_false_iff, decide_eq_false_iff_not, decide_eq_false_iff_not]; omega
    rw [hf, mI hg]; rfl
  · refine .inl ?_
    rw [nI he]
    cases aEd t l with
    | true => rfl
    | false => simp only [Bool.not_false, cond_true, Option.bind_some, he.ne]
end Go.Am
