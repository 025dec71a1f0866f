/- Layer 7, plain: valid trees and slips that agree, as the laws ask it. -/
import Derived.Test.YtenffgkkeafnpaaBkPlain3
namespace Go.Am
theorem aDv (t : aO) (l : List aD) : jF t l = some false ∨ ∃ d, Good t l d ∧ jF t l = some true ∧ l.length ≤ 60 := by
  unfold jF
  rw [aKh, Option.bind_some]
  rcases oB t l with ⟨d, hg⟩ | ⟨e, he⟩
  · refine .inr ⟨d, hg, ?_, hg.len⟩
    have h32 := hg.ht.len32
    have hl := hg.len
    have hf : aCc t l = false := by unfold aCc; rw [Bool.or_eq_false_iff, decide_eq_false_iff_not, decide_eq_false_iff_not]; omega
    rw [hf, mA hg]; rfl
  · refine .inl ?_
    rw [nE he]
    cases aCc t l with
    | true => rfl
    | false => simp only [Bool.not_false, cond_true, Option.bind_some, he.ne]
end Go.Am
