/- Layer 7, plain: valid trees and slips that agree, as the laws ask it. -/
import Derived.Test.YtenffgkkeafnpaaBkPlain3
namespace Go.Am
theorem aFb (t : aP) (l : List aE) : kB t l = some false ∨ ∃ d, Good t l d ∧ kB t l = some true ∧ l.length ≤ 60 := by
  unfold kB
  rw [aLr, Option.bind_some]
  rcases oS t l with ⟨d, hg⟩ | ⟨e, he⟩
  · refine .inr ⟨d, hg, ?_, hg.len⟩
    have h32 := hg.ht.len32
    have hl := hg.len
    have hf : aDf t l = false := by unfold aDf; rw [Bool.or_eq_false_iff, decide_eq_false_iff_not, decide_eq_false_iff_not]; omega
    rw [hf, pW hg]; rfl
  · refine .inl ?_
    rw [rN he]
    cases aDf t l with
    | true => rfl
    | false => simp only [Bool.not_false, cond_true, Option.bind_some, he.ne]
end Go.Am
