/- Layer 7, plain: valid trees and slips that agree, as the laws ask it. -/
import Derived.Test.YtenffgkkeafnpaaBkPlain3
namespace Go.Am
theorem aFj (t : aO) (l : List aE) : jR t l = some false ∨ ∃ d, Good t l d ∧ jR t l = some true ∧ l.length ≤ 60 := by
  unfold jR
  rw [aMb, Option.bind_some]
  rcases nH t l with ⟨d, hg⟩ | ⟨e, he⟩
  · refine .inr ⟨d, hg, ?_, hg.len⟩
    have h32 := hg.ht.len32
    have hl := hg.len
    have hf : aDp t l = false := by unfold aDp; rw [Bool.or_eq_false_iff, decide_eq_false_iff_not, decide_eq_false_iff_not]; omega
    rw [hf, oT hg]; rfl
  · refine .inl ?_
    rw [pU he]
    cases aDp t l with
    | true => rfl
    | false => simp only [Bool.not_false, cond_true, Option.bind_some, he.ne]
end Go.Am
