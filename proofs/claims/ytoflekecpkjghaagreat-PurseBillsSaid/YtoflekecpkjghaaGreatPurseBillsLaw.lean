/- The plain law PurseBills. -/
import Derived.Test.YtoflekecpkjghaaGreatPpPlain14
namespace Go.Am

theorem aBg (p : aN) (n : Int) (_ : aMr p) (_ : okI n) : oT p n = some true := by
  unfold oT
  rcases bAx p with h | ⟨h, hn⟩
  · rw [h, Option.bind_some, cond_true, aJo, Option.bind_some]
  · have hz := hn.sz
    obtain ⟨r1, a1, b1⟩ : ∃ r : aQ × Int, qC p n = some r ∧ lF p n = some r := by
      by_cases hc : iU p = 0
      · obtain ⟨d, hg⟩ := aPl hc
        exact ⟨_, aWd hz hg n, bAj hz hg n⟩
      · exact ⟨_, aZs hz hc n, aYz hz hc n⟩
    obtain ⟨r2, a2, b2, c2⟩ : ∃ r : List aQ × Int, oG p = some r ∧ kG p = some r ∧ r.1.length ≤ 1000 := by
      by_cases hc : iU p = 0
      · obtain ⟨d, hg⟩ := aPl hc
        exact ⟨_, aWe hz hg, bAk hz hg, by unfold rK; rw [List.length_map]; exact aAe p⟩
      · exact ⟨_, aTm hz hc, aZa hz hc, by simp⟩
    obtain ⟨r3, a3, b3⟩ : ∃ r : aQ × Int, oH p = some r ∧ kJ p = some r := by
      by_cases hc : iU p = 0
      · obtain ⟨d, hg⟩ := aPl hc
        exact ⟨_, aWh hz hg, bAp hz hg⟩
      · exact ⟨_, aZu hz hc, aZd hz hc⟩
    have d0 : ∀ n : Int, decide (n = n) = true := fun n => decide_eq_true rfl
    have d1 : ∀ n : aQ, decide (n = n) = true := fun n => decide_eq_true rfl
    rw [h, Option.bind_some, cond_false, bBr hz, Option.bind_some, aEw hz, Option.bind_some, aCn hz, Option.bind_some, d0, Bool.not_true, cond_false, a1, Option.bind_some, b1, Option.bind_some, a2, Option.bind_some, b2, Option.bind_some, a3, Option.bind_some, b3, Option.bind_some, d0, d0, d0, d0, d1, d1]
    show fI r2.1 r2.1 p p BIG 0 = _
    refine yE (fun k i => fI r2.1 r2.1 p p k i) r2.1 (some false) (some true) (fun k i hi => ?_) (fun k => ?_) (by omega)
    · have hlt : decide ((i : Int) < (r2.1.length : Int)) = true := decide_eq_true (by omega)
      rw [fI, hlt, cond_true, bQ hi, Option.bind_some, Option.bind_some, bK (by omega)]
    · have hlt : decide ((r2.1.length : Int) < (r2.1.length : Int)) = false := decide_eq_false (by omega)
      rw [fI, hlt, cond_false]
      unfold qS
      rw [bCa hz, Option.bind_some, cond_true, aJo]; rfl
end Go.Am
