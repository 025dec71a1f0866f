/- Cut, Needs and When are those of the document, plainly. -/
import Derived.Test.YtfdappeickbpeaaGreatEnPlain44
namespace Go.Am
theorem yO (f : aT) (l : List aO) (x : pP) (_ : aIc f) (_ : (okL aBc) l) (_ : yK x) : oG f l x = some true := by
 unfold oG
 rw [aYq, Option.bind_some, aOd]
 cases hb : (decide (20 < (l.length : Int)) && decide ((l.length : Int) ≤ 60)) || decide (100 < (l.length : Int)) with
 | true => rfl
 | false =>
  have hb2 := hb
  rw [Bool.or_eq_false_iff, decide_eq_false_iff_not] at hb
  have hl : l.length ≤ 100 := by omega
  have hl2 : l.length ≤ 20 ∨ 60 < l.length := by
   have h1 := hb.1
   by_cases h2 : l.length ≤ 20
   ·exact .inl h2
   ·rw [decide_eq_true (show (20 : Int) < (l.length : Int) by omega), Bool.true_and, decide_eq_false_iff_not] at h1
    exact .inr (by omega)
  obtain ⟨v1, c1, c2⟩ := aUb f l x.Hour
  obtain ⟨v2, n1, n2⟩ := aQr f l hl2 x.Hour x.Player
  obtain ⟨v3, w1, w2⟩ := aTr f l x.Player
  rw [cond_false, fR (by simp; omega), Option.bind_some, List.nil_append, c1, c2, n1, n2, w1, w2]
  simp
end Go.Am
