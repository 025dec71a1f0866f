/- The plain law PurseMerges. -/
import Derived.Test.YtoflekecpkjghaaGreatPpPlain16
namespace Go.Am

theorem zU (p : aM) (s : List aF) (x : List aG) (_ : aMl p) (_ : okL aDj s) (_ : okL aDi x) : oA p s x = some true := by
  unfold oA
  rcases bAo p with h | ⟨h, hn⟩
  · rw [h, Option.bind_some, cond_true, Option.bind_some, cond_true, Option.bind_some, cond_true, aCt, Option.bind_some]
  · have hz := hn.sz
    rw [h, Option.bind_some, cond_false, Option.bind_some, eJ, Option.bind_some]
    cases hb : (decide (20 < (s.length : Int)) || decide (60 < (x.length : Int))) with
    | true => rw [cond_true, aCt, Option.bind_some]
    | false =>
      simp only [Bool.or_eq_false_iff, decide_eq_false_iff_not] at hb
      obtain ⟨n1, n2, n3, n4, n5, n6, n7⟩ := hn
      have hm : Sz (tR p s x) := ⟨by show p.Tree.Slots.length ≤ 1000; omega, by show (p.Slips ++ s).length ≤ 1000; simp; omega, by show p.Prizes.length ≤ 1000; omega, by show p.Teams.length ≤ 1000; omega, by show p.Levies.length ≤ 1000; omega, by show p.Rates.length ≤ 1000; omega, by show (p.Items ++ x).length ≤ 1000; simp; omega⟩
      have d0 : ∀ n : Int, decide (n = n) = true := fun n => decide_eq_true rfl
      rw [cond_false, aYm hz, Option.bind_some, eK (by simp; omega), Option.bind_some, eK (by simp; omega), Option.bind_some, List.nil_append, List.nil_append, bAz hz hm, Option.bind_some, bAd hz hm, Option.bind_some, bBt (aXp hm), Option.bind_some, d0, cond_true, Option.bind_some, cond_true, aCt]
      rfl
end Go.Am
