/- Layer 7, plain: who may win a match. -/
import Derived.Test.YtenffgkkeafnpaaBkPlain4
namespace Go.Am

theorem aJo {d : List Int} {must : List (List Int)} {t : aO} {r p : Nat} {n : Int} : n ∈ fT (qX d must t r p) ↔ ∃ a, a < d.length ∧ tB d must t r p a = true ∧ d.getD a 0 = n := by
  rw [(oN _).mem_iff]
  simp only [qX, sA, List.mem_map, List.mem_filter, List.mem_range]
  constructor
  · rintro ⟨a, ⟨h1, h2⟩, h3⟩; exact ⟨a, h1, h2, h3⟩
  · rintro ⟨a, h1, h2, h3⟩; exact ⟨a, ⟨h1, h2⟩, h3⟩
section
variable {t : aO} {l : List aD} {d : List Int} (hg : Good t l d) {must : List (List Int)} (hd : dF t l = some (⟨d, must⟩, true)) (hM : MustIs t must (dC d (Res l)))
include hg hM
/-- Who may win a match. -/
theorem aKx {r p : Nat} (hr : r < t.Rounds.toNat) {n : Int} : n ∈ fT (qX d must t r p) ↔ ∃ a, a < d.length ∧ d.getD a 0 = n ∧ n ≠ -1 ∧ cell a r = ⟨r, p⟩ ∧ iC (dC d (Res l)) (clm d a r) := by
  rw [aJo]
  have hc : ∀ a, cell a r = ⟨r, p⟩ ↔ a / 2 ^ (r + 1) = p := fun a => by simp only [cell, aB.mk.injEq, true_and]; omega
  constructor
  · rintro ⟨a, ha, hb, e⟩
    simp only [tB, Bool.and_eq_true, Bool.not_eq_true', decide_eq_false_iff_not, decide_eq_true_eq] at hb
    exact ⟨a, ha, e, e ▸ hb.1.1, (hc a).2 hb.1.2, (aFc hg.ht hg.dok hM ha hr).1 hb.2⟩
  · rintro ⟨a, ha, e, hn, h1, h2⟩
    refine ⟨a, ha, ?_, e⟩
    simp only [tB, Bool.and_eq_true, Bool.not_eq_true', decide_eq_false_iff_not, decide_eq_true_eq]
    exact ⟨⟨by rw [e]; exact hn, (hc a).1 h1⟩, (aFc hg.ht hg.dok hM ha hr).2 h2⟩
end
end Go.Am
