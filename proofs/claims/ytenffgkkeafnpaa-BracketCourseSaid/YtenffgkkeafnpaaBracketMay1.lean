/- Layer 7, plain: who may win a match. -/
import Derived.Test.YtenffgkkeafnpaaBkPlain4
namespace Go.Am

theorem aKk {d : List Int} {must : List (List Int)} {t : aT} {r p : Nat} {n : Int} : n ∈ fW (rD d must t r p) ↔ ∃ a, a < d.length ∧ tY d must t r p a = true ∧ d.getD a 0 = n := by
  rw [(pH _).mem_iff]
  simp only [rD, tC, List.mem_map, List.mem_filter, List.mem_range]
  constructor
  · rintro ⟨a, ⟨h1, h2⟩, h3⟩; exact ⟨a, h1, h2, h3⟩
  · rintro ⟨a, h1, h2, h3⟩; exact ⟨a, ⟨h1, h2⟩, h3⟩
section
variable {t : aT} {l : List aI} {d : List Int} (hg : Good t l d) {must : List (List Int)} (hd : dA t l = some (⟨d, must⟩, true)) (hM : MustIs t must (eR d (Res l)))
include hg hM
/-- Who may win a match. -/
theorem aLp {r p : Nat} (hr : r < t.Rounds.toNat) {n : Int} : n ∈ fW (rD d must t r p) ↔ ∃ a, a < d.length ∧ d.getD a 0 = n ∧ n ≠ -1 ∧ cell a r = ⟨r, p⟩ ∧ mV (eR d (Res l)) (clm d a r) := by
  rw [aKk]
  have hc : ∀ a, cell a r = ⟨r, p⟩ ↔ a / 2 ^ (r + 1) = p := fun a => by simp only [cell, aF.mk.injEq, true_and]; omega
  constructor
  · rintro ⟨a, ha, hb, e⟩
    simp only [tY, Bool.and_eq_true, Bool.not_eq_true', decide_eq_false_iff_not, decide_eq_true_eq] at hb
    exact ⟨a, ha, e, e ▸ hb.1.1, (hc a).2 hb.1.2, (aGd hg.ht hg.dok hM ha hr).1 hb.2⟩
  · rintro ⟨a, ha, e, hn, h1, h2⟩
    refine ⟨a, ha, ?_, e⟩
    simp only [tY, Bool.and_eq_true, Bool.not_eq_true', decide_eq_false_iff_not, decide_eq_true_eq]
    exact ⟨⟨by rw [e]; exact hn, (hc a).1 h1⟩, (aGd hg.ht hg.dok hM ha hr).2 h2⟩
end
end Go.Am
