/- Layer 7, plain: who may win a match. -/
import Derived.Test.YtenffgkkeafnpaaBkPlain4
namespace Go.Am

theorem aIn {d : List Int} {must : List (List Int)} {t : aO} {r p : Nat} {n : Int} : n ∈ eZ (mY d must t r p) ↔ ∃ a, a < d.length ∧ oT d must t r p a = true ∧ d.getD a 0 = n := by
  rw [(mL _).mem_iff]
  simp only [mY, qN, List.mem_map, List.mem_filter, List.mem_range]
  constructor
  · rintro ⟨a, ⟨h1, h2⟩, h3⟩; exact ⟨a, h1, h2, h3⟩
  · rintro ⟨a, h1, h2, h3⟩; exact ⟨a, ⟨h1, h2⟩, h3⟩
theorem aFh {t : aO} {d : List Int} (hD : DOK t d) (must : List (List Int)) (r p : Nat) : (eZ (mY d must t r p)).Nodup := by
  rw [(mL _).nodup_iff]
  unfold mY qN
  have h0 : ((List.range d.length).filter (oT d must t r p)).Nodup := List.nodup_range.filter _
  refine List.Pairwise.map _ ?_ (h0.imp_of_mem (S := fun x y => (x < d.length ∧ oT d must t r p x = true) ∧ (y < d.length ∧ oT d must t r p y = true) ∧ x ≠ y) fun hx hy h => ?_)
  · rintro x y ⟨⟨hx, bx⟩, ⟨hy, _⟩, hne⟩ e
    simp only [oT, Bool.and_eq_true, Bool.not_eq_true', decide_eq_false_iff_not] at bx
    exact hne (hD.uni hx hy e bx.1.1)
  · simp only [List.mem_filter, List.mem_range] at hx hy
    exact ⟨hx, hy, h⟩
theorem aKi {l : List Int} (hs : Srt l) (hn : l.Nodup) {i : Nat} (hi : i + 1 < l.length) : l[i] < l[i + 1] := by
  unfold Srt at hs
  rw [List.pairwise_iff_getElem] at hs
  have h1 := hs i (i + 1) (by omega) hi (by omega)
  have h2 : l[i] ≠ l[i + 1] := fun e => by have := (List.getElem_inj hn).1 e; omega
  omega

section
variable {t : aO} {l : List aD} {d : List Int} (hg : Good t l d) {must : List (List Int)} (hd : cY t l = some (⟨d, must⟩, true)) (hM : MustIs t must (eR d (Res l)))
include hg hM
/-- Who may win a match. -/
theorem aAg {r p : Nat} (hr : r < t.Rounds.toNat) {n : Int} : n ∈ eZ (mY d must t r p) ↔ ∃ a, a < d.length ∧ d.getD a 0 = n ∧ n ≠ -1 ∧ cell a r = ⟨r, p⟩ ∧ lB (eR d (Res l)) (clm d a r) := by
  rw [aIn]
  have hc : ∀ a, cell a r = ⟨r, p⟩ ↔ a / 2 ^ (r + 1) = p := fun a => by simp only [cell, aB.mk.injEq, true_and]; omega
  constructor
  · rintro ⟨a, ha, hb, e⟩
    simp only [oT, Bool.and_eq_true, Bool.not_eq_true', decide_eq_false_iff_not, decide_eq_true_eq] at hb
    exact ⟨a, ha, e, e ▸ hb.1.1, (hc a).2 hb.1.2, (aEi hg.ht hg.dok hM ha hr).1 hb.2⟩
  · rintro ⟨a, ha, e, hn, h1, h2⟩
    refine ⟨a, ha, ?_, e⟩
    simp only [oT, Bool.and_eq_true, Bool.not_eq_true', decide_eq_false_iff_not, decide_eq_true_eq]
    exact ⟨⟨by rw [e]; exact hn, (hc a).1 h1⟩, (aEi hg.ht hg.dok hM ha hr).2 h2⟩
end
end Go.Am
