/- The plain law RankDefends. -/
import Derived.Test.YtaocljlhapoieaaRkWorks
namespace Go.Am

/-- What a statement looks at. -/
structure Look (l : aH) (z : List aB) (p w : Int) : Prop where
  gl : GL l z
  pl : l.Players ≤ 5
  rl : l.Reports.length ≤ 10
  wk : ∀ r ∈ l.Reports, r.Week ≤ 150
  p0 : 0 ≤ p ∧ p < l.Players
  w0 : 0 ≤ w ∧ w ≤ 250
theorem aGh (l : aH) (p w : Int) (hb : l.Reports.length ≤ maxLen ∧ l.Bans.length ≤ maxLen ∧ l.Frozen.length ≤ maxLen) : jZ l p w = some false ∨ jZ l p w = some true ∧ ∃ z, Look l z p w := by
  unfold maxLen at hb
  obtain ⟨b, hf⟩ : ∃ b, iD l = some b := by
    by_cases h : l.Reports.length ≤ 140737488355328 ∧ l.Bans.length ≤ 140737488355328 ∧ l.Frozen.length ≤ 140737488355328
    · exact aHp l h
    · unfold iD
      rw [eL, Option.bind_some, eL, Option.bind_some]
      have : (decide (60 < (l.Reports.length : Int)) || decide (20 < (l.Bans.length : Int)) || decide (20 < (l.Frozen.length : Int))) = true := by simp only [Bool.or_eq_true, decide_eq_true_eq]; omega
      rw [this]; exact ⟨true, rfl⟩
  unfold jZ
  rw [hf, Option.bind_some]
  cases b with
  | true => left; simp
  | false =>
    obtain ⟨h1, h2⟩ := aGo hf
    rw [aDi l (by omega) (by omega) (by omega), Option.bind_some]
    simp only [Bool.not_false, cond_true, Option.bind_some, fW]
    cases hv : (decide (fZ l = 0) && decide (0 ≤ p) && decide (p < l.Players) && decide (0 ≤ w) && decide (w ≤ 250)) with
    | false => left; rfl
    | true =>
      right
      refine ⟨rfl, ?_⟩
      simp only [Bool.and_eq_true, decide_eq_true_eq] at hv
      obtain ⟨z, hz⟩ := aAn hv.1.1.1.1
      obtain ⟨h3, h4, h5⟩ := h2 hv.1.1.1.1
      exact ⟨z, hz, h3, h4, h5, ⟨by omega, by omega⟩, by omega, by omega⟩
theorem Look.arg {l : aH} {z : List aB} {p w : Int} (h : Look l z p w) : tD l p w = true := by
  have := h.p0; have := h.w0
  unfold tD inB
  simp; omega
end Go.Am
