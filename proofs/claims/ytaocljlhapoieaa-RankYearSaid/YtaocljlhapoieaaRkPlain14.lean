/- What is asked for: both say the same. -/
import Derived.Test.YtaocljlhapoieaaRkPlain13
namespace Go.Am

/-- Sizes that any statement looks at. -/
def Bd (l : aM) : Prop := l.Reports.length ≤ 1000 ∧ l.Bans.length ≤ 1000 ∧ l.Frozen.length ≤ 1000
def pD (l : aM) (p w : Int) : Bool := inB p 0 (l.Players - 1) && inB w 0 400
/-- The error of a question. -/
def aFo (l : aM) (p w : Int) : Int := bif decide (lD l = 0) then (bif pD l p w then 0 else 1) else lD l
theorem GL.bd {l : aM} {z : List aB} (h : GL l z) : Bd l := by have := lR h.led; unfold Bd; omega
theorem GL.players {l : aM} {z : List aB} (h : GL l z) : 1 ≤ l.Players ∧ l.Players ≤ 16 := (lR h.led).1
theorem aFp {l : aM} {p w : Int} (h : aFo l p w = 0) : lD l = 0 ∧ pD l p w = true := by
  unfold aFo at h
  by_cases hc : lD l = 0
  · rw [decide_eq_true hc, cond_true] at h
    refine ⟨hc, ?_⟩
    cases hb : pD l p w with
    | true => rfl
    | false => rw [hb] at h; simp at h
  · rw [decide_eq_false hc, cond_false] at h
    exact absurd h hc
theorem wO {l : aM} {p w : Int} (h : pD l p w = true) : (0 ≤ p ∧ p < l.Players) ∧ (0 ≤ w ∧ w ≤ 400) := by
  unfold pD inB at h
  simp only [Bool.and_eq_true, decide_eq_true_eq] at h
  omega
theorem aIf {l : aM} {z : List aB} (h : GL l z) : sL l = some (some (gK l z), 0) := by
  obtain ⟨h1, h2, h3⟩ := h.bd
  unfold sL
  rw [aIe l (by omega) (by omega) (by omega), Option.bind_some, aFq h, h.once]; rfl
theorem aEg {l : aM} {z : List aB} (h : GL l z) {p w : Int} (ha : pD l p w = true) : nK l p w = some (some (gK l z), 0) := by
  have hP := h.players
  unfold nK
  rw [aIf h, Option.bind_some]
  have e1 : w64 (l.Players - 1) = l.Players - 1 := cR (by omega) (by omega)
  have e2 : (!(decide (0 ≤ p) && decide (p ≤ l.Players - 1)) || !(decide (0 ≤ w) && decide (w ≤ 400))) = false := by
    have := wO ha
    rw [Bool.or_eq_false_iff]
    simp; omega
  simp only [sW, e1, tI, Option.bind_some, fX, e2, cond_false]
  rfl
theorem aGt {l : aM} (hb : Bd l) : mH l = some l := by
  obtain ⟨h1, h2, h3⟩ := hb
  unfold mH
  rw [jG (by simp; omega), Option.bind_some, jG (by simp; omega), Option.bind_some, jG (by simp; omega), Option.bind_some]
  simp
/-- What is too far for a statement. -/
theorem aEu {l : aM} (h : iJ l = some false) : (l.Reports.length ≤ 60 ∧ l.Bans.length ≤ 20 ∧ l.Frozen.length ≤ 20) ∧ (lD l = 0 → l.Players ≤ 5 ∧ l.Reports.length ≤ 10 ∧ ∀ r ∈ l.Reports, r.Week ≤ 150) := by
  unfold iJ at h
  rw [fX, Option.bind_some, fX, Option.bind_some] at h
  cases hf : (decide (60 < (l.Reports.length : Int)) || decide (20 < (l.Bans.length : Int)) || decide (20 < (l.Frozen.length : Int))) with
  | true => rw [hf] at h; simp at h
  | false =>
    simp only [Bool.or_eq_false_iff, decide_eq_false_iff_not] at hf
    refine ⟨by omega, fun hc => ?_⟩
    have hf' : (decide (60 < (l.Reports.length : Int)) || decide (20 < (l.Bans.length : Int)) || decide (20 < (l.Frozen.length : Int))) = false := by simp only [Bool.or_eq_false_iff, decide_eq_false_iff_not]; omega
    rw [hf', cond_false, aBo l (by omega) (by omega) (by omega), Option.bind_some, hc] at h
    simp only [decide_true, Bool.not_true, cond_false] at h
    have main := lS (fun k i => fL l k i) l.Reports.length (fun i => !(fun r : aB => decide (150 < r.Week)) (l.Reports.getD i default)) (some true) (jS l) (fun k i hi => by
      have hlt : decide ((i : Int) < (l.Reports.length : Int)) = true := decide_eq_true (by omega)
      have ei : l.Reports.getD i default = l.Reports[i] := by simp [List.getD, List.getElem?_eq_getElem hi]
      simp only [fL, hlt, cond_true, dF hi, Option.bind_some, cJ (show i < 9223372036854775807 by omega), ei]
      cases decide (150 < l.Reports[i].Week) <;> rfl) (fun k => by
      have hlt : decide ((l.Reports.length : Int) < (l.Reports.length : Int)) = false := decide_eq_false (by omega)
      simp only [fL, hlt, cond_false]) BIG (dA (by omega))
    rw [main, aAg l.Reports (fun r : aB => decide (150 < r.Week))] at h
    cases hw : l.Reports.any fun r => decide (150 < r.Week) with
    | true => rw [hw] at h; simp at h
    | false =>
      rw [hw] at h
      unfold jS at h
      simp only [Bool.not_false, cond_true, fX, Option.bind_some, Option.some.injEq, Bool.or_eq_false_iff, decide_eq_false_iff_not] at h
      refine ⟨by omega, by omega, fun r hr => ?_⟩
      have := List.any_eq_false.1 hw r hr
      simp only [decide_eq_true_eq] at this
      omega
theorem aFs (l : aM) (hb : l.Reports.length ≤ 140737488355328 ∧ l.Bans.length ≤ 140737488355328 ∧ l.Frozen.length ≤ 140737488355328) : ∃ b, iJ l = some b := by
  unfold iJ
  rw [fX, Option.bind_some, fX, Option.bind_some]
  cases hf : (decide (60 < (l.Reports.length : Int)) || decide (20 < (l.Bans.length : Int)) || decide (20 < (l.Frozen.length : Int))) with
  | true => exact ⟨true, rfl⟩
  | false =>
    simp only [Bool.or_eq_false_iff, decide_eq_false_iff_not] at hf
    rw [cond_false, aBo l (by omega) (by omega) (by omega), Option.bind_some]
    cases (!decide (lD l = 0)) with
    | true => exact ⟨false, rfl⟩
    | false =>
      rw [cond_false]
      have main := lS (fun k i => fL l k i) l.Reports.length (fun i => !(fun r : aB => decide (150 < r.Week)) (l.Reports.getD i default)) (some true) (jS l) (fun k i hi => by
        have hlt : decide ((i : Int) < (l.Reports.length : Int)) = true := decide_eq_true (by omega)
        have ei : l.Reports.getD i default = l.Reports[i] := by simp [List.getD, List.getElem?_eq_getElem hi]
        simp only [fL, hlt, cond_true, dF hi, Option.bind_some, cJ (show i < 9223372036854775807 by omega), ei]
        cases decide (150 < l.Reports[i].Week) <;> rfl) (fun k => by
        have hlt : decide ((l.Reports.length : Int) < (l.Reports.length : Int)) = false := decide_eq_false (by omega)
        simp only [fL, hlt, cond_false]) BIG (dA (by omega))
      rw [main]
      unfold jS
      rw [fX, Option.bind_some]
      cases (List.range l.Reports.length).all fun i => !(fun r : aB => decide (150 < r.Week)) (l.Reports.getD i default)
      · exact ⟨_, rfl⟩
      · exact ⟨_, rfl⟩
end Go.Am
