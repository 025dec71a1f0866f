/- What is asked for: both say the same. -/
import Derived.Test.YtaocljlhapoieaaRkPlain13
namespace Go.Am

/-- Sizes that any statement looks at. -/
def Bd (l : aS) : Prop := l.Reports.length ≤ 1000 ∧ l.Bans.length ≤ 1000 ∧ l.Frozen.length ≤ 1000
def uW (l : aS) (p w : Int) : Bool := inB p 0 (l.Players - 1) && inB w 0 400
theorem GL.bd {l : aS} {z : List aB} (h : GL l z) : Bd l := by have := mT h.led; unfold Bd; omega
theorem GL.players {l : aS} {z : List aB} (h : GL l z) : 1 ≤ l.Players ∧ l.Players ≤ 16 := (mT h.led).1
theorem wC {l : aS} {p w : Int} (h : uW l p w = true) : (0 ≤ p ∧ p < l.Players) ∧ (0 ≤ w ∧ w ≤ 400) := by
  unfold uW inB at h
  simp only [Bool.and_eq_true, decide_eq_true_eq] at h
  omega
theorem aHh {l : aS} {z : List aB} (h : GL l z) : rX l = some (some (gC l z), 0) := by
  obtain ⟨h1, h2, h3⟩ := h.bd
  unfold rX
  rw [aHg l (by omega) (by omega) (by omega), Option.bind_some, aEt h, h.once]; rfl
theorem aFm {l : aS} {z : List aB} (h : GL l z) {p w : Int} (ha : uW l p w = true) : oG l p w = some (some (gC l z), 0) := by
  have hP := h.players
  unfold oG
  rw [aHh h, Option.bind_some]
  have e1 : w64 (l.Players - 1) = l.Players - 1 := cR (by omega) (by omega)
  have e2 : (!(decide (0 ≤ p) && decide (p ≤ l.Players - 1)) || !(decide (0 ≤ w) && decide (w ≤ 400))) = false := by
    have := wC ha
    rw [Bool.or_eq_false_iff]
    simp; omega
  simp only [uF, e1, sT, Option.bind_some, fI, e2, cond_false]
  rfl
theorem xU {l : aS} {z : List aB} (h : GL l z) {p w : Int} (ha : uW l p w = true) : nM l p w = some (kM l z p w, 0) := by
  have hw := (wC ha).2
  unfold nM
  rw [aFm h ha, Option.bind_some]
  simp only [uF, decide_true, Bool.not_true, cond_false, zM h.rest h.reps h.st (Nat.le_trans h.len (by omega)) hw.1 (by omega), Option.bind_some]
/-- What is too far for a statement. -/
theorem aEa {l : aS} (h : iB l = some false) : (l.Reports.length ≤ 60 ∧ l.Bans.length ≤ 20 ∧ l.Frozen.length ≤ 20) ∧ (oB l = 0 → l.Players ≤ 5 ∧ l.Reports.length ≤ 10 ∧ ∀ r ∈ l.Reports, r.Week ≤ 150) := by
  unfold iB at h
  rw [fI, Option.bind_some, fI, Option.bind_some] at h
  cases hf : (decide (60 < (l.Reports.length : Int)) || decide (20 < (l.Bans.length : Int)) || decide (20 < (l.Frozen.length : Int))) with
  | true => rw [hf] at h; simp at h
  | false =>
    simp only [Bool.or_eq_false_iff, decide_eq_false_iff_not] at hf
    refine ⟨by omega, fun hc => ?_⟩
    have hf' : (decide (60 < (l.Reports.length : Int)) || decide (20 < (l.Bans.length : Int)) || decide (20 < (l.Frozen.length : Int))) = false := by simp only [Bool.or_eq_false_iff, decide_eq_false_iff_not]; omega
    rw [hf', cond_false, aAz l (by omega) (by omega) (by omega), Option.bind_some, hc] at h
    simp only [decide_true, Bool.not_true, cond_false] at h
    have main := lP (fun k i => fG l k i) l.Reports.length (fun i => !(fun r : aB => decide (150 < r.Week)) (l.Reports.getD i default)) (some true) (jI l) (fun k i hi => by
      have hlt : decide ((i : Int) < (l.Reports.length : Int)) = true := decide_eq_true (by omega)
      have ei : l.Reports.getD i default = l.Reports[i] := by simp [List.getD, List.getElem?_eq_getElem hi]
      simp only [fG, hlt, cond_true, dK hi, Option.bind_some, cE (show i < 9223372036854775807 by omega), ei]
      cases decide (150 < l.Reports[i].Week) <;> rfl) (fun k => by
      have hlt : decide ((l.Reports.length : Int) < (l.Reports.length : Int)) = false := decide_eq_false (by omega)
      simp only [fG, hlt, cond_false]) BIG (dB (by omega))
    rw [main, zP l.Reports (fun r : aB => decide (150 < r.Week))] at h
    cases hw : l.Reports.any fun r => decide (150 < r.Week) with
    | true => rw [hw] at h; simp at h
    | false =>
      rw [hw] at h
      unfold jI at h
      simp only [Bool.not_false, cond_true, fI, Option.bind_some, Option.some.injEq, Bool.or_eq_false_iff, decide_eq_false_iff_not] at h
      refine ⟨by omega, by omega, fun r hr => ?_⟩
      have := List.any_eq_false.1 hw r hr
      simp only [decide_eq_true_eq] at this
      omega
theorem aEv (l : aS) (hb : l.Reports.length ≤ 140737488355328 ∧ l.Bans.length ≤ 140737488355328 ∧ l.Frozen.length ≤ 140737488355328) : ∃ b, iB l = some b := by
  unfold iB
  rw [fI, Option.bind_some, fI, Option.bind_some]
  cases hf : (decide (60 < (l.Reports.length : Int)) || decide (20 < (l.Bans.length : Int)) || decide (20 < (l.Frozen.length : Int))) with
  | true => exact ⟨true, rfl⟩
  | false =>
    simp only [Bool.or_eq_false_iff, decide_eq_false_iff_not] at hf
    rw [cond_false, aAz l (by omega) (by omega) (by omega), Option.bind_some]
    cases (!decide (oB l = 0)) with
    | true => exact ⟨false, rfl⟩
    | false =>
      rw [cond_false]
      have main := lP (fun k i => fG l k i) l.Reports.length (fun i => !(fun r : aB => decide (150 < r.Week)) (l.Reports.getD i default)) (some true) (jI l) (fun k i hi => by
        have hlt : decide ((i : Int) < (l.Reports.length : Int)) = true := decide_eq_true (by omega)
        have ei : l.Reports.getD i default = l.Reports[i] := by simp [List.getD, List.getElem?_eq_getElem hi]
        simp only [fG, hlt, cond_true, dK hi, Option.bind_some, cE (show i < 9223372036854775807 by omega), ei]
        cases decide (150 < l.Reports[i].Week) <;> rfl) (fun k => by
        have hlt : decide ((l.Reports.length : Int) < (l.Reports.length : Int)) = false := decide_eq_false (by omega)
        simp only [fG, hlt, cond_false]) BIG (dB (by omega))
      rw [main]
      unfold jI
      rw [fI, Option.bind_some]
      cases (List.range l.Reports.length).all fun i => !(fun r : aB => decide (150 < r.Week)) (l.Reports.getD i default)
      · exact ⟨_, rfl⟩
      · exact ⟨_, rfl⟩
end Go.Am
