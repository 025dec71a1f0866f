/- What is asked for: both say the same. -/
import Derived.Test.YtaocljlhapoieaaRkPlain13
namespace Go.Am

/-- Sizes that any statement looks at. -/
def Bd (l : aR) : Prop := l.Reports.length ≤ 1000 ∧ l.Bans.length ≤ 1000 ∧ l.Frozen.length ≤ 1000
def yI (l : aR) (p w : Int) : Bool := inB p 0 (l.Players - 1) && inB w 0 400
theorem GL.bd {l : aR} {z : List aD} (h : GL l z) : Bd l := by have := nH h.led; unfold Bd; omega
theorem GL.players {l : aR} {z : List aD} (h : GL l z) : 1 ≤ l.Players ∧ l.Players ≤ 16 := (nH h.led).1
theorem wO {l : aR} {p w : Int} (h : yI l p w = true) : (0 ≤ p ∧ p < l.Players) ∧ (0 ≤ w ∧ w ≤ 400) := by
  unfold yI inB at h
  simp only [Bool.and_eq_true, decide_eq_true_eq] at h
  omega
theorem aIf {l : aR} {z : List aD} (h : GL l z) : sJ l = some (some (gM l z), 0) := by
  obtain ⟨h1, h2, h3⟩ := h.bd
  unfold sJ
  rw [aIe l (by omega) (by omega) (by omega), Option.bind_some, aFo h, h.once]; rfl
theorem aGi {l : aR} {z : List aD} (h : GL l z) {p w : Int} (ha : yI l p w = true) : nM l p w = some (some (gM l z), 0) := by
  have hP := h.players
  unfold nM
  rw [aIf h, Option.bind_some]
  have e1 : w64 (l.Players - 1) = l.Players - 1 := cV (by omega) (by omega)
  have e2 : (!(decide (0 ≤ p) && decide (p ≤ l.Players - 1)) || !(decide (0 ≤ w) && decide (w ≤ 400))) = false := by
    have := wO ha
    rw [Bool.or_eq_false_iff]
    simp; omega
  simp only [tO, e1, tD, Option.bind_some, fP, e2, cond_false]
  rfl
theorem aCy {l : aR} {z : List aD} (h : GL l z) {p w : Int} (ha : yI l p w = true) : pR l p w = some (uO l z p w, 0) := by
  have hw := (wO ha).2
  unfold pR
  rw [aGi h ha, Option.bind_some]
  simp only [tO, decide_true, Bool.not_true, cond_false, aHl h.rest h.reps h.st (Nat.le_trans h.len (by omega)) hw.1 (by omega), Option.bind_some]
/-- What is too far for a statement. -/
theorem aEw {l : aR} (h : iN l = some false) : (l.Reports.length ≤ 60 ∧ l.Bans.length ≤ 20 ∧ l.Frozen.length ≤ 20) ∧ (oK l = 0 → l.Players ≤ 5 ∧ l.Reports.length ≤ 10 ∧ ∀ r ∈ l.Reports, r.Week ≤ 150) := by
  unfold iN at h
  rw [fP, Option.bind_some, fP, Option.bind_some] at h
  cases hf : (decide (60 < (l.Reports.length : Int)) || decide (20 < (l.Bans.length : Int)) || decide (20 < (l.Frozen.length : Int))) with
  | true => rw [hf] at h; simp at h
  | false =>
    simp only [Bool.or_eq_false_iff, decide_eq_false_iff_not] at hf
    refine ⟨by omega, fun hc => ?_⟩
    have hf' : (decide (60 < (l.Reports.length : Int)) || decide (20 < (l.Bans.length : Int)) || decide (20 < (l.Frozen.length : Int))) = false := by simp only [Bool.or_eq_false_iff, decide_eq_false_iff_not]; omega
    rw [hf', cond_false, aBu l (by omega) (by omega) (by omega), Option.bind_some, hc] at h
    simp only [decide_true, Bool.not_true, cond_false] at h
    have main := lX (fun k i => fQ l k i) l.Reports.length (fun i => !(fun r : aD => decide (150 < r.Week)) (l.Reports.getD i default)) (some true) (jV l) (fun k i hi => by
      have hlt : decide ((i : Int) < (l.Reports.length : Int)) = true := decide_eq_true (by omega)
      have ei : l.Reports.getD i default = l.Reports[i] := by simp [List.getD, List.getElem?_eq_getElem hi]
      simp only [fQ, hlt, cond_true, dL hi, Option.bind_some, cN (show i < 9223372036854775807 by omega), ei]
      cases decide (150 < l.Reports[i].Week) <;> rfl) (fun k => by
      have hlt : decide ((l.Reports.length : Int) < (l.Reports.length : Int)) = false := decide_eq_false (by omega)
      simp only [fQ, hlt, cond_false]) BIG (dG (by omega))
    rw [main, aAg l.Reports (fun r : aD => decide (150 < r.Week))] at h
    cases hw : l.Reports.any fun r => decide (150 < r.Week) with
    | true => rw [hw] at h; simp at h
    | false =>
      rw [hw] at h
      unfold jV at h
      simp only [Bool.not_false, cond_true, fP, Option.bind_some, Option.some.injEq, Bool.or_eq_false_iff, decide_eq_false_iff_not] at h
      refine ⟨by omega, by omega, fun r hr => ?_⟩
      have := List.any_eq_false.1 hw r hr
      simp only [decide_eq_true_eq] at this
      omega
theorem aFq (l : aR) (hb : l.Reports.length ≤ 140737488355328 ∧ l.Bans.length ≤ 140737488355328 ∧ l.Frozen.length ≤ 140737488355328) : ∃ b, iN l = some b := by
  unfold iN
  rw [fP, Option.bind_some, fP, Option.bind_some]
  cases hf : (decide (60 < (l.Reports.length : Int)) || decide (20 < (l.Bans.length : Int)) || decide (20 < (l.Frozen.length : Int))) with
  | true => exact ⟨true, rfl⟩
  | false =>
    simp only [Bool.or_eq_false_iff, decide_eq_false_iff_not] at hf
    rw [cond_false, aBu l (by omega) (by omega) (by omega), Option.bind_some]
    cases (!decide (oK l = 0)) with
    | true => exact ⟨false, rfl⟩
    | false =>
      rw [cond_false]
      have main := lX (fun k i => fQ l k i) l.Reports.length (fun i => !(fun r : aD => decide (150 < r.Week)) (l.Reports.getD i default)) (some true) (jV l) (fun k i hi => by
        have hlt : decide ((i : Int) < (l.Reports.length : Int)) = true := decide_eq_true (by omega)
        have ei : l.Reports.getD i default = l.Reports[i] := by simp [List.getD, List.getElem?_eq_getElem hi]
        simp only [fQ, hlt, cond_true, dL hi, Option.bind_some, cN (show i < 9223372036854775807 by omega), ei]
        cases decide (150 < l.Reports[i].Week) <;> rfl) (fun k => by
        have hlt : decide ((l.Reports.length : Int) < (l.Reports.length : Int)) = false := decide_eq_false (by omega)
        simp only [fQ, hlt, cond_false]) BIG (dG (by omega))
      rw [main]
      unfold jV
      rw [fP, Option.bind_some]
      cases (List.range l.Reports.length).all fun i => !(fun r : aD => decide (150 < r.Week)) (l.Reports.getD i default)
      · exact ⟨_, rfl⟩
      · exact ⟨_, rfl⟩
end Go.Am
