/- What is asked for: both say the same. -/
import Derived.Test.YtaocljlhapoieaaRkPlain13
namespace Go.Am

/-- Sizes that any statement looks at. -/
def Bd (l : aP) : Prop := l.Reports.length ≤ 1000 ∧ l.Bans.length ≤ 1000 ∧ l.Frozen.length ≤ 1000
def tN (l : aP) (p w : Int) : Bool := inB p 0 (l.Players - 1) && inB w 0 400
theorem GL.bd {l : aP} {z : List aC} (h : GL l z) : Bd l := by have := mD h.led; unfold Bd; omega
theorem GL.players {l : aP} {z : List aC} (h : GL l z) : 1 ≤ l.Players ∧ l.Players ≤ 16 := (mD h.led).1
theorem wZ {l : aP} {p w : Int} (h : tN l p w = true) : (0 ≤ p ∧ p < l.Players) ∧ (0 ≤ w ∧ w ≤ 400) := by
  unfold tN inB at h
  simp only [Bool.and_eq_true, decide_eq_true_eq] at h
  omega
theorem aIp {l : aP} {z : List aC} (h : GL l z) : sL l = some (some (gK l z), 0) := by
  obtain ⟨h1, h2, h3⟩ := h.bd
  unfold sL
  rw [aIn l (by omega) (by omega) (by omega), Option.bind_some, aFw h, h.once]; rfl
theorem aEp {l : aP} {z : List aC} (h : GL l z) {p w : Int} (ha : tN l p w = true) : nX l p w = some (some (gK l z), 0) := by
  have hP := h.players
  unfold nX
  rw [aIp h, Option.bind_some]
  have e1 : w64 (l.Players - 1) = l.Players - 1 := cW (by omega) (by omega)
  have e2 : (!(decide (0 ≤ p) && decide (p ≤ l.Players - 1)) || !(decide (0 ≤ w) && decide (w ≤ 400))) = false := by
    have := wZ ha
    rw [Bool.or_eq_false_iff]
    simp; omega
  simp only [sX, e1, tL, Option.bind_some, fO, e2, cond_false]
  rfl
/-- What the functions answer. -/
theorem aFn {l : aP} {z : List aC} (h : GL l z) (hP : l.Players ≤ 12) {w : Int} (hw : 0 ≤ w ∧ w ≤ 400) : qT l w = some (fY l z w, 0) := by
  have hp := h.players
  unfold qT
  rw [aEp h (by unfold tN inB; simp; omega), Option.bind_some]
  simp only [sX, decide_true, Bool.not_true, cond_false, (h.list hw.1 (by omega) hP).1, Option.bind_some]
def vS (n : Int) : Int × Int := bif decide (n = 0) then (0, 3) else (n, 0)
theorem wC {l : aP} {z : List aC} (h : GL l z) (hP : l.Players ≤ 12) {p w : Int} (ha : tN l p w = true) : nW l p w = some (vS (jU (fY l z w) p)) := by
  have hw := (wZ ha).2
  unfold nW vS
  rw [aEp h ha, Option.bind_some]
  simp only [sX, decide_true, Bool.not_true, cond_false, aHs h.rest h.reps h.st (Nat.le_trans h.len (by omega)) hw.1 (by omega) hP, Option.bind_some]
  cases decide (jU (fY l z w) p = 0) <;> rfl
theorem uZ {l : aP} {z : List aC} (h : GL l z) {p w : Int} (ha : tN l p w = true) : nK l p w = some (lR l z p w, 0) := by
  have hw := (wZ ha).2
  unfold nK
  rw [aEp h ha, Option.bind_some]
  simp only [sX, decide_true, Bool.not_true, cond_false, aHt h.rest h.reps h.st (Nat.le_trans h.len (by omega)) hw.1 (by omega), Option.bind_some]
theorem aHa {l : aP} (hb : Bd l) : mO l = some l := by
  obtain ⟨h1, h2, h3⟩ := hb
  unfold mO
  rw [jL (by simp; omega), Option.bind_some, jL (by simp; omega), Option.bind_some, jL (by simp; omega), Option.bind_some]
  simp
/-- What is too far for a statement. -/
theorem aFd {l : aP} (h : iK l = some false) : (l.Reports.length ≤ 60 ∧ l.Bans.length ≤ 20 ∧ l.Frozen.length ≤ 20) ∧ (oA l = 0 → l.Players ≤ 5 ∧ l.Reports.length ≤ 10 ∧ ∀ r ∈ l.Reports, r.Week ≤ 150) := by
  unfold iK at h
  rw [fO, Option.bind_some, fO, Option.bind_some] at h
  cases hf : (decide (60 < (l.Reports.length : Int)) || decide (20 < (l.Bans.length : Int)) || decide (20 < (l.Frozen.length : Int))) with
  | true => rw [hf] at h; simp at h
  | false =>
    simp only [Bool.or_eq_false_iff, decide_eq_false_iff_not] at hf
    refine ⟨by omega, fun hc => ?_⟩
    have hf' : (decide (60 < (l.Reports.length : Int)) || decide (20 < (l.Bans.length : Int)) || decide (20 < (l.Frozen.length : Int))) = false := by simp only [Bool.or_eq_false_iff, decide_eq_false_iff_not]; omega
    rw [hf', cond_false, zK l (by omega) (by omega) (by omega), Option.bind_some, hc] at h
    simp only [decide_true, Bool.not_true, cond_false] at h
    have main := mE (fun k i => fL l k i) l.Reports.length (fun i => !(fun r : aC => decide (150 < r.Week)) (l.Reports.getD i default)) (some true) (jY l) (fun k i hi => by
      have hlt : decide ((i : Int) < (l.Reports.length : Int)) = true := decide_eq_true (by omega)
      have ei : l.Reports.getD i default = l.Reports[i] := by simp [List.getD, List.getElem?_eq_getElem hi]
      simp only [fL, hlt, cond_true, dK hi, Option.bind_some, cP (show i < 9223372036854775807 by omega), ei]
      cases decide (150 < l.Reports[i].Week) <;> rfl) (fun k => by
      have hlt : decide ((l.Reports.length : Int) < (l.Reports.length : Int)) = false := decide_eq_false (by omega)
      simp only [fL, hlt, cond_false]) BIG (dD (by omega))
    rw [main, aAq l.Reports (fun r : aC => decide (150 < r.Week))] at h
    cases hw : l.Reports.any fun r => decide (150 < r.Week) with
    | true => rw [hw] at h; simp at h
    | false =>
      rw [hw] at h
      unfold jY at h
      simp only [Bool.not_false, cond_true, fO, Option.bind_some, Option.some.injEq, Bool.or_eq_false_iff, decide_eq_false_iff_not] at h
      refine ⟨by omega, by omega, fun r hr => ?_⟩
      have := List.any_eq_false.1 hw r hr
      simp only [decide_eq_true_eq] at this
      omega
theorem aFy (l : aP) (hb : l.Reports.length ≤ 140737488355328 ∧ l.Bans.length ≤ 140737488355328 ∧ l.Frozen.length ≤ 140737488355328) : ∃ b, iK l = some b := by
  unfold iK
  rw [fO, Option.bind_some, fO, Option.bind_some]
  cases hf : (decide (60 < (l.Reports.length : Int)) || decide (20 < (l.Bans.length : Int)) || decide (20 < (l.Frozen.length : Int))) with
  | true => exact ⟨true, rfl⟩
  | false =>
    simp only [Bool.or_eq_false_iff, decide_eq_false_iff_not] at hf
    rw [cond_false, zK l (by omega) (by omega) (by omega), Option.bind_some]
    cases (!decide (oA l = 0)) with
    | true => exact ⟨false, rfl⟩
    | false =>
      rw [cond_false]
      have main := mE (fun k i => fL l k i) l.Reports.length (fun i => !(fun r : aC => decide (150 < r.Week)) (l.Reports.getD i default)) (some true) (jY l) (fun k i hi => by
        have hlt : decide ((i : Int) < (l.Reports.length : Int)) = true := decide_eq_true (by omega)
        have ei : l.Reports.getD i default = l.Reports[i] := by simp [List.getD, List.getElem?_eq_getElem hi]
        simp only [fL, hlt, cond_true, dK hi, Option.bind_some, cP (show i < 9223372036854775807 by omega), ei]
        cases decide (150 < l.Reports[i].Week) <;> rfl) (fun k => by
        have hlt : decide ((l.Reports.length : Int) < (l.Reports.length : Int)) = false := decide_eq_false (by omega)
        simp only [fL, hlt, cond_false]) BIG (dD (by omega))
      rw [main]
      unfold jY
      rw [fO, Option.bind_some]
      cases (List.range l.Reports.length).all fun i => !(fun r : aC => decide (150 < r.Week)) (l.Reports.getD i default)
      · exact ⟨_, rfl⟩
      · exact ⟨_, rfl⟩
end Go.Am
