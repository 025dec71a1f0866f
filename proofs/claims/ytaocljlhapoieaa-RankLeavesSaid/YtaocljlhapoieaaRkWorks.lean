/- Plain laws, one behind the other. -/
import Derived.Test.YtaocljlhapoieaaRkPlain13
import Derived.Test.YtaocljlhapoieaaRkSh
import Derived.KernelRfl
section
namespace Go.Am

/-- Sizes that any statement looks at. -/
def Bd (l : aM) : Prop := l.Reports.length ≤ 1000 ∧ l.Bans.length ≤ 1000 ∧ l.Frozen.length ≤ 1000
def qQ (l : aM) (p w : Int) : Bool := inB p 0 (l.Players - 1) && inB w 0 400
/-- The error of a question. -/
def aFu (l : aM) (p w : Int) : Int := bif decide (lJ l = 0) then (bif qQ l p w then 0 else 1) else lJ l
theorem GL.bd {l : aM} {z : List aB} (h : GL l z) : Bd l := by have := nK h.led; unfold Bd; omega
theorem GL.players {l : aM} {z : List aB} (h : GL l z) : 1 ≤ l.Players ∧ l.Players ≤ 16 := (nK h.led).1
theorem aFv {l : aM} {p w : Int} (h : aFu l p w = 0) : lJ l = 0 ∧ qQ l p w = true := by
  unfold aFu at h
  by_cases hc : lJ l = 0
  · rw [decide_eq_true hc, cond_true] at h
    refine ⟨hc, ?_⟩
    cases hb : qQ l p w with
    | true => rfl
    | false => rw [hb] at h; simp at h
  · rw [decide_eq_false hc, cond_false] at h
    exact absurd h hc
theorem wR {l : aM} {p w : Int} (h : qQ l p w = true) : (0 ≤ p ∧ p < l.Players) ∧ (0 ≤ w ∧ w ≤ 400) := by
  unfold qQ inB at h
  simp only [Bool.and_eq_true, decide_eq_true_eq] at h
  omega
theorem aIl {l : aM} {z : List aB} (h : GL l z) : sM l = some (some (gO l z), 0) := by
  obtain ⟨h1, h2, h3⟩ := h.bd
  unfold sM
  rw [aIk l (by omega) (by omega) (by omega), Option.bind_some, aFx h, h.once]; rfl
theorem aEo {l : aM} {z : List aB} (h : GL l z) {p w : Int} (ha : qQ l p w = true) : nQ l p w = some (some (gO l z), 0) := by
  have hP := h.players
  unfold nQ
  rw [aIl h, Option.bind_some]
  have e1 : w64 (l.Players - 1) = l.Players - 1 := cW (by omega) (by omega)
  have e2 : (!(decide (0 ≤ p) && decide (p ≤ l.Players - 1)) || !(decide (0 ≤ w) && decide (w ≤ 400))) = false := by
    have := wR ha
    rw [Bool.or_eq_false_iff]
    simp; omega
  simp only [sX, e1, tK, Option.bind_some, gG, e2, cond_false]
  rfl
/-- What the functions answer. -/
theorem aBa {l : aM} {z : List aB} (h : GL l z) (hP : l.Players ≤ 12) {w : Int} (hw : 0 ≤ w ∧ w ≤ 400) : nM l w = some (oJ l z w, 0) := by
  have hp := h.players
  unfold nM
  rw [aEo h (by unfold qQ inB; simp; omega), Option.bind_some]
  simp only [sX, decide_true, Bool.not_true, cond_false, (h.list hw.1 (by omega) hP).1, Option.bind_some]
theorem yH {l : aM} {z : List aB} (h : GL l z) {p w : Int} (ha : qQ l p w = true) : nD l p w = some (qY l z p w, 0) := by
  have hw := (wR ha).2
  unfold nD
  rw [aEo h ha, Option.bind_some]
  simp only [sX, decide_true, Bool.not_true, cond_false, aHr h.rest h.reps h.st (Nat.le_trans h.len (by omega)) hw.1 (by omega), Option.bind_some]
/-- What is too far for a statement. -/
theorem aFd {l : aM} (h : iJ l = some false) : (l.Reports.length ≤ 60 ∧ l.Bans.length ≤ 20 ∧ l.Frozen.length ≤ 20) ∧ (lJ l = 0 → l.Players ≤ 5 ∧ l.Reports.length ≤ 10 ∧ ∀ r ∈ l.Reports, r.Week ≤ 150) := by
  unfold iJ at h
  rw [gG, Option.bind_some, gG, Option.bind_some] at h
  cases hf : (decide (60 < (l.Reports.length : Int)) || decide (20 < (l.Bans.length : Int)) || decide (20 < (l.Frozen.length : Int))) with
  | true => rw [hf] at h; simp at h
  | false =>
    simp only [Bool.or_eq_false_iff, decide_eq_false_iff_not] at hf
    refine ⟨by omega, fun hc => ?_⟩
    have hf' : (decide (60 < (l.Reports.length : Int)) || decide (20 < (l.Bans.length : Int)) || decide (20 < (l.Frozen.length : Int))) = false := by simp only [Bool.or_eq_false_iff, decide_eq_false_iff_not]; omega
    rw [hf', cond_false, aBx l (by omega) (by omega) (by omega), Option.bind_some, hc] at h
    simp only [decide_true, Bool.not_true, cond_false] at h
    have main := jO (fun k i => fK l k i) l.Reports.length (fun i => !(fun r : aB => decide (150 < r.Week)) (l.Reports.getD i default)) (some true) (jU l) (fun k i hi => by
      have hlt : decide ((i : Int) < (l.Reports.length : Int)) = true := decide_eq_true (by omega)
      have ei : l.Reports.getD i default = l.Reports[i] := by simp [List.getD, List.getElem?_eq_getElem hi]
      simp only [fK, hlt, cond_true, dD hi, Option.bind_some, cF (show i < 9223372036854775807 by omega), ei]
      cases decide (150 < l.Reports[i].Week) <;> rfl) (fun k => by
      have hlt : decide ((l.Reports.length : Int) < (l.Reports.length : Int)) = false := decide_eq_false (by omega)
      simp only [fK, hlt, cond_false]) BIG (dB (by omega))
    rw [main, aAm l.Reports (fun r : aB => decide (150 < r.Week))] at h
    cases hw : l.Reports.any fun r => decide (150 < r.Week) with
    | true => rw [hw] at h; simp at h
    | false =>
      rw [hw] at h
      unfold jU at h
      simp only [Bool.not_false, cond_true, gG, Option.bind_some, Option.some.injEq, Bool.or_eq_false_iff, decide_eq_false_iff_not] at h
      refine ⟨by omega, by omega, fun r hr => ?_⟩
      have := List.any_eq_false.1 hw r hr
      simp only [decide_eq_true_eq] at this
      omega
theorem aFz (l : aM) (hb : l.Reports.length ≤ 140737488355328 ∧ l.Bans.length ≤ 140737488355328 ∧ l.Frozen.length ≤ 140737488355328) : ∃ b, iJ l = some b := by
  unfold iJ
  rw [gG, Option.bind_some, gG, Option.bind_some]
  cases hf : (decide (60 < (l.Reports.length : Int)) || decide (20 < (l.Bans.length : Int)) || decide (20 < (l.Frozen.length : Int))) with
  | true => exact ⟨true, rfl⟩
  | false =>
    simp only [Bool.or_eq_false_iff, decide_eq_false_iff_not] at hf
    rw [cond_false, aBx l (by omega) (by omega) (by omega), Option.bind_some]
    cases (!decide (lJ l = 0)) with
    | true => exact ⟨false, rfl⟩
    | false =>
      rw [cond_false]
      have main := jO (fun k i => fK l k i) l.Reports.length (fun i => !(fun r : aB => decide (150 < r.Week)) (l.Reports.getD i default)) (some true) (jU l) (fun k i hi => by
        have hlt : decide ((i : Int) < (l.Reports.length : Int)) = true := decide_eq_true (by omega)
        have ei : l.Reports.getD i default = l.Reports[i] := by simp [List.getD, List.getElem?_eq_getElem hi]
        simp only [fK, hlt, cond_true, dD hi, Option.bind_some, cF (show i < 9223372036854775807 by omega), ei]
        cases decide (150 < l.Reports[i].Week) <;> rfl) (fun k => by
        have hlt : decide ((l.Reports.length : Int) < (l.Reports.length : Int)) = false := decide_eq_false (by omega)
        simp only [fK, hlt, cond_false]) BIG (dB (by omega))
      rw [main]
      unfold jU
      rw [gG, Option.bind_some]
      cases (List.range l.Reports.length).all fun i => !(fun r : aB => decide (150 < r.Week)) (l.Reports.getD i default)
      · exact ⟨_, rfl⟩
      · exact ⟨_, rfl⟩
end Go.Am

end
section
namespace Go.Am

end Go.Am

end
section
namespace Go.Am

section del
end del

end Go.Am

end
section
namespace Go.Am
theorem yL : kG = some true := by kernel_rfl
end Go.Am

end
