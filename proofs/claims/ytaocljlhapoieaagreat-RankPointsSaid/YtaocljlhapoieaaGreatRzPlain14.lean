/- What is asked for: both say the same. -/
import Derived.Test.YtaocljlhapoieaaGreatRzPlain13
namespace Go.Am

/-- Sizes that any statement looks at. -/
def Bd (l : aS) : Prop := l.Reports.length ≤ 1000 ∧ l.Bans.length ≤ 1000 ∧ l.Frozen.length ≤ 1000
def oI (l : aS) (p w : Int) : Bool := inB p 0 (l.Players - 1) && inB w 0 400
/-- The error of a question. -/
def jC (l : aS) (p w : Int) : Int := bif decide (hJ l = 0) then (bif oI l p w then 0 else 1) else hJ l
theorem GL.bd {l : aS} {z : List aD} (h : GL l z) : Bd l := by have := nO h.led; unfold Bd; omega
theorem GL.players {l : aS} {z : List aD} (h : GL l z) : 1 ≤ l.Players ∧ l.Players ≤ 16 := (nO h.led).1
theorem aFu {l : aS} {p w : Int} (h : jC l p w = 0) : hJ l = 0 ∧ oI l p w = true := by
  unfold jC at h
  by_cases hc : hJ l = 0
  · rw [decide_eq_true hc, cond_true] at h
    refine ⟨hc, ?_⟩
    cases hb : oI l p w with
    | true => rfl
    | false => rw [hb] at h; simp at h
  · rw [decide_eq_false hc, cond_false] at h
    exact absurd h hc
theorem aEw {l : aS} {z : List aD} (h : GL l z) {p w : Int} (hp : 0 ≤ p ∧ p < l.Players) (hw : 0 ≤ w ∧ w ≤ 400) : jC l p w = 0 := by
  unfold jC oI inB
  rw [decide_eq_true (yO h), cond_true, decide_eq_true hp.1, decide_eq_true (show p ≤ l.Players - 1 by omega), decide_eq_true hw.1, decide_eq_true hw.2]; rfl
theorem oT {l : aS} {p w : Int} (h : oI l p w = true) : (0 ≤ p ∧ p < l.Players) ∧ (0 ≤ w ∧ w ≤ 400) := by
  unfold oI inB at h
  simp only [Bool.and_eq_true, decide_eq_true_eq] at h
  omega
theorem aFi {l : aS} {z : List aD} (h : GL l z) : oZ l = some (some (nN l z), 0) := by
  obtain ⟨h1, h2, h3⟩ := h.bd
  unfold oZ
  rw [aCc l (by omega) (by omega) (by omega), Option.bind_some, yO h, h.once]; rfl
theorem aIm {l : aS} (hb : Bd l) (h : hJ l ≠ 0) : oZ l = some (none, hJ l) := by
  obtain ⟨h1, h2, h3⟩ := hb
  unfold oZ
  rw [aCc l (by omega) (by omega) (by omega), Option.bind_some, decide_eq_false h]; rfl
theorem aBf {l : aS} {z : List aD} (h : GL l z) {p w : Int} (ha : oI l p w = true) : lC l p w = some (some (nN l z), 0) := by
  have hP := h.players
  unfold lC
  rw [aFi h, Option.bind_some]
  have e1 : w64 (l.Players - 1) = l.Players - 1 := dC (by omega) (by omega)
  have e2 : (!(decide (0 ≤ p) && decide (p ≤ l.Players - 1)) || !(decide (0 ≤ w) && decide (w ≤ 400))) = false := by
    have := oT ha
    rw [Bool.or_eq_false_iff]
    simp; omega
  simp only [nU, e1, sD, Option.bind_some, gA, e2, cond_false]
  rfl
theorem aEi {l : aS} (hb : Bd l) {p w : Int} (h : jC l p w ≠ 0) : lC l p w = some (none, jC l p w) := by
  unfold lC
  by_cases hc : hJ l = 0
  · obtain ⟨z, hz⟩ := aBe hc
    have hP := hz.players
    have ha : oI l p w = false := by
      rw [Bool.eq_false_iff]; intro hn
      apply h; unfold jC; rw [hc, hn]; rfl
    rw [aFi hz, Option.bind_some]
    have e1 : w64 (l.Players - 1) = l.Players - 1 := dC (by omega) (by omega)
    have e2 : (!(decide (0 ≤ p) && decide (p ≤ l.Players - 1)) || !(decide (0 ≤ w) && decide (w ≤ 400))) = true := by
      have : (decide (0 ≤ p) && decide (p ≤ l.Players - 1) && (decide (0 ≤ w) && decide (w ≤ 400))) = false := ha
      revert this
      cases (decide (0 ≤ p) && decide (p ≤ l.Players - 1)) <;> cases (decide (0 ≤ w) && decide (w ≤ 400)) <;> simp
    have e3 : jC l p w = 1 := by unfold jC; rw [hc, ha]; rfl
    simp only [nU, e1, sD, Option.bind_some, gA, e2, cond_true, e3]
    rfl
  · have e3 : jC l p w = hJ l := by unfold jC; rw [decide_eq_false hc]; rfl
    rw [aIm hb hc, Option.bind_some, e3]
    simp only [nU, decide_eq_false hc, Bool.not_false, cond_true]
theorem aDy {l : aS} (hb : Bd l) (p w : Int) : iX l p w = some (jC l p w) := by
  obtain ⟨h1, h2, h3⟩ := hb
  unfold iX jC
  rw [uZ l (by omega) (by omega) (by omega), Option.bind_some]
  by_cases hc : hJ l = 0
  · obtain ⟨z, hz⟩ := aBe hc
    have hP := hz.players
    have e1 : w64 (l.Players - 1) = l.Players - 1 := dC (by omega) (by omega)
    rw [hc]
    simp only [e1, qU, Option.bind_some, gA, decide_true, Bool.not_true, cond_false, cond_true]
    unfold oI inB
    cases (decide (0 ≤ p) && decide (p ≤ l.Players - 1)) <;> cases (decide (0 ≤ w) && decide (w ≤ 400)) <;> rfl
  · rw [decide_eq_false hc]; rfl

theorem aCv {l : aS} {z : List aD} (h : GL l z) {p w : Int} (ha : oI l p w = true) : lN l p w = some (aAc l z p w, 0) := by
  have hw := (oT ha).2
  unfold lN
  rw [aBf h ha, Option.bind_some]
  simp only [nU, decide_true, Bool.not_true, cond_false, aHt h.rest h.reps h.st (Nat.le_trans h.len (by omega)) hw.1 (by omega), Option.bind_some]
theorem aCw {l : aS} (hb : Bd l) {p w : Int} (h : jC l p w ≠ 0) : lN l p w = some (0, jC l p w) := by
  unfold lN
  rw [aEi hb h, Option.bind_some]
  simp only [nU, decide_eq_false h, Bool.not_false, cond_true]
theorem aHa {l : aS} (hb : Bd l) : mI l = some l := by
  obtain ⟨h1, h2, h3⟩ := hb
  unfold mI
  rw [nL (by simp; omega), Option.bind_some, nL (by simp; omega), Option.bind_some, nL (by simp; omega), Option.bind_some]
  simp
/-- What is too far for a statement. -/
theorem aFb {l : aS} (h : gD l = some false) : (l.Reports.length ≤ 60 ∧ l.Bans.length ≤ 20 ∧ l.Frozen.length ≤ 20) ∧ (hJ l = 0 → l.Players ≤ 5 ∧ l.Reports.length ≤ 10 ∧ ∀ r ∈ l.Reports, r.Week ≤ 150) := by
  unfold gD at h
  rw [gA, Option.bind_some, gA, Option.bind_some] at h
  cases hf : (decide (60 < (l.Reports.length : Int)) || decide (20 < (l.Bans.length : Int)) || decide (20 < (l.Frozen.length : Int))) with
  | true => rw [hf] at h; simp at h
  | false =>
    simp only [Bool.or_eq_false_iff, decide_eq_false_iff_not] at hf
    refine ⟨by omega, fun hc => ?_⟩
    have hf' : (decide (60 < (l.Reports.length : Int)) || decide (20 < (l.Bans.length : Int)) || decide (20 < (l.Frozen.length : Int))) = false := by simp only [Bool.or_eq_false_iff, decide_eq_false_iff_not]; omega
    rw [hf', cond_false, uZ l (by omega) (by omega) (by omega), Option.bind_some, hc] at h
    simp only [decide_true, Bool.not_true, cond_false] at h
    have main := kO (fun k i => fM l k i) l.Reports.length (fun i => !(fun r : aD => decide (150 < r.Week)) (l.Reports.getD i default)) (some true) (jY l) (fun k i hi => by
      have hlt : decide ((i : Int) < (l.Reports.length : Int)) = true := decide_eq_true (by omega)
      have ei : l.Reports.getD i default = l.Reports[i] := by simp [List.getD, List.getElem?_eq_getElem hi]
      simp only [fM, hlt, cond_true, dD hi, Option.bind_some, cU (show i < 9223372036854775807 by omega), ei]
      cases decide (150 < l.Reports[i].Week) <;> rfl) (fun k => by
      have hlt : decide ((l.Reports.length : Int) < (l.Reports.length : Int)) = false := decide_eq_false (by omega)
      simp only [fM, hlt, cond_false]) BIG (dO (by omega))
    rw [main, aAj l.Reports (fun r : aD => decide (150 < r.Week))] at h
    cases hw : l.Reports.any fun r => decide (150 < r.Week) with
    | true => rw [hw] at h; simp at h
    | false =>
      rw [hw] at h
      unfold jY at h
      simp only [Bool.not_false, cond_true, gA, Option.bind_some, Option.some.injEq, Bool.or_eq_false_iff, decide_eq_false_iff_not] at h
      refine ⟨by omega, by omega, fun r hr => ?_⟩
      have := List.any_eq_false.1 hw r hr
      simp only [decide_eq_true_eq] at this
      omega
theorem aFz (l : aS) (hb : l.Reports.length ≤ 140737488355328 ∧ l.Bans.length ≤ 140737488355328 ∧ l.Frozen.length ≤ 140737488355328) : ∃ b, gD l = some b := by
  unfold gD
  rw [gA, Option.bind_some, gA, Option.bind_some]
  cases hf : (decide (60 < (l.Reports.length : Int)) || decide (20 < (l.Bans.length : Int)) || decide (20 < (l.Frozen.length : Int))) with
  | true => exact ⟨true, rfl⟩
  | false =>
    simp only [Bool.or_eq_false_iff, decide_eq_false_iff_not] at hf
    rw [cond_false, uZ l (by omega) (by omega) (by omega), Option.bind_some]
    cases (!decide (hJ l = 0)) with
    | true => exact ⟨false, rfl⟩
    | false =>
      rw [cond_false]
      have main := kO (fun k i => fM l k i) l.Reports.length (fun i => !(fun r : aD => decide (150 < r.Week)) (l.Reports.getD i default)) (some true) (jY l) (fun k i hi => by
        have hlt : decide ((i : Int) < (l.Reports.length : Int)) = true := decide_eq_true (by omega)
        have ei : l.Reports.getD i default = l.Reports[i] := by simp [List.getD, List.getElem?_eq_getElem hi]
        simp only [fM, hlt, cond_true, dD hi, Option.bind_some, cU (show i < 9223372036854775807 by omega), ei]
        cases decide (150 < l.Reports[i].Week) <;> rfl) (fun k => by
        have hlt : decide ((l.Reports.length : Int) < (l.Reports.length : Int)) = false := decide_eq_false (by omega)
        simp only [fM, hlt, cond_false]) BIG (dO (by omega))
      rw [main]
      unfold jY
      rw [gA, Option.bind_some]
      cases (List.range l.Reports.length).all fun i => !(fun r : aD => decide (150 < r.Week)) (l.Reports.getD i default)
      · exact ⟨_, rfl⟩
      · exact ⟨_, rfl⟩
theorem aHm (w : Int) : mD w = some (decide (250 < w) && decide (w ≤ 400)) := by unfold mD; rw [gL, Option.bind_some]
end Go.Am
