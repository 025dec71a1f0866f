/- Layer 8, plain: Days and Best; which programs statements look at. -/
import Derived.Test.YtikcmpflkibomaaPlayPlain10
namespace Go.Am

theorem Full.mono {p : ApiProgram} {days days' : Int} {old : Option (List ApiSeat)} {m m' : Int} {l : List ApiSeat} (h : Full p days old m l) (hd : days ≤ days') (hm : m ≤ m') : Full p days' old m' l :=
  ⟨h.ord, h.fits, fun s hs => Int.lt_of_lt_of_le (h.days s hs) hd, Int.le_trans h.moves hm⟩
/-- No order fits in fewer days. -/
def NoDays (p : ApiProgram) (n : Int) : Prop := ∀ m : Int, 0 ≤ m → m < n → ∀ l, ¬ Full p m none 0 l
def bestPost (p : ApiProgram) (r : Option (Int × List ApiSeat × Bool)) : Prop :=
  ∃ n l b, r = some (n, l, b) ∧ l.length ≤ 6 ∧ (b = true → 0 ≤ n ∧ n ≤ (p.Days.length : Int) ∧ Full p n none 0 l ∧ NoDays p n) ∧ (b = false → n = 0 ∧ l = [] ∧ NoDays p ((p.Days.length : Int) + 1))

theorem best_spec {p : ApiProgram} (hp : VP p) : bestPost p (play_best p) := by
  have hnd := hp.nd
  unfold play_best
  rw [w64_ok (by omega) (by omega)]
  have e : ((p.Days.length : Int) + 1) = ((p.Days.length + 1 : Nat) : Int) := by omega
  rw [e]
  refine loop_pred (S := Unit) (fun k i _ => play_best_L0 ((p.Days.length + 1 : Nat) : Int) p k i) (p.Days.length + 1) (bestPost p) (fun i _ => i ≤ p.Days.length + 1 ∧ NoDays p i) ?_ ?_ BIG 0 () (BIG_lt (by omega)) ⟨by omega, fun m h0 hm => by simp at hm; omega⟩
  · rintro k i _ hi ⟨_, hno⟩ ih
    have hlt : decide ((i : Int) < ((p.Days.length + 1 : Nat) : Int)) = true := decide_eq_true (by omega)
    obtain ⟨l, b, hr, hl, ht, hf⟩ := order_spec hp (days := i) (by omega) (by omega) (old := none) (fun l h => by cases h) (Int.le_refl 0) (by omega)
    simp only [play_best_L0, hlt, cond_true, hr, Option.bind_some, w64_succ (show i < 9223372036854775807 by omega)]
    cases b with
    | true => exact ⟨i, l, true, rfl, hl, (fun _ => ⟨by omega, by omega, ht rfl, hno⟩), fun h => by cases h⟩
    | false =>
      refine ih () ⟨by omega, fun m h0 hm => ?_⟩
      by_cases hmi : m = i
      · subst hmi; exact (hf rfl).2
      · exact hno m h0 (by omega)
  · rintro k i _ hi ⟨hi2, hno⟩
    have hlt : decide ((i : Int) < ((p.Days.length + 1 : Nat) : Int)) = false := decide_eq_false (by omega)
    simp only [play_best_L0, hlt, cond_false, play_best_K0]
    have hi3 : (i : Int) = (p.Days.length : Int) + 1 := by omega
    exact ⟨0, [], false, rfl, by simp, (fun h => by cases h), fun _ => ⟨rfl, rfl, hi3 ▸ hno⟩⟩

/-- Days and Best of a valid program. -/
theorem Days_Best {p : ApiProgram} (hp : VP p) (hv : valid p = true) :
    (∃ (n : Int) (l : List ApiSeat), play_Days p = some (n, 0) ∧ play_Best p = some (l, 0) ∧ l.length ≤ 6 ∧ 0 ≤ n ∧ n ≤ (p.Days.length : Int) ∧ Full p n none 0 l ∧ NoDays p n) ∨
    (play_Days p = some (0, 3) ∧ play_Best p = some ([], 3) ∧ NoDays p ((p.Days.length : Int) + 1)) := by
  obtain ⟨n, l, b, hr, hl, ht, hf⟩ := best_spec hp
  have e1 : play_Check p = some 0 := by rw [play_Check_eq p hp.small, hv]; rfl
  cases b with
  | true =>
    left
    obtain ⟨h1, h2, h3, h4⟩ := ht rfl
    refine ⟨n, l, ?_, ?_, hl, h1, h2, h3, h4⟩
    · simp [play_Days, e1, hr]
    · simp [play_Best, e1, hr]
  | false =>
    right
    obtain ⟨h1, h2, h3⟩ := hf rfl
    refine ⟨?_, ?_, h3⟩
    · simp [play_Days, e1, hr]
    · simp [play_Best, e1, hr]

theorem mv_none_sum (l : List ApiSeat) : (l.map (mv none)).sum = 0 := by
  induction l with
  | nil => rfl
  | cons a l ih => simp [mv, ih]

/-- An order that fits is found by Days. -/
theorem full_of {p : ApiProgram} {l : List ApiSeat} (ho : isOrd p l = true) (hf : fitsB p l = true) {n : Int} (hn : ∀ s ∈ l, s.Day < n) : Full p n none 0 l :=
  ⟨ho, hf, hn, by rw [mv_none_sum]; exact Int.le_refl 0⟩
theorem ord_days {p : ApiProgram} {l : List ApiSeat} (ho : isOrd p l = true) : ∀ s ∈ l, s.Day < (p.Days.length : Int) := by
  intro s hs
  obtain ⟨i, hi, rfl⟩ := List.getElem_of_mem hs
  have := ((Ord_of ho).1.seat i hi)
  have h1 := this.day
  have h2 := this.day0
  omega

theorem fitsR_valid {p : ApiProgram} (hv : valid p = true) {l : List ApiSeat} (ho : isOrd p l = true) : (fitsR p l).1 = fitsB p l ∧ (fitsR p l).2.2 = 0 := by
  unfold fitsR
  rw [hv, ho]
  simp only [cond_true]
  have key : fitsB p l = (lateOf p l).isNone := by
    unfold fitsB lateOf
    rw [Bool.eq_iff_iff, range_all, Option.isNone_iff_eq_none, List.find?_eq_none]
    constructor
    · intro h s hs
      obtain ⟨i, hi, rfl⟩ := List.getElem_of_mem hs
      have := h i hi
      rw [getD_get hi] at this
      have := of_decide_eq_true this
      simp only [decide_eq_true_eq]
      omega
    · intro h i hi
      have := h _ (List.getElem_mem hi)
      rw [getD_get hi]
      refine decide_eq_true ?_
      simp only [decide_eq_true_eq] at this
      omega
  cases hl : lateOf p l with
  | none => simp [key, hl]
  | some s => simp [key, hl]

/-- Which programs statements look at. -/
theorem Far_eq (p : ApiProgram) (hs : smallP p) : deucelaw08_Far p = some (hugeB p || (valid p && (decide (4 < p.Jobs.length) || decide (4 < p.Days.length * courts p)))) := by
  unfold deucelaw08_Far
  simp only [huge_eq p hs, ref_Check_eq p hs, Option.bind_some]
  cases hh : hugeB p with
  | true => simp
  | false =>
    cases hv : valid p with
    | false => simp
    | true =>
      have hp := VP_of hv
      have h1 := hp.nd
      have h2 := hp.nc3
      have h3 := hp.nd0
      have e0 : p.Days.getD 0 [] = p.Days[0] := getD_get h3 _
      rw [e0] at h2
      have ec : courts p = p.Days[0].length := by unfold courts; rw [e0]
      have hmul : p.Days.length * p.Days[0].length ≤ 3 * 3 := Nat.mul_le_mul h1 h2
      have hm : ((p.Days.length : Int) * (p.Days[0].length : Int)) = ((p.Days.length * p.Days[0].length : Nat) : Int) := by push_cast; rfl
      simp only [show idx p.Days 0 = some p.Days[0] from idx_nat h3, Option.bind_some, cond_false, cond_true, decide_true, or_some, hm, w64_ok (show -9223372036854775808 ≤ ((p.Days.length * p.Days[0].length : Nat) : Int) by omega) (show ((p.Days.length * p.Days[0].length : Nat) : Int) ≤ 9223372036854775807 by omega), ec]
      have e1 : decide ((4 : Int) < (p.Jobs.length : Int)) = decide (4 < p.Jobs.length) := by simp; omega
      have e2 : decide ((4 : Int) < ((p.Days.length * p.Days[0].length : Nat) : Int)) = decide (4 < p.Days.length * p.Days[0].length) := by
        by_cases h : 4 < p.Days.length * p.Days[0].length
        · rw [decide_eq_true h, decide_eq_true (by omega)]
        · rw [decide_eq_false h, decide_eq_false (by omega)]
      rw [e1, e2]
      simp
theorem ready_eq (p : ApiProgram) (hs : smallP p) : ∃ r, deucelaw08_ready p = some r ∧ (r = true → valid p = true ∧ hugeB p = false) := by
  unfold deucelaw08_ready
  simp only [Far_eq p hs, ref_Check_eq p hs, Option.bind_some, and_some]
  refine ⟨_, rfl, fun h => ?_⟩
  cases hv : valid p with
  | false => simp [hv] at h
  | true =>
    cases hh : hugeB p with
    | true => simp [hh] at h
    | false => simp
end Go.Am
