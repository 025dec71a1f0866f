/- The plain law PlayBest. -/
import Derived.Test.YtikcmpflkibomaaPlayPlain18
import Derived.KernelRfl
namespace Go.Am
theorem works_true : deucelaw08_works = some true := by kernel_rfl

theorem law_fits {p : ApiProgram} (hs : smallP p) (hv : valid p = true) {l : List ApiSeat} (hl : l.length ≤ 6) {n : Int} (h : FullR p n l) : deucelaw08_fits p l n = some true := by
  obtain ⟨q1, q2⟩ := fitsR_valid hv h.ord
  unfold deucelaw08_fits
  rw [ref_Fits_all p hs l (by omega), Option.bind_some, q1, q2, h.fits]
  rw [loop_all (fun k i => deucelaw08_fits_L0 l n true 0 k i) l.length (fun _ => true) (some false) (some true) ?_ ?_ BIG (BIG_lt (by omega))]
  · have : (List.range l.length).all (fun _ => true) = true := by simp
    rw [this]; rfl
  · intro k i hi
    have hd := h.days _ (List.getElem_mem hi)
    have c1 : decide (n ≤ l[i].Day) = false := decide_eq_false (by omega)
    have c2 : decide ((i : Int) < (l.length : Int)) = true := decide_eq_true (by omega)
    simp only [deucelaw08_fits_L0, c2, cond_true, idx_nat hi, Option.bind_some, c1, cond_false, w64_succ (show i < 9223372036854775807 by omega)]
  · intro k
    simp [deucelaw08_fits_L0, deucelaw08_fits_K0]

theorem deucelaw08_PlayBest_true (p : ApiProgram) (old : List ApiSeat) (hp : okApiProgram p) (ho : okL okApiSeat old) : deucelaw08_PlayBest p old = some true := by
  have hsm := small_of hp
  have hol : old.length ≤ 9223372036854775807 := ho.1
  unfold deucelaw08_PlayBest
  rw [Far_eq p hsm]
  cases hh : hugeB p with
  | true => simp [works_true]
  | false =>
    have hnh := notHuge_of hh
    have hcopy := Copy_eq hnh
    by_cases h20 : old.length ≤ 20
    case neg =>
      have e1 : decide ((20 : Int) < (old.length : Int)) = true := decide_eq_true (by omega)
      cases hv : valid p with
      | false => simp [e1, works_true]
      | true => cases (decide (4 < p.Jobs.length) || decide (4 < p.Days.length * courts p)) <;> simp [e1, works_true]
    case pos =>
    have e1 : decide ((20 : Int) < (old.length : Int)) = false := decide_eq_false (by omega)
    have hcop := copied_eq (show old.length ≤ 1000000 by omega)
    cases hv : valid p with
    | false =>
      have c0 : play_Check p = some 80 := by rw [play_Check_eq p hsm, hv]; rfl
      have c1 : deuceref08_Check p = some 80 := by rw [ref_Check_eq p hsm, hv]; rfl
      have d1 : play_Best p = some ([], 80) := by simp [play_Best, c0]
      have d2 : deuceref08_Days p = some (0, 80) := by simp [deuceref08_Days, c1]
      have d5 : play_Repair p old = some ([], 80) := by simp [play_Repair, play_repair, c0]
      have d6 : deuceref08_Fewest p old = some (0, 80) := by simp [deuceref08_Fewest, c1]
      simp [e1, hcopy, d1, d2, d5, d6, works_true, hcop]
    | true =>
      have hvp := VP_of hv
      have hnj := hvp.nj
      have hnd := hvp.nd
      cases hb : (decide (4 < p.Jobs.length) || decide (4 < p.Days.length * courts p)) with
      | true => simp [works_true]
      | false =>
        have hd := Days_ref hvp hv
        -- Best
        have hbest : ∃ l n e, play_Best p = some (l, e) ∧ deuceref08_Days p = some (n, e) ∧ l.length ≤ 6 ∧ ((e = 0 ∧ deucelaw08_fits p l n = some true) ∨ (e = 3 ∧ l = [])) := by
          rcases Days_Best hvp hv with ⟨n, l, h1, h2, h3, _, _, h4, _⟩ | ⟨h1, h2, _⟩
          · exact ⟨l, n, 0, h2, by rw [hd, h1], h3, .inl ⟨rfl, law_fits hsm hv h3 (fullR_iff.2 h4)⟩⟩
          · exact ⟨[], 0, 3, h2, by rw [hd, h1], by simp, .inr ⟨rfl, rfl⟩⟩
        have hrep : ∃ l n e, play_Repair p old = some (l, e) ∧ deuceref08_Fewest p old = some (n, e) ∧ l.length ≤ 6 ∧ ((e = 0 ∧ deucelaw08_fits p l 3 = some true ∧ deuceref08_Moved l old = some n) ∨ (e ≠ 0 ∧ l = [])) := by
          cases hio : isOldB p old with
          | true =>
            rcases Fewest_ref hvp hv hio with ⟨m, l, h1, h2, h3, h4, h5⟩ | ⟨h1, h2⟩
            · have h6 : FullR p 3 l := ⟨h4.ord, h4.fits, fun s hs => by have := h4.days s hs; omega⟩
              refine ⟨l, m, 0, by simp [play_Repair, h1], h2, h3, .inl ⟨rfl, law_fits hsm hv h3 h6, ?_⟩⟩
              unfold deuceref08_Moved
              rw [moved_eq l old (by omega) (by omega), ← h5]
              rfl
            · exact ⟨[], 0, 3, by simp [play_Repair, h1], h2, by simp, .inr ⟨by decide, rfl⟩⟩
          | false =>
            have c0 : play_Check p = some 0 := by rw [play_Check_eq p hsm, hv]; rfl
            have c1 : deuceref08_Check p = some 0 := by rw [ref_Check_eq p hsm, hv]; rfl
            refine ⟨[], 0, 81, ?_, ?_, by simp, .inr ⟨by decide, rfl⟩⟩
            · unfold play_Repair play_repair
              rw [c0, play_isOld_eq p (by omega) old hol, hio]
              rfl
            · unfold deuceref08_Fewest
              rw [c1, ref_IsOld_eq p (by omega) old hol, hio]
              rfl
        obtain ⟨l1, n1, x1, b1, b2, b3, b4⟩ := hbest
        obtain ⟨l2, n2, x2, r1, r2, r3, r4⟩ := hrep
        have k1 : decide ((20 : Int) < (l1.length : Int)) = false := decide_eq_false (by omega)
        have k2 : decide ((20 : Int) < (l2.length : Int)) = false := decide_eq_false (by omega)
        simp only [Bool.false_or, Bool.and_false, cond_false, Option.bind_some, or_some, e1, hcopy, hcop, b1, b2, r1, r2, k1, k2, decide_true, Bool.not_true, works_true]
        rcases b4 with ⟨rfl, b5⟩ | ⟨rfl, rfl⟩ <;> rcases r4 with ⟨rfl, r5, r6⟩ | ⟨hne, rfl⟩
        · simp [b5, r5, r6]
        · simp [b5, hne]
        · simp [r5, r6]
        · simp [hne]
end Go.Am
