/- The plain law PlayMoves. -/
import Derived.Test.YtikcmpflkibomaaPlayPlain12
import Derived.KernelRfl
namespace Go.Am
theorem works_true : deucelaw08_works = some true := by kernel_rfl

theorem full_sum {p : ApiProgram} {old l : List ApiSeat} {n : Int} (h0 : 0 ≤ n) (hf : Full p p.Days.length (some old) n l) (hno : NoMoves p old n) : (l.map (mv (some old))).sum = n := by
  have h1 := hf.moves
  have h2 := sum_nonneg (some old) l
  by_cases h : (l.map (mv (some old))).sum = n
  · exact h
  · exact absurd ⟨hf.ord, hf.fits, hf.days, Int.le_refl _⟩ (hno _ h2 (by omega) l)

theorem mv_len (old : Option (List ApiSeat)) (l : List ApiSeat) : (l.map (mv old)).sum ≤ (l.length : Int) := by
  induction l with
  | nil => simp
  | cons a l ih =>
    have := (mv_01 old a).2
    simp only [List.map_cons, List.sum_cons, List.length_cons]
    push_cast
    omega
theorem ord_jobs {p : ApiProgram} {l : List ApiSeat} (ho : isOrd p l = true) : ∀ s ∈ l, isJ p s.Job := by
  intro s hs
  obtain ⟨i, hi, rfl⟩ := List.getElem_of_mem hs
  exact ((Ord_of ho).1.seat i hi).job
theorem mv_self (l : List ApiSeat) : ∀ l' : List ApiSeat, (∀ s ∈ l', s ∈ l) → (l'.map (mv (some l))).sum = 0 := by
  intro l'
  induction l' with
  | nil => intro _; rfl
  | cons a l' ih =>
    intro h
    have h1 := h a (by simp)
    have h2 := ih fun s hs => h s (List.mem_cons_of_mem _ hs)
    simp only [List.map_cons, List.sum_cons, h2]
    simp [mv, h1]

theorem deucelaw08_PlayMoves_true (p : ApiProgram) (old other : List ApiSeat) (hp : okApiProgram p) (ho : okL okApiSeat old) (ho2 : okL okApiSeat other) : deucelaw08_PlayMoves p old other = some true := by
  have hsm := small_of hp
  have hol : old.length ≤ 9223372036854775807 := ho.1
  have hol2 : other.length ≤ 9223372036854775807 := ho2.1
  obtain ⟨r, hr, hrv⟩ := ready_eq p hsm
  unfold deucelaw08_PlayMoves
  simp only [hr, works_true, Option.bind_some, or_some]
  cases r with
  | false => simp
  | true =>
    obtain ⟨hv, hh⟩ := hrv rfl
    have hvp := VP_of hv
    have hnd := hvp.nd
    have hnj := hvp.nj
    rw [ref_IsOld_eq p (by omega) old hol]
    cases hio : isOldB p old with
    | false => simp
    | true =>
      by_cases h20 : other.length ≤ 20
      · have e1 : decide ((20 : Int) < (other.length : Int)) = false := decide_eq_false (by omega)
        have hlen : old.length = p.Jobs.length := by
          simp only [isOldB, Bool.and_eq_true, decide_eq_true_eq] at hio
          exact hio.2
        have hrep := repair_spec hvp hv hio
        have hMother : deuceref08_Moved other old = some ((other.map (mvR old)).sum) := by simp [deuceref08_Moved, moved_eq other old (by omega) (by omega)]
        have hFother := play_Fits_all p hsm other (by omega)
        have hFold := play_Fits_all p hsm old (by omega)
        simp only [e1, Bool.not_true, cond_false, Option.bind_some, Bool.or_self, IsOrder_eq hvp other hol2, IsOrder_eq hvp old hol, hMother, hFother, hFold, play_Fewest, play_Repair]
        rcases hrep with ⟨n, l, hrr, hl6, hn0, hnJ, hfull, hno⟩ | ⟨hrr, hno⟩
        · have hMl : deuceref08_Moved l old = some ((l.map (mvR old)).sum) := by simp [deuceref08_Moved, moved_eq l old (by omega) (by omega)]
          have hFl := play_Fits_all p hsm l (by omega)
          have hsumL : (l.map (mvR old)).sum = n := by rw [moved_sum hio (ord_jobs hfull.ord), full_sum hn0 hfull hno]
          obtain ⟨q1, q2⟩ := fitsR_valid hv hfull.ord
          have e2 : decide ((20 : Int) < (l.length : Int)) = false := decide_eq_false (by omega)
          have hold0 : isOrd p old = true → (fitsR p old).2.2 = 0 ∧ ((fitsR p old).1 = true → n = 0) := by
            intro h
            obtain ⟨g1, g2⟩ := fitsR_valid hv h
            refine ⟨g2, fun hf => ?_⟩
            rw [g1] at hf
            by_cases hn : n = 0
            · exact hn
            · exact absurd ⟨h, hf, ord_days h, by rw [mv_self old old (fun _ h => h)]; exact Int.le_refl 0⟩ (hno 0 (Int.le_refl 0) (by omega) old)
          have hoth : isOrd p other = true → (fitsR p other).2.2 = 0 ∧ ((fitsR p other).1 = true → decide ((other.map (mvR old)).sum < n) = false) := by
            intro h
            obtain ⟨g1, g2⟩ := fitsR_valid hv h
            refine ⟨g2, fun hf => decide_eq_false fun hlt => ?_⟩
            rw [g1] at hf
            rw [moved_sum hio (ord_jobs h)] at hlt
            exact hno _ (sum_nonneg _ _) hlt other ⟨h, hf, ord_days h, Int.le_refl _⟩
          simp only [hrr, Option.bind_some, decide_true, Bool.not_true, cond_false, e2, Bool.or_self, IsOrder_eq hvp l (by omega), hfull.ord, hMl, hsumL, hFl, q1, q2, hfull.fits]
          cases h1 : isOrd p other with
          | true =>
            obtain ⟨g1, g2⟩ := hoth h1
            cases h2 : isOrd p old with
            | true =>
              obtain ⟨k1, k2⟩ := hold0 h2
              simp only [g1, k1]
              cases h3 : (fitsR p other).1 with
              | true =>
                cases h4 : (fitsR p old).1 with
                | true =>
                  have g := g2 h3
                  have k := k2 h4
                  rw [k] at g
                  simp [g, k]
                | false => simp [g2 h3]
              | false =>
                cases h4 : (fitsR p old).1 with
                | true => simp [k2 h4]
                | false => simp
            | false =>
              simp only [g1]
              cases h3 : (fitsR p other).1 with
              | true => simp [g2 h3]
              | false => simp
          | false =>
            cases h2 : isOrd p old with
            | true =>
              obtain ⟨k1, k2⟩ := hold0 h2
              simp only [k1]
              cases h4 : (fitsR p old).1 with
              | true => simp [k2 h4]
              | false => simp
            | false => simp
        · have e2 : decide ((20 : Int) < (([] : List ApiSeat).length : Int)) = false := rfl
          have e3 : decide ((3 : Int) = 0) = false := rfl
          simp only [hrr, Option.bind_some, decide_true, Bool.not_true, cond_false, e2, e3, Bool.or_self, Bool.not_false, cond_true]
          cases h1 : isOrd p other with
          | true =>
            obtain ⟨g1, g2⟩ := fitsR_valid hv h1
            simp only [g1, g2]
            cases h3 : fitsB p other with
            | false => simp
            | true =>
              have hlo := (Ord_of h1).2
              have := mv_len (some old) other
              exact absurd ⟨h1, h3, ord_days h1, Int.le_refl _⟩ (hno _ (sum_nonneg (some old) other) (by omega) other)
          | false => simp
      · have e1 : decide ((20 : Int) < (other.length : Int)) = true := decide_eq_true (by omega)
        simp [e1]
end Go.Am
