/- Layer 8, plain: what the reference says of days and of orders that are repaired. -/
import Derived.Test.YtikcmpflkibomaaPlayPlain17
namespace Go.Am

theorem fullR_iff {p : ApiProgram} {days : Int} {l : List ApiSeat} : FullR p days l ↔ Full p days none 0 l :=
  ⟨fun h => full_of h.ord h.fits h.days, fun h => ⟨h.ord, h.fits, h.days⟩⟩
theorem cost_nil (l : List ApiSeat) : cost [] l = 0 := by
  unfold cost
  induction l with
  | nil => rfl
  | cons a l ih => simp [mvR, ih]
theorem ord_nil (p : ApiProgram) : Ord p [] := ⟨by simp, by simp, by simp, by simp, by simp⟩

variable {p : ApiProgram} (hp : VP p)
include hp

theorem can_eq {n : Int} (h0 : 0 ≤ n) : ∃ b, deuceref08_can p n = some b ∧ (b = true ↔ ∃ l, Full p n none 0 l) := by
  have hnj := hp.nj
  obtain ⟨r, hr, r0, r1, hw, hall⟩ := fewest_spec hp (old := []) (by simp) h0 BIG [] 1 (ord_nil p) (by simp) (by simp) (by unfold BIG; omega) (by omega)
  refine ⟨decide (r = 0), by unfold deuceref08_can; rw [show deuceref08_fewest = deuceref08_fewest_r BIG from rfl, hr]; rfl, ?_⟩
  rw [decide_eq_true_eq]
  constructor
  · intro h
    rcases hw with e | ⟨t, ht, _⟩
    · omega
    · exact ⟨t, fullR_iff.1 (by simpa using ht)⟩
  · rintro ⟨l, hl⟩
    have := hall l (by simpa using fullR_iff.2 hl)
    rw [cost_nil] at this
    omega

def daysPost (p : ApiProgram) (r : Option Int) : Prop :=
  (∃ (n : Int) (l : List ApiSeat), r = some n ∧ 0 ≤ n ∧ n ≤ (p.Days.length : Int) ∧ Full p n none 0 l ∧ NoDays p n) ∨ (r = some (-1) ∧ NoDays p ((p.Days.length : Int) + 1))
theorem days_spec : daysPost p (deuceref08_days p) := by
  have hnd := hp.nd
  unfold deuceref08_days
  refine loop_pred (S := Unit) (fun k i _ => deuceref08_days_L0 p k i) (p.Days.length + 1) (daysPost p) (fun i _ => i ≤ p.Days.length + 1 ∧ NoDays p i) ?_ ?_ BIG 0 () (BIG_lt (by omega)) ⟨by omega, fun m h0 hm => by simp at hm; omega⟩
  · rintro k i _ hi ⟨_, hno⟩ ih
    have hlt : decide ((i : Int) ≤ (p.Days.length : Int)) = true := decide_eq_true (by omega)
    obtain ⟨b, hb, hbi⟩ := can_eq hp (n := i) (by omega)
    simp only [deuceref08_days_L0, hlt, cond_true, hb, Option.bind_some, w64_succ (show i < 9223372036854775807 by omega)]
    cases b with
    | true =>
      obtain ⟨l, hl⟩ := hbi.1 rfl
      exact .inl ⟨i, l, rfl, by omega, by omega, hl, hno⟩
    | false =>
      refine ih () ⟨by omega, fun m h0 hm l hl => ?_⟩
      by_cases hmi : m = i
      · subst hmi
        have := hbi.2 ⟨l, hl⟩
        cases this
      · exact hno m h0 (by omega) l hl
  · rintro k i _ hi ⟨hi2, hno⟩
    have hlt : decide ((i : Int) ≤ (p.Days.length : Int)) = false := decide_eq_false (by omega)
    simp only [deuceref08_days_L0, hlt, cond_false, deuceref08_days_K0]
    have hi3 : (i : Int) = (p.Days.length : Int) + 1 := by omega
    exact .inr ⟨rfl, hi3 ▸ hno⟩

/-- Days is the document's. -/
theorem Days_ref (hv : valid p = true) : deuceref08_Days p = play_Days p := by
  have e1 : deuceref08_Check p = some 0 := by rw [ref_Check_eq p hp.small, hv]; rfl
  have hnd := hp.nd
  unfold deuceref08_Days
  rw [e1]
  rcases Days_Best hp hv with ⟨n, l, h1, _, _, n0, n1, hf, hno⟩ | ⟨h1, _, hno⟩
  · rcases days_spec hp with ⟨m, l', h2, m0, m1, hf', hno'⟩ | ⟨h2, hno'⟩
    · have e : m = n := by
        rcases Int.lt_trichotomy m n with h | h | h
        · exact absurd hf' (hno m m0 h l')
        · exact h
        · exact absurd hf (hno' n n0 h l)
      subst e
      have c1 : decide (m < 0) = false := decide_eq_false (by omega)
      simp only [h2, Option.bind_some, decide_true, Bool.not_true, cond_false, c1, h1]
    · exact absurd hf (hno' n n0 (by omega) l)
  · rcases days_spec hp with ⟨m, l', h2, m0, m1, hf', hno'⟩ | ⟨h2, hno'⟩
    · exact absurd hf' (hno m m0 (by omega) l')
    · simp [h1, h2]

theorem ref_Stuck_spec (hv : valid p = true) (hn : notHuge p) : stuckPost p (deuceref08_Stuck p) := by
  have e1 : deuceref08_Check p = some 0 := by rw [ref_Check_eq p hp.small, hv]; rfl
  unfold deuceref08_Stuck
  simp only [e1, Option.bind_some, decide_true, Bool.not_true, cond_false]
  refine loop_pred (S := Unit) (fun k i _ => deuceref08_Stuck_L0 p k i) 3 (stuckPost p) (fun i _ => i ≤ 3 ∧ ∀ d : Int, 0 ≤ d → d < i → DueFits p d) ?_ ?_ BIG 0 () (BIG_lt (by omega)) ⟨by omega, fun d h0 hm => by simp at hm; omega⟩
  · rintro k i _ hi ⟨_, hno⟩ ih
    have hlt : decide ((i : Int) < 3) = true := decide_eq_true (by omega)
    simp only [deuceref08_Stuck_L0, hlt, cond_true, ref_DueBy_eq hp hn, Option.bind_some, w64_succ (show i < 9223372036854775807 by omega)]
    rcases days_spec (VP_of (sub_valid hv (needB p i))) with ⟨n, l, hr, h0, hnl, hfull, _⟩ | ⟨hr, hnd⟩
    · rw [hr, Option.bind_some]
      have c1 : decide (n < 0) = false := decide_eq_false (by omega)
      rw [c1]
      refine ih () ⟨by omega, fun d h0 hd => ?_⟩
      by_cases e : d = i
      · subst e; exact ⟨l, hfull.mono hnl (Int.le_refl 0)⟩
      · exact hno d h0 (by omega)
    · rw [hr, Option.bind_some]
      exact .inr ⟨i, rfl, by omega, by omega, fun ⟨l, hl⟩ => hnd p.Days.length (by omega) (by simp only [subP]; omega) l hl, hno⟩
  · rintro k i _ hi ⟨hi2, hno⟩
    have hlt : decide ((i : Int) < 3) = false := decide_eq_false (by omega)
    simp only [deuceref08_Stuck_L0, hlt, cond_false, deuceref08_Stuck_K0]
    have hi3 : (i : Int) = 3 := by omega
    exact .inl ⟨rfl, hi3 ▸ hno⟩

/-- Stuck is the document's. -/
theorem Stuck_ref (hv : valid p = true) (hn : notHuge p) : ∃ n, play_Stuck p = some (n, 0) ∧ deuceref08_Stuck p = some (n, 0) := by
  rcases Stuck_spec hp hv with ⟨h1, a1⟩ | ⟨n, h1, n0, n3, no, yes⟩ <;> rcases ref_Stuck_spec hp hv hn with ⟨h2, a2⟩ | ⟨m, h2, m0, m3, mo, yes2⟩
  · exact ⟨-1, h1, h2⟩
  · exact absurd (a1 m m0 m3) mo
  · exact absurd (a2 n n0 n3) no
  · have e : n = m := by
      rcases Int.lt_trichotomy n m with h | h | h
      · exact absurd (yes2 n n0 h) no
      · exact h
      · exact absurd (yes m m0 h) mo
    subst e
    exact ⟨n, h1, h2⟩

omit hp in
theorem moves_len (old l : List ApiSeat) : (l.map (mv (some old))).sum ≤ (l.length : Int) := by
  induction l with
  | nil => simp
  | cons a l ih =>
    have := (mv_01 (some old) a).2
    simp only [List.map_cons, List.sum_cons, List.length_cons]
    push_cast
    omega
omit hp in
theorem ord_seats {l : List ApiSeat} (ho : isOrd p l = true) : ∀ s ∈ l, isJ p s.Job := by
  intro s hs
  obtain ⟨i, hi, rfl⟩ := List.getElem_of_mem hs
  exact ((Ord_of ho).1.seat i hi).job

/-- Fewest is the document's; the repaired order is one that fits and moves as few. -/
theorem Fewest_ref (hv : valid p = true) {old : List ApiSeat} (ho : isOldB p old = true) :
    (∃ n l, play_repair p old = some (n, l, 0) ∧ deuceref08_Fewest p old = some (n, 0) ∧ l.length ≤ 6 ∧ FullR p p.Days.length l ∧ cost old l = n) ∨ (play_repair p old = some (0, [], 3) ∧ deuceref08_Fewest p old = some (0, 3)) := by
  have e1 : deuceref08_Check p = some 0 := by rw [ref_Check_eq p hp.small, hv]; rfl
  have hnj := hp.nj
  have hlen : old.length = p.Jobs.length := by
    simp only [isOldB, Bool.and_eq_true, decide_eq_true_eq] at ho
    exact ho.2
  obtain ⟨m, hr, m0, m1, hw, hall⟩ := fewest_spec hp (old := old) (by omega) (days := p.Days.length) (by omega) BIG [] ((p.Jobs.length : Int) + 1) (ord_nil p) (by simp) (by simp) (by unfold BIG; omega) (by omega)
  have hF : deuceref08_Fewest p old = bif decide ((p.Jobs.length : Int) < m) then some (0, 3) else some (m, 0) := by
    unfold deuceref08_Fewest
    rw [e1, ref_IsOld_eq p (by omega) old (by omega), ho, w64_ok (by omega) (by omega), show deuceref08_fewest = deuceref08_fewest_r BIG from rfl, hr]
    rfl
  rcases repair_spec hp hv ho with ⟨n, l, hrr, hl6, n0, nJ, hfull, hno⟩ | ⟨hrr, hno⟩
  · left
    have hc : cost old l = (l.map (mv (some old))).sum := moved_sum ho (ord_seats hfull.ord)
    have hlR : FullR p p.Days.length l := ⟨hfull.ord, hfull.fits, hfull.days⟩
    have h1 := hall l (by simpa using hlR)
    rw [List.nil_append, hc] at h1
    have h2 := hfull.moves
    rcases hw with e | ⟨t, ht, e⟩
    · omega
    · rw [List.nil_append] at ht e
      have ht2 : cost old t = (t.map (mv (some old))).sum := moved_sum ho (ord_seats ht.ord)
      have hmn : ¬ m < n := fun h => hno m m0 h t ⟨ht.ord, ht.fits, ht.days, by omega⟩
      have emn : m = n := by omega
      subst emn
      have c1 : decide ((p.Jobs.length : Int) < m) = false := decide_eq_false (by omega)
      rw [c1] at hF
      exact ⟨m, l, hrr, hF, hl6, hlR, by omega⟩
  · right
    refine ⟨hrr, ?_⟩
    rcases hw with e | ⟨t, ht, e⟩
    · have c1 : decide ((p.Jobs.length : Int) < m) = true := decide_eq_true (by omega)
      rw [c1] at hF
      exact hF
    · rw [List.nil_append] at ht
      have hlo := (Ord_of ht.ord).2
      have := moves_len old t
      exact absurd ⟨ht.ord, ht.fits, ht.days, Int.le_refl _⟩ (hno _ (sum_nonneg (some old) t) (by omega) t)
end Go.Am
