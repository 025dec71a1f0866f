/- Layer 8, plain: the reference tries all orders. -/
import Derived.Test.YtikcmpflkibomaaPlayPlain16
namespace Go.Am

structure FullR (p : ApiProgram) (days : Int) (l : List ApiSeat) : Prop where
  ord : isOrd p l = true
  fits : fitsB p l = true
  days : ∀ s ∈ l, s.Day < days
def cost (old l : List ApiSeat) : Int := (l.map (mvR old)).sum
theorem mvR_nonneg (old : List ApiSeat) (s : ApiSeat) : 0 ≤ mvR old s := by unfold mvR; omega
theorem cost_nonneg (old l : List ApiSeat) : 0 ≤ cost old l := by
  unfold cost
  induction l with
  | nil => exact Int.le_refl 0
  | cons a l ih => have := mvR_nonneg old a; simp only [List.map_cons, List.sum_cons]; omega
theorem cost_append (old l t : List ApiSeat) : cost old (l ++ t) = cost old l + cost old t := by simp [cost]

theorem fit_prefix {p : ApiProgram} {l t : List ApiSeat} (ho : Ord p (l ++ t)) (h : FitP p (l ++ t)) : FitP p l := by
  intro o hom
  obtain ⟨i, hi, rfl⟩ := List.getElem_of_mem hom
  have h1 := h l[i] (List.mem_append_left _ hom)
  have hlt : i < (l ++ t).length := by simp; omega
  have e0 : (l ++ t)[i] = l[i] := List.getElem_append_left hi
  have k1 := (runN_keep ho (t := highT p) hlt (l ++ t).length hlt (Nat.le_refl _)).2
  have k2 := (runN_keep ho (t := highT p) hlt l.length hi (by simp)).2
  rw [e0] at k1 k2
  rw [k1, ← k2, runN_append l.length (Nat.le_refl _)] at h1
  exact h1

theorem late_none {p : ApiProgram} {l : List ApiSeat} : lateOf p l = none ↔ FitP p l := by
  unfold lateOf FitP
  rw [List.find?_eq_none]
  constructor
  · intro h o ho
    have := h o ho
    simp only [decide_eq_true_eq] at this
    have h2 : (runH p l).2 = (runN p l (highT p) l.length).2 := rfl
    rw [h2] at this
    omega
  · intro h o ho
    have := h o ho
    simp only [decide_eq_true_eq]
    have h2 : (runH p l).2 = (runN p l (highT p) l.length).2 := rfl
    rw [h2]
    omega

theorem mayC_of {p : ApiProgram} {l t : List ApiSeat} {s : ApiSeat} (h : isOrd p (l ++ s :: t) = true) : mayC p l s = true := by
  simp only [isOrd, Bool.and_eq_true, range_all] at h
  have := h.1 l.length (by simp)
  have e1 : (l ++ s :: t).take l.length = l := by simp
  have e2 : (l ++ s :: t).getD l.length default = s := by simp [List.getD]
  rwa [e1, e2] at this

/-- What trying all orders that begin with some seats comes to. -/
def BPost (p : ApiProgram) (old : List ApiSeat) (days : Int) (first : List ApiSeat) (best : Int) (r : Option Int) : Prop :=
  ∃ n, r = some n ∧ 0 ≤ n ∧ n ≤ best ∧ (n = best ∨ ∃ t, FullR p days (first ++ t) ∧ cost old (first ++ t) = n) ∧ ∀ t, FullR p days (first ++ t) → n ≤ cost old (first ++ t)

/-- While the seats behind some are tried. -/
def BInv (p : ApiProgram) (old : List ApiSeat) (days : Int) (first : List ApiSeat) (best job d c b : Int) : Prop :=
  0 ≤ b ∧ b ≤ best ∧ (b = best ∨ ∃ t, FullR p days (first ++ t) ∧ cost old (first ++ t) = b) ∧
    ∀ s t, FullR p days (first ++ s :: t) → (s.Job < job ∨ (s.Job = job ∧ (s.Day < d ∨ (s.Day = d ∧ s.Court < c)))) → b ≤ cost old (first ++ s :: t)
theorem BInv.mono {p : ApiProgram} {old : List ApiSeat} {days : Int} {first : List ApiSeat} {best job d c b : Int} (h : BInv p old days first best job d c b) {job' d' c' : Int}
    (hm : ∀ s t, FullR p days (first ++ s :: t) → (s.Job < job' ∨ (s.Job = job' ∧ (s.Day < d' ∨ (s.Day = d' ∧ s.Court < c')))) → (s.Job < job ∨ (s.Job = job ∧ (s.Day < d ∨ (s.Day = d ∧ s.Court < c))))) : BInv p old days first best job' d' c' b :=
  ⟨h.1, h.2.1, h.2.2.1, fun s t hf hs => h.2.2.2 s t hf (hm s t hf hs)⟩

theorem fewest_spec {p : ApiProgram} (hp : VP p) {old : List ApiSeat} (hold : old.length ≤ 1000) {days : Int} (hd0 : 0 ≤ days) : ∀ (kr : Nat) (first : List ApiSeat) (best : Int),
    Ord p first → first.length ≤ p.Jobs.length → (∀ s ∈ first, s.Day < days) → p.Jobs.length - first.length < kr → 0 ≤ best → BPost p old days first best (deuceref08_fewest_r kr p first old days best)
  | 0, _, _, _, _, _, h, _ => by omega
  | kr + 1, first, best, ho, hl, hfd, hk, hb0 => by
    have hnj := hp.nj
    have hnd := hp.nd
    have hseat : ∀ s t, FullR p days (first ++ s :: t) → Seat p s := by
      intro s t hf
      have := (Ord_of hf.ord).1.seat first.length (by simp)
      simpa using this
    have hmv : deuceref08_moved first old = some (cost old first) := moved_eq first old (by omega) hold
    rw [deuceref08_fewest_r]
    simp only [hmv, Option.bind_some, late_eq hp ho (show first.length ≤ 1000000 by omega)]
    by_cases c1 : best ≤ cost old first
    · simp only [decide_eq_true c1, cond_true, Option.bind_some]
      refine ⟨best, rfl, hb0, Int.le_refl _, .inl rfl, fun t _ => ?_⟩
      rw [cost_append]
      have := cost_nonneg old t
      omega
    · simp only [decide_eq_false c1, cond_false]
      by_cases c2 : FitP p first
      · rw [late_none.2 c2]
        have e1 : (bif decide ((0 : Int) < (first.length : Int)) then some (decide ((0 : Int) ≤ -1)) else some false) = some false := by cases decide ((0 : Int) < (first.length : Int)) <;> rfl
        simp only [e1, Option.bind_some, cond_false]
        by_cases c3 : first.length = p.Jobs.length
        · have e2 : decide ((first.length : Int) = (p.Jobs.length : Int)) = true := decide_eq_true (by omega)
          simp only [e2, cond_true]
          refine ⟨_, rfl, cost_nonneg _ _, by omega, .inr ⟨[], ?_, by simp⟩, fun t ht => ?_⟩
          · rw [List.append_nil]
            exact ⟨isOrd_of ho c3, fitsB_iff.2 c2, hfd⟩
          · have := (Ord_of ht.ord).2
            have h0 : t = [] := by
              have : t.length = 0 := by simp at this; omega
              exact List.eq_nil_of_length_eq_zero this
            rw [h0]; simp
        · have e2 : decide ((first.length : Int) = (p.Jobs.length : Int)) = false := decide_eq_false (by omega)
          simp only [e2, cond_false]
          -- the loops
          have courts : ∀ (job d : Nat), job < p.Jobs.length → (d : Int) < days → d < p.Days.length → ∀ (again0 again2 : Int → Int → Option Int),
              (∀ b, BInv p old days first best job ((d : Int) + 1) 0 b → BPost p old days first best (again2 b ((d + 1 : Nat) : Int))) → ∀ b, BInv p old days first best job d 0 b →
              BPost p old days first best (deuceref08_fewest_L4 (deuceref08_fewest_r kr) again0 again2 first old days job d p BIG b 0) := by
            intro job d hjob hdd hdn again0 again2 hag b hb
            have hdl := hp.nc d hdn
            have hc3 := hp.nc3
            have hix : idx p.Days (d : Int) = some p.Days[d] := idx_nat hdn
            refine loop_pred (fun k c b => deuceref08_fewest_L4 (deuceref08_fewest_r kr) again0 again2 first old days job d p k b c) (p.Days[d]).length (BPost p old days first best) (fun c b => c ≤ (p.Days[d]).length ∧ BInv p old days first best job d c b) ?_ ?_ BIG 0 b (BIG_lt (by omega)) ⟨by omega, hb⟩
            · rintro k c b hc ⟨_, hb⟩ ih
              have hlt : decide ((c : Int) < ((p.Days[d]).length : Int)) = true := decide_eq_true (by omega)
              simp only [deuceref08_fewest_L4, hix, Option.bind_some, hlt, cond_true, MayCome_eq hp first (by omega), w64_succ (show c < 9223372036854775807 by omega)]
              cases hm : mayC p first ⟨job, d, c⟩ with
              | true =>
                simp only [cond_true]
                rw [app_ok (by simp; omega), Option.bind_some, app_ok (by simp; omega), Option.bind_some, List.nil_append]
                obtain ⟨m1, m2, m3, m4⟩ := mayC_parts hm
                obtain ⟨r, hr, hr0, hrb, hrw, hra⟩ := fewest_spec hp hold hd0 kr (first ++ [⟨job, d, c⟩]) b (ho.push (seat_of hm) m1 m2 m3 m4) (by simp; omega) (fun s hs => by
                  rcases List.mem_append.1 hs with hs | hs
                  · exact hfd s hs
                  · rw [List.mem_singleton.1 hs]; exact hdd) (by simp; omega) hb.1
                rw [hr, Option.bind_some]
                refine ih r ⟨by omega, hr0, Int.le_trans hrb hb.2.1, ?_, fun s t hf hs => ?_⟩
                · rcases hrw with e | ⟨t, ht, e⟩
                  · rw [e]; exact hb.2.2.1
                  · exact .inr ⟨⟨job, d, c⟩ :: t, by simpa using ht, by simpa using e⟩
                · by_cases e : s = ⟨job, d, c⟩
                  · subst e
                    have := hra t (by simpa using hf)
                    simpa using this
                  · have hs' : s.Job < job ∨ (s.Job = job ∧ (s.Day < d ∨ (s.Day = d ∧ s.Court < c))) := by
                      rcases hs with h | ⟨h1, h | ⟨h2, h3⟩⟩
                      · exact .inl h
                      · exact .inr ⟨h1, .inl h⟩
                      · refine .inr ⟨h1, .inr ⟨h2, ?_⟩⟩
                        have : s.Court ≠ c := fun h4 => e (by cases s; simp only at h1 h2 h4; subst h1; subst h2; subst h4; rfl)
                        omega
                    have := hb.2.2.2 s t hf hs'
                    omega
              | false =>
                simp only [cond_false]
                refine ih b ⟨by omega, hb.mono fun s t hf hs => ?_⟩
                rcases hs with h | ⟨h1, h | ⟨h2, h3⟩⟩
                · exact .inl h
                · exact .inr ⟨h1, .inl h⟩
                · refine .inr ⟨h1, .inr ⟨h2, ?_⟩⟩
                  have : s.Court ≠ c := fun h4 => by
                    have e : s = ⟨job, d, c⟩ := by cases s; simp only at h1 h2 h4; subst h1; subst h2; subst h4; rfl
                    have := mayC_of hf.ord
                    rw [e, hm] at this
                    cases this
                  omega
            · rintro k c b hc ⟨_, hb⟩
              have hlt : decide ((c : Int) < ((p.Days[d]).length : Int)) = false := decide_eq_false (by omega)
              simp only [deuceref08_fewest_L4, hix, Option.bind_some, hlt, cond_false, deuceref08_fewest_K4, deuceref08_fewest_K3, w64_succ (show d < 9223372036854775807 by omega)]
              refine hag b (hb.mono fun s t hf hs => ?_)
              have sc := (hseat s t hf).court
              have sc0 := (hseat s t hf).court0
              unfold Go.Am.courts at sc
              rcases hs with h | ⟨h1, h | ⟨h2, h3⟩⟩
              · exact .inl h
              · by_cases e : s.Day = d
                · exact .inr ⟨h1, .inr ⟨e, by omega⟩⟩
                · exact .inr ⟨h1, .inl (by omega)⟩
              · omega
          have dayss : ∀ (job : Nat), job < p.Jobs.length → ∀ (again0 : Int → Int → Option Int),
              (∀ b, BInv p old days first best ((job : Int) + 1) 0 0 b → BPost p old days first best (again0 b ((job + 1 : Nat) : Int))) → ∀ b, BInv p old days first best job 0 0 b →
              BPost p old days first best (deuceref08_fewest_L2 (deuceref08_fewest_r kr) again0 first old days job p BIG b 0) := by
            intro job hjob again0 hag b hb
            refine loop_pred (fun k d b => deuceref08_fewest_L2 (deuceref08_fewest_r kr) again0 first old days job p k b d) (min days p.Days.length).toNat (BPost p old days first best) (fun d b => BInv p old days first best job d 0 b) ?_ ?_ BIG 0 b (BIG_lt (by omega)) hb
            · rintro k d b hd hb ih
              have hlt : decide ((d : Int) < min days (p.Days.length : Int)) = true := decide_eq_true (by omega)
              simp only [deuceref08_fewest_L2, hlt, cond_true]
              exact courts job d hjob (by omega) (by omega) again0 _ (fun b' hb' => ih b' (by push_cast; exact hb')) b hb
            · rintro k d b hd hb
              have hlt : decide ((d : Int) < min days (p.Days.length : Int)) = false := decide_eq_false (by omega)
              simp only [deuceref08_fewest_L2, hlt, cond_false, deuceref08_fewest_K2, deuceref08_fewest_K1, w64_succ (show job < 9223372036854775807 by omega)]
              refine hag b (hb.mono fun s t hf hs => ?_)
              have sd := (hseat s t hf).day
              have sd0 := (hseat s t hf).day0
              have sd2 := hf.days s (by simp)
              rcases hs with h | ⟨h1, h | ⟨h2, h3⟩⟩
              · by_cases e : s.Job = job
                · exact .inr ⟨e, .inl (by omega)⟩
                · exact .inl (by omega)
              · omega
              · have := (hseat s t hf).court0; omega
          refine loop_pred (fun k j b => deuceref08_fewest_L0 (deuceref08_fewest_r kr) first old days p k b j) p.Jobs.length (BPost p old days first best) (fun j b => BInv p old days first best j 0 0 b) ?_ ?_ BIG 0 best (BIG_lt (by omega)) ⟨hb0, Int.le_refl _, .inl rfl, fun s t hf hs => ?_⟩
          · rintro k j b hj hb ih
            have hlt : decide ((j : Int) < (p.Jobs.length : Int)) = true := decide_eq_true (by omega)
            simp only [deuceref08_fewest_L0, hlt, cond_true]
            exact dayss j hj _ (fun b' hb' => ih b' (by push_cast; exact hb')) b hb
          · rintro k j b hj hb
            have hlt : decide ((j : Int) < (p.Jobs.length : Int)) = false := decide_eq_false (by omega)
            simp only [deuceref08_fewest_L0, hlt, cond_false, deuceref08_fewest_K0]
            refine ⟨b, rfl, hb.1, hb.2.1, hb.2.2.1, fun t ht => ?_⟩
            cases t with
            | nil =>
              have := (Ord_of ht.ord).2
              simp at this
              omega
            | cons s t =>
              have := (hseat s t ht).job.2
              have := (hseat s t ht).job.1
              exact hb.2.2.2 s t ht (.inl (by omega))
          · have h1 := (hseat s t hf).job.1
            have h2 := (hseat s t hf).day0
            have h3 := (hseat s t hf).court0
            omega
      · have hl0 : 0 < first.length := by
          rcases Nat.eq_zero_or_pos first.length with h | h
          · exact absurd (fun o ho => by rw [List.eq_nil_of_length_eq_zero h] at ho; cases ho) c2
          · exact h
        cases hlt : lateOf p first with
        | none => exact absurd (late_none.1 hlt) c2
        | some s =>
          have hs : s ∈ first := List.mem_of_find?_eq_some hlt
          obtain ⟨i, hi, rfl⟩ := List.getElem_of_mem hs
          have hj0 := (ho.seat i hi).job.1
          simp only [decide_eq_true (show (0 : Int) < (first.length : Int) by omega), decide_eq_true hj0, cond_true, Option.bind_some]
          exact ⟨best, rfl, hb0, Int.le_refl _, .inl rfl, fun t ht => absurd (fit_prefix (Ord_of ht.ord).1 (fitsB_iff.1 ht.fits)) c2⟩
end Go.Am
