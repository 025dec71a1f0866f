/- Layer 8, plain: the program's days, its times, and whether an order fits. -/
import Derived.Test.YtikcmpflkibomaaPlayPlain4
namespace Go.Am

/-- A day's state behind some seats. -/
structure DayP (p : ApiProgram) (pre : List ApiSeat) (ends : List Int) (d : PlayDay) : Prop where
  free : ∀ c : Int, 0 ≤ c → c.toNat < courts p → ∀ x, d.free.at c ≤ x ↔ (spanAt p d.number c).Low ≤ x ∧ ∀ o ∈ pre, o.Day = d.number → o.Court = c → endAt ends o.Job ≤ x
  ends1 : ∀ k : Int, 0 ≤ k ∧ k < 6 → 0 < d.ends.at k → ∃ o ∈ pre, o.Day = d.number ∧ o.Job = k
  ends2 : ∀ o ∈ pre, o.Day = d.number → d.ends.at o.Job = endAt ends o.Job ∧ 0 < endAt ends o.Job

theorem Opened.dayP {p : ApiProgram} {n : Int} {d : PlayDay} (h : Opened p n d) {pre : List ApiSeat} (hn : ∀ o ∈ pre, o.Day ≠ n) (ends : List Int) : DayP p pre ends d := by
  have e := h.number
  refine ⟨fun c h0 h1 x => ?_, fun k _ hk => ?_, fun o ho hd => ?_⟩
  · rw [h.free c h0 h1, e]
    exact ⟨fun hx => ⟨hx, fun o ho hd => absurd hd (hn o ho)⟩, fun hx => hx.1⟩
  · rw [h.ends k] at hk; omega
  · rw [e] at hd
    exact absurd hd (hn o ho)

theorem isJ.six {p : ApiProgram} (hp : VP p) {a : Int} (h : isJ p a) : 0 ≤ a ∧ a < 6 := by
  have := hp.nj
  have := h.2
  exact ⟨h.1, by omega⟩
theorem Seat.three {p : ApiProgram} (hp : VP p) {s : ApiSeat} (h : Seat p s) : 0 ≤ s.Court ∧ s.Court < 3 := by
  have h1 := hp.nc3
  have h2 := h.court
  unfold courts at h2
  exact ⟨h.court0, by omega⟩

def playF (p : ApiProgram) (d : PlayDay) (s : ApiSeat) (b : Int) (k : Nat) : Int := bif decide (0 < d.ends.at (k : Int)) && shareB p s.Job k then max b (d.ends.at (k : Int) + p.Rest) else b
theorem playF_le {p : ApiProgram} {d : PlayDay} {s : ApiSeat} {b : Int} {k : Nat} {x : Int} : playF p d s b k ≤ x ↔ b ≤ x ∧ (0 < d.ends.at (k : Int) → shareB p s.Job k = true → d.ends.at (k : Int) + p.Rest ≤ x) := by
  unfold playF
  by_cases h1 : 0 < d.ends.at (k : Int) <;> cases h2 : shareB p s.Job k <;> simp [h1, Int.max_le]

theorem day_play_eq {p : ApiProgram} (hp : VP p) {pre : List ApiSeat} (hpre : ∀ o ∈ pre, isJ p o.Job) {ends : List Int} (hb : ∀ o ∈ pre, 0 ≤ endAt ends o.Job ∧ endAt ends o.Job ≤ 1000000000000) {d : PlayDay} (hd : DayP p pre ends d)
    {s : ApiSeat} (hs : Seat p s) (hday : s.Day = d.number) {len : Int} (hlen : 0 ≤ len ∧ len ≤ 1000000) :
    play_day_play d p s len = some (beginS p pre ends s, beginS p pre ends s + len, ⟨d.number, d.free.set s.Court (beginS p pre ends s + len), d.ends.set s.Job (beginS p pre ends s + len)⟩) := by
  have hrest := hp.rest
  have h3 := hs.three hp
  have h6 := hs.job.six hp
  let b0 := max (d.free.at s.Court) (jobAt p s.Job).Earliest
  let σ : Nat → Int := fun i => (List.range i).foldl (playF p d s) b0
  have hσ : ∀ i x, σ i ≤ x ↔ b0 ≤ x ∧ ∀ k ∈ List.range i, 0 < d.ends.at ((k : Nat) : Int) → shareB p s.Job k = true → d.ends.at (k : Int) + p.Rest ≤ x := fun i x =>
    foldl_le (f := playF p d s) (C := fun k x => 0 < d.ends.at ((k : Nat) : Int) → shareB p s.Job k = true → d.ends.at (k : Int) + p.Rest ≤ x) (fun b o x => playF_le) (List.range i) b0 x
  have hat : ∀ k : Nat, k < 6 → 0 < d.ends.at (k : Int) → isJ p (k : Int) ∧ d.ends.at (k : Int) ≤ 1000000000000 := by
    intro k hk h
    obtain ⟨o, ho, h1, h2⟩ := hd.ends1 k ⟨by omega, by omega⟩ h
    have := hd.ends2 o ho h1
    rw [h2] at this
    have hbo := hb o ho
    rw [h2] at hbo
    refine ⟨h2 ▸ hpre o ho, by omega⟩
  have eqb : σ 6 = beginS p pre ends s := by
    refine eq_of_le (C := waits p pre ends s) (fun x => ?_) (fun x => beginS_le)
    rw [hσ]
    simp only [b0, Int.max_le, List.mem_range]
    rw [hd.free _ hs.court0 hs.court]
    unfold waits
    rw [hday]
    constructor
    · rintro ⟨⟨⟨h1, h2⟩, h3⟩, h4⟩
      refine ⟨h1, h3, fun o ho hod => ⟨fun hc => h2 o ho hod hc, fun hsh => ?_⟩⟩
      obtain ⟨e1, e2⟩ := hd.ends2 o ho hod
      have hj6 := (hpre o ho).six hp
      have hk := h4 o.Job.toNat (by omega)
      have hcast : ((o.Job.toNat : Nat) : Int) = o.Job := by omega
      rw [hcast, e1] at hk
      exact hk e2 hsh
    · rintro ⟨h1, h3, h4⟩
      refine ⟨⟨⟨h1, fun o ho hod hc => (h4 o ho hod).1 hc⟩, h3⟩, fun k hk h0 hsh => ?_⟩
      obtain ⟨o, ho, g1, g2⟩ := hd.ends1 k ⟨by omega, by omega⟩ h0
      have e1 := (hd.ends2 o ho g1).1
      rw [g2] at e1
      rw [e1, ← g2]
      exact (h4 o ho g1).2 (g2 ▸ hsh)
  have hbig : beginS p pre ends s ≤ 1000000100000 ∧ 0 ≤ beginS p pre ends s := by
    constructor
    · rw [beginS_le]
      have h1 := hs.hours hp
      have h2 := (hs.job.vj hp).early
      refine ⟨by omega, by omega, fun o ho _ => ⟨fun _ => ?_, fun _ => ?_⟩⟩
      · have := hb o ho; omega
      · have := hb o ho; omega
    · have h := (beginS_le.1 (Int.le_refl (beginS p pre ends s))).2.1
      have := (hs.job.vj hp).early0
      omega
  unfold play_day_play
  simp only [inb_ok (n := 3) (i := s.Court) ⟨h3.1, by have := h3.2; omega⟩, hs.job.idx, Option.bind_some]
  have main := loop_all (fun k i => play_day_play_L0 len d.ends d p s k (σ i.toNat) i) 6 (fun _ => true) none (play_day_play_K0 len (σ 6) d s) ?_ ?_ BIG (BIG_lt (by omega))
  · have e : (List.range 6).all (fun _ => true) = true := by simp
    rw [e] at main
    simp only [Int.toNat_zero, cond_true] at main
    have e0 : σ 0 = max (d.free.at s.Court) (jobAt p s.Job).Earliest := rfl
    rw [e0] at main
    rw [main, eqb]
    unfold play_day_play_K0
    simp only [inb_ok (n := 3) (i := s.Court) ⟨h3.1, by have := h3.2; omega⟩, inb_ok (n := 6) (i := s.Job) ⟨h6.1, by have := h6.2; omega⟩, Option.bind_some, w64_ok (show -9223372036854775808 ≤ beginS p pre ends s + len by omega) (show beginS p pre ends s + len ≤ 9223372036854775807 by omega)]
  · intro k i hi
    have e : σ (i + 1) = playF p d s (σ i) i := by
      simp only [σ, List.range_succ, List.foldl_append, List.foldl_cons, List.foldl_nil]
    have hi' : decide ((i : Int) < 6) = true := by simp; omega
    simp only [play_day_play_L0, Int.toNat_natCast, hi', cond_true, inb_ok (n := 6) (i := (i : Int)) ⟨by omega, by omega⟩, Option.bind_some, w64_succ (show i < 9223372036854775807 by omega), e]
    unfold playF
    by_cases h0 : 0 < d.ends.at (i : Int)
    · obtain ⟨hj, hle⟩ := hat i hi h0
      simp only [h0, decide_true, cond_true, play_share_eq hp hs.job hj, Option.bind_some, Bool.true_and, w64_ok (show -9223372036854775808 ≤ d.ends.at (i : Int) + p.Rest by omega) (show d.ends.at (i : Int) + p.Rest ≤ 9223372036854775807 by omega)]
      cases shareB p s.Job i <;> rfl
    · simp [h0]
  · intro k
    simp [play_day_play_L0]

/-- The day's state behind one more seat. -/
theorem DayP.next {p : ApiProgram} (hp : VP p) {pre : List ApiSeat} {ends : List Int} (hel : ends.length = p.Jobs.length) {d : PlayDay} (hd : DayP p pre ends d) (hpre : ∀ o ∈ pre, Seat p o) {s : ApiSeat} (hs : Seat p s) (hday : s.Day = d.number)
    (hne : ∀ o ∈ pre, o.Job ≠ s.Job) {len : Int} (hlen : 1 ≤ len) :
    DayP p (pre ++ [s]) (ends.set s.Job.toNat (beginS p pre ends s + len)) ⟨d.number, d.free.set s.Court (beginS p pre ends s + len), d.ends.set s.Job (beginS p pre ends s + len)⟩ := by
  have h3 := hs.three hp
  have h6 := hs.job.six hp
  have hold : ∀ o ∈ pre, endAt (ends.set s.Job.toNat (beginS p pre ends s + len)) o.Job = endAt ends o.Job := fun o ho => endAt_set_ne hs.job.1 (hpre o ho).job.1 (Ne.symm (hne o ho)) _
  have hnew : endAt (ends.set s.Job.toNat (beginS p pre ends s + len)) s.Job = beginS p pre ends s + len := endAt_set_self hel hs.job _
  have hw := beginS_le.1 (Int.le_refl (beginS p pre ends s))
  have hpos : 0 ≤ beginS p pre ends s := by
    have := (hs.job.vj hp).early0
    have := hw.2.1
    omega
  refine ⟨fun c h0 h1 x => ?_, fun k hk h => ?_, fun o ho hod => ?_⟩
  · have hc3 : 0 ≤ c ∧ c < 3 := by have := hp.nc3; unfold courts at h1; exact ⟨h0, by omega⟩
    simp only
    rw [A3.at_set _ _ _ _ h3 hc3]
    by_cases hc : s.Court = c
    · rw [if_pos hc]
      constructor
      · intro hx
        refine ⟨?_, fun o ho hod hoc => ?_⟩
        · have := hw.1
          rw [hday, hc] at this
          omega
        · rcases List.mem_append.1 ho with ho | ho
          · rw [hold o ho]
            have := (hw.2.2 o ho (by rw [hday]; exact hod)).1 (by rw [hc]; exact hoc)
            omega
          · simp at ho; subst ho
            rw [hnew]; exact hx
      · intro h
        have := h.2 s (by simp) hday hc
        rwa [hnew] at this
    · rw [if_neg hc, hd.free c h0 h1]
      constructor
      · rintro ⟨g1, g2⟩
        refine ⟨g1, fun o ho hod hoc => ?_⟩
        rcases List.mem_append.1 ho with ho | ho
        · rw [hold o ho]; exact g2 o ho hod hoc
        · simp at ho; subst ho
          exact absurd hoc hc
      · rintro ⟨g1, g2⟩
        refine ⟨g1, fun o ho hod hoc => ?_⟩
        have := g2 o (List.mem_append.2 (.inl ho)) hod hoc
        rwa [hold o ho] at this
  · simp only at h
    rw [A6.at_set _ _ _ _ h6 hk] at h
    by_cases hj : s.Job = k
    · exact ⟨s, by simp, hday, hj⟩
    · rw [if_neg hj] at h
      obtain ⟨o, ho, g1, g2⟩ := hd.ends1 k hk h
      exact ⟨o, List.mem_append.2 (.inl ho), g1, g2⟩
  · simp only at hod ⊢
    rcases List.mem_append.1 ho with ho | ho
    · rw [A6.at_set _ _ _ _ h6 ((hpre o ho).job.six hp), if_neg (Ne.symm (hne o ho)), hold o ho]
      exact hd.ends2 o ho hod
    · simp at ho; subst ho
      rw [A6.at_set _ _ _ _ h6 h6, if_pos rfl, hnew]
      exact ⟨rfl, by omega⟩

/-- The program's own way: the same run. -/
theorem times_eq {p : ApiProgram} (hp : VP p) {order : List ApiSeat} (ho : Ord p order) (hl : order.length ≤ 1000000) {f : ApiSpan → Option Int} {takes : List Int} (ht : Takes p takes) (hf : ∀ j, isJ p j → f (jobAt p j).Length = some (endAt takes j)) :
    play_times p order f = some (runN p order takes order.length) := by
  have hnj := hp.nj
  have hz : mk 8 (p.Jobs.length : Int) (0 : Int) = some (List.replicate p.Jobs.length 0) := mk_nat (by omega)
  have hseat := ho.seat
  unfold play_times
  obtain ⟨d0, hd0, od0⟩ := play_open_eq hp (Int.le_refl 0) (by simpa using hp.nd0)
  simp only [hz, hd0, Option.bind_some]
  have main := loop_st (S := PlayDay × List Int × List Int) (fun k i s => play_times_L0 f order order.length p k i s.1 s.2.1 s.2.2) order.length (fun _ _ => some (runN p order takes order.length))
    (fun i s => s.2 = runN p order takes i ∧ (0 ≤ s.1.number ∧ s.1.number.toNat < p.Days.length) ∧ (∀ o ∈ order.take i, o.Day ≤ s.1.number) ∧ (i = 0 ∨ ∃ o ∈ order.take i, o.Day = s.1.number) ∧ DayP p (order.take i) (runN p order takes i).2 s.1) ?_ ?_ BIG
    (d0, List.replicate p.Jobs.length 0, List.replicate p.Jobs.length 0) (BIG_lt (by omega)) ?_
  · exact main
  · rintro k i ⟨d, b, e⟩ hi ⟨hbe, hnum, hle, hlast, hd⟩ ih
    simp only at hbe hnum hle hlast hd ih ⊢
    obtain ⟨rfl, rfl⟩ : b = (runN p order takes i).1 ∧ e = (runN p order takes i).2 := by rw [← hbe]; exact ⟨rfl, rfl⟩
    have hs := hseat i hi
    have hlen := runN_length (p := p) (order := order) (takes := takes) i
    have hbd := runN_bound hp hseat ht i (by omega)
    have e1 : order.getD i default = order[i] := by simp [List.getD, hi]
    have hpreS : ∀ o ∈ order.take i, Seat p o := fun o h => by
      rw [List.mem_take_iff_getElem] at h
      obtain ⟨j, hj, rfl⟩ := h
      exact hseat j (by omega)
    have hne : ∀ o ∈ order.take i, o.Job ≠ order[i].Job := fun o h => by
      rw [List.mem_take_iff_getElem] at h
      obtain ⟨j, hj, rfl⟩ := h
      exact ho.fresh i hi j (by omega)
    have hsort : ∀ o ∈ order.take i, o.Day ≤ order[i].Day := fun o h => by
      rw [List.mem_take_iff_getElem] at h
      obtain ⟨j, hj, rfl⟩ := h
      exact ho.sorted i hi j (by omega)
    have hb : ∀ o ∈ order.take i, 0 ≤ endAt (runN p order takes i).2 o.Job ∧ endAt (runN p order takes i).2 o.Job ≤ 1000000000000 := fun o _ => by
      have := hbd o.Job.toNat
      simp only [endAt]
      omega
    have t1 := ht.one _ hs.job
    have t2 := ht.max _ hs.job
    have step : ∀ d' : PlayDay, d'.number = order[i].Day → DayP p (order.take i) (runN p order takes i).2 d' → 
        ((f (jobAt p order[i].Job).Length).bind fun r19 => (play_day_play d' p order[i] r19).bind fun r20 => (idx (runN p order takes i).1 order[i].Job).bind fun x21 => (idx (runN p order takes i).2 order[i].Job).bind fun x22 =>
          (play_times_L0 f order order.length p k) ((i + 1 : Nat) : Int) r20.2.2 ((runN p order takes i).1.set order[i].Job.toNat r20.1) ((runN p order takes i).2.set order[i].Job.toNat r20.2.1)) = some (runN p order takes order.length) := by
      intro d' hn' hd'
      rw [hf _ hs.job]
      simp only [Option.bind_some]
      rw [day_play_eq hp (fun o h => (hpreS o h).job) hb hd' hs hn'.symm ⟨by omega, by omega⟩]
      simp only [Option.bind_some, endAt_idx hlen.1 hs.job, endAt_idx hlen.2 hs.job]
      refine ih (⟨d'.number, d'.free.set order[i].Court (beginS p (order.take i) (runN p order takes i).2 order[i] + endAt takes order[i].Job), d'.ends.set order[i].Job (beginS p (order.take i) (runN p order takes i).2 order[i] + endAt takes order[i].Job)⟩, _, _) ⟨?_, ?_, ?_, ?_, ?_⟩
      · simp only [runN, e1]
      · simp only [hn']; exact ⟨hs.day0, hs.day⟩
      · intro o h
        rw [List.take_succ_eq_append_getElem hi] at h
        simp only [hn']
        rcases List.mem_append.1 h with h | h
        · exact hsort o h
        · simp at h; rw [h]; exact Int.le_refl _
      · right
        rw [List.take_succ_eq_append_getElem hi]
        exact ⟨order[i], List.mem_append.2 (.inr (List.mem_singleton.2 rfl)), hn'.symm⟩
      · rw [List.take_succ_eq_append_getElem hi]
        simp only [runN, e1]
        exact hd'.next hp hlen.2 hpreS hs hn'.symm hne t1
    simp only [play_times_L0, idx_nat hi, Option.bind_some, w64_succ (show i < 9223372036854775807 by omega), Int.ofNat_lt, hi, decide_true, cond_true, hs.job.idx]
    by_cases hday : order[i].Day = d.number
    · simp only [hday, decide_true, Bool.not_true, cond_false]
      exact step d hday.symm hd
    · obtain ⟨d', hd', od'⟩ := play_open_eq hp hs.day0 hs.day
      simp only [hday, decide_false, Bool.not_false, cond_true, hd', Option.bind_some]
      refine step d' od'.number (od'.dayP (fun o h => ?_) _)
      rcases hlast with rfl | ⟨o', ho', e'⟩
      · simp at h
      · have g1 := hle o h
        have g2 := hsort o' ho'
        omega
  · rintro k ⟨d, b, e⟩ ⟨hbe, _⟩
    simp only at hbe ⊢
    simp only [play_times_L0, play_times_K0, Int.lt_irrefl, decide_false, cond_false]
    rw [← hbe]
  · refine ⟨rfl, ?_, by simp, .inl rfl, od0.dayP (by simp) _⟩
    rw [od0.number]
    exact ⟨Int.le_refl 0, by simpa using hp.nd0⟩
end Go.Am
