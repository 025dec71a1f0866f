/- Layer 8, plain: what the search finds is an order that fits; the least number of days. -/
import Derived.Test.YtikcmpflkibomaaPlayPlain9
namespace Go.Am

/-- An order that fits, with days below a number, that moves at most so many. -/
structure Full (p : ApiProgram) (days : Int) (old : Option (List ApiSeat)) (m : Int) (l : List ApiSeat) : Prop where
  ord : isOrd p l = true
  fits : fitsB p l = true
  days : ∀ s ∈ l, s.Day < days
  moves : (l.map (mv old)).sum ≤ m

theorem isOrd_of {p : ApiProgram} {l : List ApiSeat} (h : Ord p l) (hl : l.length = p.Jobs.length) : isOrd p l = true := by
  simp only [isOrd, Bool.and_eq_true, range_all, decide_eq_true_eq]
  refine ⟨fun i hi => ?_, hl⟩
  rw [getD_get hi]
  have hs := h.seat i hi
  have hdue := h.due i hi
  simp only [mayC, Bool.and_eq_true, Bool.not_eq_true', List.any_eq_false, List.all_eq_true, decide_eq_true_eq, List.any_eq_true, wi]
  refine ⟨⟨⟨⟨⟨⟨hs.job.1, ?_⟩, fun o ho => ?_⟩, hs.day0, ?_⟩, hs.court0, ?_⟩, fun o ho => ?_⟩, fun a ha => ?_⟩
  · have := hs.job.2; omega
  · rw [List.mem_take_iff_getElem] at ho
    obtain ⟨j, hj, rfl⟩ := ho
    exact h.fresh i hi j (by omega)
  · have := hs.day; omega
  · have := hs.court; omega
  · rw [List.mem_take_iff_getElem] at ho
    obtain ⟨j, hj, rfl⟩ := ho
    exact h.sorted i hi j (by omega)
  · obtain ⟨j, hj, e⟩ := h.after i hi a ha
    exact ⟨l[j], by rw [List.mem_take_iff_getElem]; exact ⟨j, by omega, rfl⟩, e⟩

/-- All of a beginning end in time. -/
def FitP (p : ApiProgram) (pre : List ApiSeat) : Prop := ∀ o ∈ pre, endAt (runN p pre (highT p) pre.length).2 o.Job ≤ (spanAt p o.Day o.Court).High
theorem fitsB_iff {p : ApiProgram} {l : List ApiSeat} : fitsB p l = true ↔ FitP p l := by
  unfold fitsB FitP
  rw [range_all]
  constructor
  · intro h o ho
    obtain ⟨i, hi, rfl⟩ := List.getElem_of_mem ho
    have := h i hi
    rw [getD_get hi] at this
    exact of_decide_eq_true this
  · intro h i hi
    rw [getD_get hi]
    exact decide_eq_true (h _ (List.getElem_mem hi))

theorem full_iff {p : ApiProgram} (hp : VP p) {old : Option (List ApiSeat)} {m0 : Int} {pre : List ApiSeat} {x : PlayState} (h : Rep p old m0 pre x) : x.done = fullN p ↔ pre.length = p.Jobs.length := by
  obtain ⟨d, hd, hdl⟩ := h.done
  have hnj := hp.nj
  have hd64 : d < 64 := Nat.lt_of_lt_of_le hdl (pow_le hnj)
  have h1 := bits_full ⟨p.Jobs.length, by omega⟩ ⟨d, hd64⟩ hdl
  have h2 := full_eq ⟨p.Jobs.length, by omega⟩
  simp only at h1 h2
  unfold fullN
  rw [h2, hd, ← h.count, hd, ← h1]
  omega

theorem runN_push {p : ApiProgram} (pre : List ApiSeat) (s : ApiSeat) (hs : isJ p s.Job) : (runN p (pre ++ [s]) (highT p) (pre ++ [s]).length).2 = (runN p pre (highT p) pre.length).2.set s.Job.toNat (beginS p pre (runN p pre (highT p) pre.length).2 s + (jobAt p s.Job).Length.High) := by
  have e5 : (pre ++ [s]).length = pre.length + 1 := by simp
  rw [e5]
  have e6 : (pre ++ [s]).getD pre.length default = s := by simp [List.getD]
  have e7 : (pre ++ [s]).take pre.length = pre := by simp
  simp only [runN, runN_append pre.length (Nat.le_refl _), e6, e7]
  have e8 : endAt (highT p) s.Job = (jobAt p s.Job).Length.High := by rw [highT, endAt_map _ hs]
  rw [e8]

theorem compl_to {p : ApiProgram} (hp : VP p) {days : Int} (hdays : days ≤ p.Days.length) {old : Option (List ApiSeat)} {m0 : Int} : ∀ (l pre : List ApiSeat) (x : PlayState), Rep p old m0 pre x → FitP p pre → (∀ o ∈ pre, o.Day < days) →
    Compl p days old x l → Full p days old m0 (pre ++ l)
  | [], pre, x, hx, hf, hd, hc => by
    rw [List.append_nil]
    refine ⟨isOrd_of hx.ord ((full_iff hp hx).1 hc), fitsB_iff.2 hf, hd, ?_⟩
    have := hx.moves
    have := hx.pos
    omega
  | s :: l, pre, x, hx, hf, hd, ⟨_, x', hst, hc⟩ => by
    obtain ⟨hx', hs, hend⟩ := hx.step hp hdays hst
    have hlen := runN_length (p := p) (order := pre) (takes := highT p) pre.length
    have := compl_to hp hdays l (pre ++ [s]) x' hx' (fun o ho => ?_) (fun o ho => ?_) hc
    · simpa using this
    · rcases List.mem_append.1 ho with ho | ho
      · have hne : o.Job ≠ s.Job := fun e => by
          have := (hx.bits _ hs.job).2 ⟨o, ho, e⟩
          rw [hst.new] at this; cases this
        have hoj : isJ p o.Job := by
          obtain ⟨i, hi, rfl⟩ := List.getElem_of_mem ho
          exact (hx.ord.seat i hi).job
        rw [runN_push pre s hs.job, endAt_set_ne hs.job.1 hoj.1 (Ne.symm hne)]
        exact hf o ho
      · simp at ho; subst ho; exact hend
    · rcases List.mem_append.1 ho with ho | ho
      · exact hd o ho
      · simp at ho; subst ho; exact hst.days

theorem sum_nonneg (old : Option (List ApiSeat)) (l : List ApiSeat) : 0 ≤ (l.map (mv old)).sum := by
  induction l with
  | nil => simp
  | cons a l ih => have := (mv_01 old a).1; simp; omega

theorem compl_of {p : ApiProgram} (hp : VP p) {days : Int} (hdays : days ≤ p.Days.length) {old : Option (List ApiSeat)} {m0 : Int} : ∀ (l pre : List ApiSeat) (x : PlayState), Rep p old m0 pre x → Full p days old m0 (pre ++ l) → Compl p days old x l
  | [], pre, x, hx, hf => by
    rw [List.append_nil] at hf
    exact (full_iff hp hx).2 (Ord_of hf.ord).2
  | s :: l, pre, x, hx, hf => by
    obtain ⟨ho, hol⟩ := Ord_of hf.ord
    have hlenA : (pre ++ s :: l).length = pre.length + 1 + l.length := by simp; omega
    have hi : pre.length < (pre ++ s :: l).length := by omega
    have es : (pre ++ s :: l)[pre.length] = s := by simp
    have ep : ∀ j (h : j < pre.length), (pre ++ s :: l)[j]'(by omega) = pre[j] := fun j h => List.getElem_append_left h
    have hs : Seat p s := es ▸ ho.seat _ hi
    have hnd := hp.nd
    have hnf : x.done ≠ fullN p := fun e => by
      have := (full_iff hp hx).1 e
      omega
    have hnew : bit x.done s.Job.toNat = false := by
      cases hb : bit x.done s.Job.toNat with
      | false => rfl
      | true =>
        obtain ⟨o, hom, e⟩ := (hx.bits _ hs.job).1 hb
        obtain ⟨j, hj, rfl⟩ := List.getElem_of_mem hom
        have := ho.fresh _ hi j hj
        rw [ep j hj, es] at this
        exact absurd e this
    have hafter : ∀ a ∈ (jobAt p s.Job).After, bit x.done a.toNat = true := fun a ha => by
      have hja : isJ p a := by
        have := (hs.job.vj hp).after a ha
        have := hs.job.2
        exact ⟨by omega, by omega⟩
      obtain ⟨j, hj, e⟩ := ho.after _ hi a (by rw [es]; exact ha)
      rw [ep j hj] at e
      exact (hx.bits a hja).2 ⟨pre[j], List.getElem_mem _, e⟩
    have hday0 : x.day.number ≤ s.Day := by
      rcases hx.last with ⟨_, e⟩ | ⟨o, hom, e⟩
      · rw [e]; exact hs.day0
      · obtain ⟨j, hj, rfl⟩ := List.getElem_of_mem hom
        have := ho.sorted _ hi j hj
        rw [ep j hj, es] at this
        omega
    obtain ⟨now, e1, e2, e3, e4⟩ := plays_ok hp hx hs hday0
    have hend : beginS p pre (runN p pre (highT p) pre.length).2 s + (jobAt p s.Job).Length.High ≤ (spanAt p s.Day s.Court).High := by
      have h1 := fitsB_iff.1 hf.fits s (by simp)
      have h2 := (runN_keep ho (t := highT p) hi (pre ++ s :: l).length hi (Nat.le_refl _)).2
      rw [es] at h2
      have e7 : (pre ++ s :: l).take pre.length = pre := by simp
      rw [e7, runN_append pre.length (Nat.le_refl _), highT, endAt_map _ hs.job] at h2
      rw [← highT] at h2
      rw [h2] at h1
      exact h1
    have hmv := mv_01 old s
    have hsum := hf.moves
    have hl0 := sum_nonneg old l
    have hp0 := sum_nonneg old pre
    have hm := hx.moves
    have hm0 := hx.m0
    simp only [List.map_append, List.sum_append, List.map_cons, List.sum_cons] at hsum
    have hxp := hx.pos
    have hw : w64 (x.moves - mv old s) = x.moves - mv old s := w64_ok (by omega) (by omega)
    have hst : SStep p days old x s ⟨⟨now.number, now.free.set s.Court (beginS p pre (runN p pre (highT p) pre.length).2 s + (jobAt p s.Job).Length.High), now.ends.set s.Job (beginS p pre (runN p pre (highT p) pre.length).2 s + (jobAt p s.Job).Length.High)⟩, bOr x.done (w64 (1 * 2 ^ (min s.Job.toNat 64))), w64 (x.moves - mv old s)⟩ := by
      refine ⟨hs.job, hnew, hafter, hday0, hf.days s (by simp), by have := ho.due _ hi; rw [es] at this; exact this, hs.court0, hs.court, ⟨now, _, _, _, e1, e4, hend, rfl⟩, ?_⟩
      simp only
      rw [hw]
      omega
    obtain ⟨hx', _, _⟩ := hx.step hp hdays hst
    exact ⟨hnf, _, hst, compl_of hp hdays l (pre ++ [s]) _ hx' (by simpa using hf)⟩

theorem order_spec {p : ApiProgram} (hp : VP p) {days : Int} (h0 : 0 ≤ days) (hdays : days ≤ p.Days.length) {old : Option (List ApiSeat)} (hold : ∀ l, old = some l → l.length ≤ 9223372036854775807) {moves : Int} (hm0 : 0 ≤ moves) (hm1 : moves ≤ 1000) :
    ∃ l b, play_order p days old moves = some (l, b) ∧ l.length ≤ 6 ∧ (b = true → Full p days old moves l) ∧ (b = false → l = [] ∧ ∀ l, ¬ Full p days old moves l) := by
  have hnj := hp.nj
  unfold play_order
  by_cases hz : days = 0
  · subst hz
    simp only [decide_true, cond_true]
    refine ⟨[], _, rfl, by simp, fun h => ?_, fun h => ⟨rfl, fun l hl => ?_⟩⟩
    · have hj : p.Jobs.length = 0 := by simpa using h
      exact ⟨by simp [isOrd, hj], by simp [fitsB], by simp, by simpa using hm0⟩
    · have hj : p.Jobs.length ≠ 0 := by
        intro e
        simp [e] at h
      obtain ⟨ho, hlen⟩ := Ord_of hl.ord
      have hi : 0 < l.length := by omega
      have := hl.days _ (List.getElem_mem hi)
      have := (ho.seat 0 hi).day0
      omega
  · have hd : decide (days = 0) = false := by simpa using hz
    obtain ⟨d0, hd0, od0⟩ := play_open_eq hp (Int.le_refl 0) (by simpa using hp.nd0)
    simp only [hd, cond_false, hd0, Option.bind_some]
    have hrep : Rep p old moves [] ⟨d0, 0, moves⟩ := by
      refine ⟨⟨by simp, by simp, by simp, by simp, by simp⟩, ?_, by simp, .inl ⟨rfl, od0.number⟩, od0.dayP (by simp) _, ⟨0, rfl, Nat.pow_pos (by omega)⟩, fun j hj => ?_, ?_, by simp, hm0, hm1⟩
      · simp only; rw [od0.number]; exact ⟨Int.le_refl 0, by simpa using hp.nd0⟩
      · have h6 := hj.six hp
        have := bits_zero ⟨j.toNat, by omega⟩
        simp only at this
        simp [this]
      · simp only [cnt, List.length_nil]
        have : ((List.range 6).filter fun j => bit 0 j) = [] := by
          rw [List.filter_eq_nil_iff]
          intro j hj
          have := bits_zero ⟨j, by simpa using hj⟩
          simp only at this
          simp [this]
        rw [this]; rfl
    have hc0 : cnt (PlayState.mk d0 0 moves).done = 0 := hrep.count
    obtain ⟨l, b, S', hr, ht, hf⟩ := from_spec hp hdays hold BIG [] ⟨d0, 0, moves⟩ [] hrep (by unfold BIG; omega) ⟨fun y hy => by simp [mget] at hy, fun y => by simp [mget]⟩
    rw [show play_search_from = play_search_from_r BIG from rfl, hr]
    refine ⟨l, b, rfl, ?_, fun hb => ?_, fun hb => ⟨(hf hb).1, fun l' hl' => ?_⟩⟩
    · cases b with
      | true => have := (ht rfl).2; omega
      | false => rw [(hf rfl).1]; simp
    · have := compl_to hp hdays l [] _ hrep (fun o ho => by simp at ho) (by simp) (ht hb).1
      simpa using this
    · exact (hf hb).2.1 l' (compl_of hp hdays l' [] _ hrep (by simpa using hl'))
end Go.Am
