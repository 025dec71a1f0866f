/- Layer 8, plain: a program with more room. -/
import Derived.Test.YtikcmpflkibomaaPlayPlain11
namespace Go.Am

/-- By how much there is more room. -/
structure EaseOK (xo xc xr xl xe : Int) : Prop where
  o0 : 0 ≤ xo
  c0 : 0 ≤ xc
  r0 : 0 ≤ xr
  l0 : 0 ≤ xl
  e0 : 0 ≤ xe
  o1 : xo ≤ 1440
  c1 : xc ≤ 1440
  r1 : xr ≤ 1440
  l1 : xl ≤ 1440
  e1 : xe ≤ 1440
def easeS (xo xc : Int) (s : ApiSpan) : ApiSpan := ⟨max 0 (s.Low - xo), min 1440 (s.High + xc)⟩
def easeJ (xl xe : Int) (j : ApiJob) : ApiJob := ⟨⟨j.Length.Low, max j.Length.Low (j.Length.High - xl)⟩, j.After, j.With, j.Due, max 0 (j.Earliest - xe)⟩
def easeP (xo xc xr xl xe : Int) (p : ApiProgram) : ApiProgram := ⟨p.Days.map fun d => d.map (easeS xo xc), max 0 (p.Rest - xr), p.Jobs.map (easeJ xl xe)⟩

theorem wi_iff {n lo hi : Int} : wi n lo hi = true ↔ lo ≤ n ∧ n ≤ hi := by simp [wi]
section
variable {xo xc xr xl xe : Int} {p : ApiProgram}
theorem ease_jobs : (easeP xo xc xr xl xe p).Jobs.length = p.Jobs.length := by simp [easeP]
theorem ease_days : (easeP xo xc xr xl xe p).Days.length = p.Days.length := by simp [easeP]
theorem ease_isJ {a : Int} : isJ (easeP xo xc xr xl xe p) a ↔ isJ p a := by simp [isJ, ease_jobs]
theorem ease_jobAt {a : Int} (h : isJ p a) : jobAt (easeP xo xc xr xl xe p) a = easeJ xl xe (jobAt p a) := by
  simp [jobAt, easeP, List.getD, h.2]
theorem ease_day {d : Nat} : (easeP xo xc xr xl xe p).Days.getD d [] = (p.Days.getD d []).map (easeS xo xc) := by
  simp only [easeP, List.getD, List.getElem?_map]
  cases p.Days[d]? <;> simp
theorem ease_courts : courts (easeP xo xc xr xl xe p) = courts p := by
  unfold courts
  rw [ease_day, List.length_map]
theorem ease_seat {s : ApiSeat} : Seat (easeP xo xc xr xl xe p) s ↔ Seat p s := by
  constructor
  · rintro ⟨h1, h2, h3, h4, h5⟩
    rw [ease_days] at h3; rw [ease_courts] at h5
    exact ⟨ease_isJ.1 h1, h2, h3, h4, h5⟩
  · rintro ⟨h1, h2, h3, h4, h5⟩
    exact ⟨ease_isJ.2 h1, h2, by rw [ease_days]; exact h3, h4, by rw [ease_courts]; exact h5⟩
theorem ease_span (hp : VP p) {s : ApiSeat} (h : Seat p s) : spanAt (easeP xo xc xr xl xe p) s.Day s.Court = easeS xo xc (spanAt p s.Day s.Court) := by
  have hc := h.court' hp
  unfold spanAt
  rw [ease_day, getD_get (by simpa using hc), getD_get hc, List.getElem_map]
theorem ease_share {a b : Int} (ha : isJ p a) (hb : isJ p b) : shareB (easeP xo xc xr xl xe p) a b = shareB p a b := by
  simp [shareB, ease_jobAt ha, ease_jobAt hb, easeJ]
theorem ease_mayC {pre : List ApiSeat} {s : ApiSeat} : mayC (easeP xo xc xr xl xe p) pre s = mayC p pre s := by
  by_cases h : isJ p s.Job
  · unfold mayC
    rw [ease_jobs, ease_days, ease_courts, ease_jobAt h]
    rfl
  · have h1 : wi s.Job 0 ((p.Jobs.length : Int) - 1) = false := by
      cases hw : wi s.Job 0 ((p.Jobs.length : Int) - 1) with
      | false => rfl
      | true => exact absurd (wi_int hw) h
    unfold mayC
    rw [ease_jobs, h1]
    simp
theorem ease_isOrd {l : List ApiSeat} : isOrd (easeP xo xc xr xl xe p) l = isOrd p l := by
  unfold isOrd
  rw [ease_jobs]
  congr 2
  funext i
  exact ease_mayC

theorem ease_valid (hx : EaseOK xo xc xr xl xe) (hv : valid p = true) : valid (easeP xo xc xr xl xe p) = true := by
  obtain ⟨o0, c0, r0, l0, e0, o1, c1, r1, l1, e1⟩ := hx
  simp only [valid, Bool.and_eq_true, range_all, decide_eq_true_eq] at hv ⊢
  obtain ⟨⟨⟨⟨h1, h2⟩, h3⟩, h4⟩, h5⟩ := hv
  rw [ease_days, ease_jobs]
  refine ⟨⟨⟨⟨h1, ?_⟩, h3⟩, fun d hd => ?_⟩, fun i hi => ?_⟩
  · have e : (easeP xo xc xr xl xe p).Rest = max 0 (p.Rest - xr) := rfl
    rw [e, wi_iff]
    rw [wi_iff] at h2
    omega
  · have := h4 d hd
    simp only [goodDay, Bool.and_eq_true, ease_day, List.length_map, List.all_map] at this ⊢
    refine ⟨this.1, ?_⟩
    have h6 := this.2
    rw [List.all_eq_true] at h6 ⊢
    intro s hs
    have h7 := h6 s hs
    show spanOK (easeS xo xc s) = true
    unfold spanOK at h7 ⊢
    rw [Bool.and_eq_true, Bool.and_eq_true, wi_iff, wi_iff, decide_eq_true_iff] at h7 ⊢
    have e1 : (easeS xo xc s).Low = max 0 (s.Low - xo) := rfl
    have e2 : (easeS xo xc s).High = min 1440 (s.High + xc) := rfl
    rw [e1, e2]
    omega
  · have := h5 i hi
    rw [getD_get hi] at this
    rw [getD_get (by rw [ease_jobs]; exact hi)]
    have e : (easeP xo xc xr xl xe p).Jobs[i]'(by rw [ease_jobs]; exact hi) = easeJ xl xe p.Jobs[i] := by simp [easeP]
    rw [e]
    unfold goodJob at this ⊢
    rw [Bool.and_eq_true, Bool.and_eq_true, Bool.and_eq_true, Bool.and_eq_true, Bool.and_eq_true, Bool.and_eq_true, wi_iff, wi_iff, decide_eq_true_iff, decide_eq_true_iff, decide_eq_true_iff] at this ⊢
    have e1 : (easeJ xl xe p.Jobs[i]).Length.Low = p.Jobs[i].Length.Low := rfl
    have e2 : (easeJ xl xe p.Jobs[i]).Length.High = max p.Jobs[i].Length.Low (p.Jobs[i].Length.High - xl) := rfl
    have e3 : (easeJ xl xe p.Jobs[i]).Earliest = max 0 (p.Jobs[i].Earliest - xe) := rfl
    have e4 : (easeJ xl xe p.Jobs[i]).Due = p.Jobs[i].Due := rfl
    have e5 : (easeJ xl xe p.Jobs[i]).After = p.Jobs[i].After := rfl
    have e6 : (easeJ xl xe p.Jobs[i]).With = p.Jobs[i].With := rfl
    rw [e1, e2, e3, e4, e5, e6]
    obtain ⟨⟨⟨⟨⟨⟨a1, a2⟩, a3⟩, a4⟩, a5⟩, a6⟩, a7⟩ := this
    exact ⟨⟨⟨⟨⟨⟨a1, by omega⟩, by omega⟩, a4⟩, by omega⟩, a6⟩, a7⟩

theorem ease_beginS (hx : EaseOK xo xc xr xl xe) (hp : VP p) {pre : List ApiSeat} (hpre : ∀ o ∈ pre, Seat p o) {ends ends' : List Int} {s : ApiSeat} (hs : Seat p s) (h : ∀ o ∈ pre, endAt ends' o.Job ≤ endAt ends o.Job) :
    beginS (easeP xo xc xr xl xe p) pre ends' s ≤ beginS p pre ends s := by
  rw [beginS_le]
  have hw := beginS_le.1 (Int.le_refl (beginS p pre ends s))
  have hr := hx.r0
  have hrest := hp.rest
  have hh := hs.hours hp
  have he := (hs.job.vj hp).early0
  have e0 := hx.e0
  have o0 := hx.o0
  refine ⟨?_, ?_, fun o ho hd => ⟨fun hc => ?_, fun hs' => ?_⟩⟩
  · rw [ease_span hp hs]
    have := hw.1
    simp only [easeS]; omega
  · rw [ease_jobAt hs.job]
    have := hw.2.1
    simp only [easeJ]; omega
  · have := (hw.2.2 o ho hd).1 hc; have := h o ho; omega
  · rw [ease_share hs.job (hpre o ho).job] at hs'
    have := (hw.2.2 o ho hd).2 hs'; have := h o ho
    simp only [easeP]; omega

/-- With more room all comes earlier. -/
theorem ease_run (hx : EaseOK xo xc xr xl xe) (hp : VP p) {order : List ApiSeat} (ho : ∀ i (h : i < order.length), Seat p order[i]) {t t' : List Int} (h : ∀ j, isJ p j → endAt t' j ≤ endAt t j) : ∀ i, i ≤ order.length → ∀ k : Nat,
    (runN (easeP xo xc xr xl xe p) order t' i).1.getD k 0 ≤ (runN p order t i).1.getD k 0 ∧ (runN (easeP xo xc xr xl xe p) order t' i).2.getD k 0 ≤ (runN p order t i).2.getD k 0
  | 0, _, k => by simp [runN, ease_jobs]
  | i + 1, hi, k => by
    have ih := ease_run hx hp ho h i (by omega)
    have e1 : order.getD i default = order[i] := by simp [List.getD, show i < order.length by omega]
    have hs := ho i (by omega)
    have hb := ease_beginS hx hp (pre := order.take i) (s := order[i]) (ends := (runN p order t i).2) (ends' := (runN (easeP xo xc xr xl xe p) order t' i).2) (fun o hm => by
      rw [List.mem_take_iff_getElem] at hm
      obtain ⟨j, hj, rfl⟩ := hm
      exact ho j (by omega)) hs (fun o _ => (ih o.Job.toNat).2)
    have ht := h _ hs.job
    have hl := runN_length (p := p) (order := order) (takes := t) i
    have hl' := runN_length (p := easeP xo xc xr xl xe p) (order := order) (takes := t') i
    rw [ease_jobs] at hl'
    have := ih k
    simp only [runN, e1]
    rw [list_getD_set, list_getD_set, list_getD_set, list_getD_set, hl.1, hl.2, hl'.1, hl'.2]
    split
    · exact ⟨hb, by omega⟩
    · exact this

theorem ease_low (hx : EaseOK xo xc xr xl xe) {j : Int} (hj : isJ p j) : endAt (lowT (easeP xo xc xr xl xe p)) j ≤ endAt (lowT p) j := by
  rw [lowT, endAt_map _ (ease_isJ.2 hj), lowT, endAt_map _ hj, ease_jobAt hj]
  exact Int.le_refl _
theorem ease_high (hx : EaseOK xo xc xr xl xe) (hp : VP p) {j : Int} (hj : isJ p j) : endAt (highT (easeP xo xc xr xl xe p)) j ≤ endAt (highT p) j := by
  rw [highT, endAt_map _ (ease_isJ.2 hj), highT, endAt_map _ hj, ease_jobAt hj]
  have := hx.l0
  have := (hj.vj hp).le
  simp only [easeJ]; omega

theorem ease_fits (hx : EaseOK xo xc xr xl xe) (hp : VP p) {l : List ApiSeat} (ho : isOrd p l = true) (hf : fitsB p l = true) : fitsB (easeP xo xc xr xl xe p) l = true := by
  have hord := (Ord_of ho).1
  have hr := ease_run hx hp hord.seat (t := highT p) (t' := highT (easeP xo xc xr xl xe p)) (fun j hj => ease_high hx hp hj) l.length (Nat.le_refl _)
  rw [fitsB_iff] at hf ⊢
  intro o ho'
  have h1 := hf o ho'
  have h2 := (hr o.Job.toNat).2
  have hs : Seat p o := by
    obtain ⟨i, hi, rfl⟩ := List.getElem_of_mem ho'
    exact hord.seat i hi
  rw [ease_span hp hs]
  have hh := hs.hours hp
  have := hx.c0
  simp only [endAt] at h1 ⊢
  simp only [easeS]
  omega
theorem ease_full (hx : EaseOK xo xc xr xl xe) (hp : VP p) {l : List ApiSeat} {n m : Int} (h : Full p n none m l) : Full (easeP xo xc xr xl xe p) n none m l :=
  ⟨by rw [ease_isOrd]; exact h.ord, ease_fits hx hp h.ord h.fits, h.days, h.moves⟩

/-- Days is no greater. -/
theorem ease_Days (hx : EaseOK xo xc xr xl xe) (hp : VP p) (hv : valid p = true) {m e : Int} (h : play_Days p = some (m, e)) :
    ∃ n f, play_Days (easeP xo xc xr xl xe p) = some (n, f) ∧ (e = 0 → f = 0 ∧ n ≤ m) := by
  have hv' := ease_valid hx hv
  have hp' := VP_of hv'
  rcases Days_Best hp hv with ⟨n, l, h1, _, _, h0, h2, h3, _⟩ | ⟨h1, _, _⟩
  · rw [h1] at h
    simp only [Option.some.injEq, Prod.mk.injEq] at h
    obtain ⟨rfl, rfl⟩ := h
    have h3' := ease_full hx hp h3
    rcases Days_Best hp' hv' with ⟨n', l', h1', _, _, h0', h2', _, hno⟩ | ⟨_, _, hno⟩
    · refine ⟨n', 0, h1', fun _ => ⟨rfl, ?_⟩⟩
      apply Int.not_lt.1
      intro hlt
      exact hno n h0 hlt l h3'
    · rw [ease_days] at hno
      exact absurd h3' (hno n h0 (by omega) l)
  · rw [h1] at h
    simp only [Option.some.injEq, Prod.mk.injEq] at h
    obtain ⟨rfl, rfl⟩ := h
    rcases Days_Best hp' hv' with ⟨n', l', h1', _⟩ | ⟨h1', _⟩
    · exact ⟨n', 0, h1', fun h => by omega⟩
    · exact ⟨0, 3, h1', fun h => by omega⟩
end
end Go.Am
