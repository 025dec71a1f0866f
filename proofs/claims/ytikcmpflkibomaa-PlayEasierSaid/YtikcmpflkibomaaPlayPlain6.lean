/- Layer 8, plain: Times and Fits; what a run answers to. -/
import Derived.Test.YtikcmpflkibomaaPlayPlain5
namespace Go.Am

def lowT (p : ApiProgram) : List Int := p.Jobs.map (·.Length.Low)
def highT (p : ApiProgram) : List Int := p.Jobs.map (·.Length.High)
theorem endAt_map {p : ApiProgram} (g : ApiJob → Int) {j : Int} (hj : isJ p j) : endAt (p.Jobs.map g) j = g (jobAt p j) := by
  simp [endAt, jobAt, List.getD, hj.2]
theorem takes_low {p : ApiProgram} (hp : VP p) : Takes p (lowT p) :=
  ⟨by simp [lowT], fun j hj => by rw [lowT, endAt_map _ hj]; exact (hj.vj hp).low, fun j hj => by rw [lowT, endAt_map _ hj]; have := (hj.vj hp).le; have := (hj.vj hp).high; omega⟩
theorem takes_high {p : ApiProgram} (hp : VP p) : Takes p (highT p) :=
  ⟨by simp [highT], fun j hj => by rw [highT, endAt_map _ hj]; have := (hj.vj hp).le; have := (hj.vj hp).low; omega, fun j hj => by rw [highT, endAt_map _ hj]; exact (hj.vj hp).high⟩

/-- The run of the least and of the greatest lengths. -/
def runL (p : ApiProgram) (order : List ApiSeat) : List Int × List Int := runN p order (lowT p) order.length
def runH (p : ApiProgram) (order : List ApiSeat) : List Int × List Int := runN p order (highT p) order.length

theorem times_low {p : ApiProgram} (hp : VP p) {order : List ApiSeat} (ho : Ord p order) (hl : order.length ≤ 1000000) : play_times p order (fun y => play_shortest y) = some (runL p order) :=
  times_eq hp ho hl (takes_low hp) fun j hj => by simp [play_shortest, lowT, endAt_map _ hj]
theorem times_high {p : ApiProgram} (hp : VP p) {order : List ApiSeat} (ho : Ord p order) (hl : order.length ≤ 1000000) : play_times p order (fun y => play_longest y) = some (runH p order) :=
  times_eq hp ho hl (takes_high hp) fun j hj => by simp [play_longest, highT, endAt_map _ hj]

def spansOf (p : ApiProgram) (a c : List Int) : List ApiSpan := (List.range p.Jobs.length).map fun (j : Nat) => ApiSpan.mk (endAt a j) (endAt c j)
theorem play_Times_eq {p : ApiProgram} (hp : VP p) (hv : valid p = true) {order : List ApiSeat} (hl : order.length ≤ 1000000) (ho : isOrd p order = true) :
    play_Times p order = some (spansOf p (runL p order).1 (runH p order).1, spansOf p (runL p order).2 (runH p order).2, 0) := by
  have hord := (Ord_of ho).1
  have hnj := hp.nj
  have l1 := runN_length (p := p) (order := order) (takes := lowT p) order.length
  have l2 := runN_length (p := p) (order := order) (takes := highT p) order.length
  unfold play_Times
  simp only [play_Check_eq p hp.small, hv, play_isOrder_eq' hp order hl, ho, Option.bind_some, times_low hp hord hl, times_high hp hord hl, cond_true, decide_true, Bool.not_true, cond_false]
  generalize hA : runL p order = A
  generalize hC : runH p order = C
  have l1' : A.1.length = p.Jobs.length ∧ A.2.length = p.Jobs.length := by rw [← hA]; exact l1
  have l2' : C.1.length = p.Jobs.length ∧ C.2.length = p.Jobs.length := by rw [← hC]; exact l2
  let σ : List Int → List Int → Nat → List ApiSpan := fun a c i => (List.range i).map fun (j : Nat) => ApiSpan.mk (endAt a j) (endAt c j)
  have main := loop_all (fun k i => play_Times_L0 A.1 A.2 C.1 C.2 p.Jobs.length k i (σ A.1 C.1 i.toNat) (σ A.2 C.2 i.toNat)) p.Jobs.length (fun _ => true) none (some (σ A.1 C.1 p.Jobs.length, σ A.2 C.2 p.Jobs.length, 0)) ?_ ?_ BIG (BIG_lt (by omega))
  · have e : (List.range p.Jobs.length).all (fun _ => true) = true := by simp
    rw [e] at main
    exact main
  · intro k i hi
    have hj : isJ p (i : Int) := ⟨by omega, by simpa using hi⟩
    have e1 : ∀ a c, app 16 (σ a c i) [ApiSpan.mk (endAt a (i : Int)) (endAt c (i : Int))] = some (σ a c (i + 1)) := by
      intro a c
      rw [app_ok (by simp [σ]; omega)]
      simp [σ, List.range_succ]
    simp only [play_Times_L0, Int.toNat_natCast, Int.ofNat_lt, hi, decide_true, cond_true, endAt_idx l1'.1 hj, endAt_idx l1'.2 hj, endAt_idx l2'.1 hj, endAt_idx l2'.2 hj, Option.bind_some, e1, w64_succ (show i < 9223372036854775807 by omega)]
  · intro k
    simp [play_Times_L0, play_Times_K0]

/-- An order fits. -/
def fitsB (p : ApiProgram) (order : List ApiSeat) : Bool := (List.range order.length).all fun i => decide (endAt (runH p order).2 (order.getD i default).Job ≤ (spanAt p (order.getD i default).Day (order.getD i default).Court).High)
theorem play_Fits_eq {p : ApiProgram} (hp : VP p) (hv : valid p = true) {order : List ApiSeat} (hl : order.length ≤ 1000000) (ho : isOrd p order = true) :
    ∃ n, play_Fits p order = some (fitsB p order, n, 0) := by
  have hord := (Ord_of ho).1
  have l2 := runN_length (p := p) (order := order) (takes := highT p) order.length
  have l2' : (runH p order).1.length = p.Jobs.length ∧ (runH p order).2.length = p.Jobs.length := l2
  unfold play_Fits
  simp only [play_Check_eq p hp.small, hv, play_isOrder_eq' hp order hl, ho, Option.bind_some, times_high hp hord hl, cond_true, decide_true, Bool.not_true, cond_false]
  have key : ∀ m k i, order.length - i = m → i ≤ order.length → m < k → ∃ n, play_Fits_L0 (runH p order).2 order order.length p k (i : Int) = some ((List.range' i (order.length - i)).all (fun i => decide (endAt (runH p order).2 (order.getD i default).Job ≤ (spanAt p (order.getD i default).Day (order.getD i default).Court).High)), n, 0) := by
    intro m
    induction m with
    | zero =>
      intro k i hm hi hk
      have : i = order.length := by omega
      subst this
      cases k with
      | zero => omega
      | succ k => exact ⟨-1, by simp [play_Fits_L0, play_Fits_K0]⟩
    | succ m ih =>
      intro k i hm hi hk
      cases k with
      | zero => omega
      | succ k =>
        have hi' : i < order.length := by omega
        have hs := hord.seat i hi'
        have e1 : order.getD i default = order[i] := by simp [List.getD, hi']
        obtain ⟨n, hn⟩ := ih k (i + 1) (by omega) (by omega) (by omega)
        have e : order.length - i = (order.length - (i + 1)) + 1 := by omega
        rw [e, List.range'_succ]
        simp only [play_Fits_L0, idx_nat hi', Option.bind_some, Int.ofNat_lt, hi', decide_true, cond_true, endAt_idx l2'.2 hs.job, hs.days, hs.span hp, w64_succ (show i < 9223372036854775807 by omega), hn, List.all_cons, e1]
        by_cases h : endAt (runH p order).2 order[i].Job ≤ (spanAt p order[i].Day order[i].Court).High
        · have hlt : decide ((spanAt p order[i].Day order[i].Court).High < endAt (runH p order).2 order[i].Job) = false := by simp; omega
          exact ⟨n, by simp [h, hlt]⟩
        · have hlt : decide ((spanAt p order[i].Day order[i].Court).High < endAt (runH p order).2 order[i].Job) = true := by simp; omega
          exact ⟨order[i].Job, by simp [h, hlt]⟩
  obtain ⟨n, hn⟩ := key order.length BIG 0 (by omega) (by omega) (BIG_lt (by omega))
  refine ⟨n, ?_⟩
  rw [show ((0 : Nat) : Int) = 0 from rfl] at hn
  rw [hn]
  simp [fitsB, List.range_eq_range']

theorem endAt_mono {l l' : List Int} {j : Int} (h : ∀ k : Nat, l.getD k 0 ≤ l'.getD k 0) : endAt l j ≤ endAt l' j := h _
theorem beginS_mono {p : ApiProgram} {pre : List ApiSeat} {ends ends' : List Int} {s : ApiSeat} (h : ∀ o ∈ pre, endAt ends o.Job ≤ endAt ends' o.Job) : beginS p pre ends s ≤ beginS p pre ends' s := by
  rw [beginS_le]
  have hw := beginS_le.1 (Int.le_refl (beginS p pre ends' s))
  refine ⟨hw.1, hw.2.1, fun o ho hd => ⟨fun hc => ?_, fun hs => ?_⟩⟩
  · have := (hw.2.2 o ho hd).1 hc; have := h o ho; omega
  · have := (hw.2.2 o ho hd).2 hs; have := h o ho; omega
theorem list_getD_set {l : List Int} {i j : Nat} {v : Int} : (l.set i v).getD j 0 = if i = j ∧ j < l.length then v else l.getD j 0 := by
  by_cases h : i = j
  · subst h
    by_cases h2 : i < l.length
    · simp [List.getD, h2]
    · simp [List.getD, h2]
  · simp [List.getD, List.getElem?_set_ne h, h]
/-- With longer matches all comes later. -/
theorem runN_mono {p : ApiProgram} {order : List ApiSeat} (ho : ∀ i (h : i < order.length), Seat p order[i]) {t t' : List Int} (h : ∀ j, isJ p j → endAt t j ≤ endAt t' j) : ∀ i, i ≤ order.length → ∀ k : Nat,
    (runN p order t i).1.getD k 0 ≤ (runN p order t' i).1.getD k 0 ∧ (runN p order t i).2.getD k 0 ≤ (runN p order t' i).2.getD k 0
  | 0, _, k => by simp [runN]
  | i + 1, hi, k => by
    have ih := runN_mono ho h i (by omega)
    have e1 : order.getD i default = order[i] := by simp [List.getD, show i < order.length by omega]
    have hs := ho i (by omega)
    have hb := beginS_mono (p := p) (pre := order.take i) (s := order[i]) (fun o _ => (ih o.Job.toNat).2)
    have ht := h _ hs.job
    have hl := runN_length (p := p) (order := order) (takes := t) i
    have hl' := runN_length (p := p) (order := order) (takes := t') i
    have := ih k
    simp only [runN, e1]
    rw [list_getD_set, list_getD_set, list_getD_set, list_getD_set, hl.1, hl.2, hl'.1, hl'.2]
    split
    · exact ⟨hb, by omega⟩
    · exact this

/-- Where a job was played, its hours stay. -/
theorem runN_keep {p : ApiProgram} {order : List ApiSeat} (ho : Ord p order) {t : List Int} {k : Nat} (hk : k < order.length) : ∀ m, k < m → m ≤ order.length →
    endAt (runN p order t m).1 order[k].Job = beginS p (order.take k) (runN p order t k).2 order[k] ∧ endAt (runN p order t m).2 order[k].Job = beginS p (order.take k) (runN p order t k).2 order[k] + endAt t order[k].Job
  | 0, h, _ => by omega
  | m + 1, h, hm => by
    have hl := runN_length (p := p) (order := order) (takes := t) m
    have e1 : order.getD m default = order[m] := by simp [List.getD, show m < order.length by omega]
    have hs := ho.seat k hk
    have hsm := ho.seat m (by omega)
    simp only [runN, e1]
    by_cases hkm : k = m
    · subst hkm
      exact ⟨endAt_set_self hl.1 hs.job _, endAt_set_self hl.2 hs.job _⟩
    · have ih := runN_keep ho (t := t) hk m (by omega) (by omega)
      have hne := ho.fresh m (by omega) k (by omega)
      rw [endAt_set_ne hsm.job.1 hs.job.1 (Ne.symm hne), endAt_set_ne hsm.job.1 hs.job.1 (Ne.symm hne)]
      exact ih
/-- What a whole run answers to. -/
theorem run_final {p : ApiProgram} {order : List ApiSeat} (ho : Ord p order) {t : List Int} {i : Nat} (hi : i < order.length) :
    waits p (order.take i) (runN p order t order.length).2 order[i] (endAt (runN p order t order.length).1 order[i].Job) ∧ endAt (runN p order t order.length).2 order[i].Job = endAt (runN p order t order.length).1 order[i].Job + endAt t order[i].Job := by
  have h := runN_keep ho (t := t) hi order.length hi (Nat.le_refl _)
  refine ⟨?_, by rw [h.1, h.2]⟩
  rw [h.1]
  have hw := beginS_le.1 (Int.le_refl (beginS p (order.take i) (runN p order t i).2 order[i]))
  refine ⟨hw.1, hw.2.1, fun o hmem hd => ?_⟩
  have hm := hmem
  rw [List.mem_take_iff_getElem] at hm
  obtain ⟨k, hk, rfl⟩ := hm
  have hk' : k < i := by omega
  have h1 := runN_keep ho (t := t) (show k < order.length by omega) order.length (by omega) (Nat.le_refl _)
  have h2 := runN_keep ho (t := t) (show k < order.length by omega) i hk' (by omega)
  rw [h1.2, ← h2.2]
  exact hw.2.2 _ hmem hd

/-- Far too much of something. -/
def hugeB (p : ApiProgram) : Bool := decide (10 < p.Days.length) || decide (20 < p.Jobs.length) || (p.Days.any fun d => decide (10 < d.length)) || p.Jobs.any fun j => decide (20 < j.After.length) || decide (20 < j.With.length)
theorem huge_eq (p : ApiProgram) (hs : smallP p) : deucelaw08_huge p = some (hugeB p) := by
  obtain ⟨h1, h2, h3, h4⟩ := hs
  have jobs : deucelaw08_huge_K0 p = some (p.Jobs.any fun j => decide (20 < j.After.length) || decide (20 < j.With.length)) := by
    unfold deucelaw08_huge_K0
    rw [loop_all (fun k i => deucelaw08_huge_L2 p k i) p.Jobs.length (fun i => !(decide (20 < (p.Jobs.getD i default).After.length) || decide (20 < (p.Jobs.getD i default).With.length))) (some true) (some false) ?_ ?_ BIG (BIG_lt h3)]
    · rw [any_range (f := fun j : ApiJob => decide (20 < j.After.length) || decide (20 < j.With.length))]
      cases (p.Jobs.any fun j => decide (20 < j.After.length) || decide (20 < j.With.length)) <;> rfl
    · intro k i hi
      simp only [deucelaw08_huge_L2, idx_nat hi, Option.bind_some, w64_succ (show i < 9223372036854775807 by omega), Int.ofNat_lt, hi, decide_true, cond_true, or_some, getD_get hi]
      have e1 : decide ((20 : Int) < (p.Jobs[i].After.length : Int)) = decide (20 < p.Jobs[i].After.length) := by simp; omega
      have e2 : decide ((20 : Int) < (p.Jobs[i].With.length : Int)) = decide (20 < p.Jobs[i].With.length) := by simp; omega
      rw [e1, e2]
      cases (decide (20 < p.Jobs[i].After.length) || decide (20 < p.Jobs[i].With.length)) <;> rfl
    · intro k
      simp [deucelaw08_huge_L2, deucelaw08_huge_K2]
  unfold deucelaw08_huge
  rw [loop_all (fun k i => deucelaw08_huge_L0 p k i) p.Days.length (fun i => !decide (10 < (p.Days.getD i default).length)) (some true) (deucelaw08_huge_K0 p) ?_ ?_ BIG (BIG_lt h1)]
  · rw [any_range (f := fun d : List ApiSpan => decide (10 < d.length)), jobs]
    have e1 : decide ((10 : Int) < (p.Days.length : Int)) = decide (10 < p.Days.length) := by simp; omega
    have e2 : decide ((20 : Int) < (p.Jobs.length : Int)) = decide (20 < p.Jobs.length) := by simp; omega
    rw [e1, e2, or_some]
    unfold hugeB
    cases decide (10 < p.Days.length) <;> cases decide (20 < p.Jobs.length) <;> cases (p.Days.any fun d => decide (10 < d.length)) <;> simp
  · intro k i hi
    simp only [deucelaw08_huge_L0, idx_nat hi, Option.bind_some, w64_succ (show i < 9223372036854775807 by omega), Int.ofNat_lt, hi, decide_true, cond_true, getD_get hi]
    have e1 : decide ((10 : Int) < (p.Days[i].length : Int)) = decide (10 < p.Days[i].length) := by simp; omega
    rw [e1]
    cases decide (10 < p.Days[i].length) <;> rfl
  · intro k
    simp [deucelaw08_huge_L0]
end Go.Am
