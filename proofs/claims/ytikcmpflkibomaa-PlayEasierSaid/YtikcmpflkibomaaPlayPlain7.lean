/- Layer 8, plain: the answers of Times and Fits, of the program and of the reference; copies; comparisons. -/
import Derived.Test.YtikcmpflkibomaaPlayPlain6
namespace Go.Am

def lateOf (p : ApiProgram) (order : List ApiSeat) : Option ApiSeat := order.find? fun s => decide ((spanAt p s.Day s.Court).High < endAt (runH p order).2 s.Job)
def timesR (p : ApiProgram) (order : List ApiSeat) : List ApiSpan × List ApiSpan × Int :=
  bif valid p then (bif isOrd p order then (spansOf p (runL p order).1 (runH p order).1, spansOf p (runL p order).2 (runH p order).2, 0) else ([], [], 81)) else ([], [], 80)
def fitsR (p : ApiProgram) (order : List ApiSeat) : Bool × Int × Int :=
  bif valid p then (bif isOrd p order then (match lateOf p order with | some s => (false, s.Job, 0) | none => (true, -1, 0)) else (false, 0, 81)) else (false, 0, 80)

theorem play_Times_all (p : ApiProgram) (hs : smallP p) (order : List ApiSeat) (hl : order.length ≤ 1000000) : play_Times p order = some (timesR p order) := by
  unfold timesR
  cases hv : valid p with
  | false => simp [play_Times, play_Check_eq p hs, hv]
  | true =>
    have hp := VP_of hv
    cases ho : isOrd p order with
    | false => simp [play_Times, play_Check_eq p hs, hv, play_isOrder_eq' hp order hl, ho]
    | true => rw [play_Times_eq hp hv hl ho]; rfl

theorem lengths_eq (p : ApiProgram) (hl : p.Jobs.length ≤ 1000000) (b : Bool) : deuceref08_lengths p b = some (bif b then highT p else lowT p) := by
  unfold deuceref08_lengths
  let g : ApiJob → Int := fun j => bif b then j.Length.High else j.Length.Low
  have main := loop_all (fun k i => deuceref08_lengths_L0 b p k i ((p.Jobs.take i.toNat).map g)) p.Jobs.length (fun _ => true) none (some (p.Jobs.map g)) ?_ ?_ BIG (BIG_lt (by omega))
  · have e : (List.range p.Jobs.length).all (fun _ => true) = true := by simp
    rw [e] at main
    simp only [Int.toNat_zero, List.take_zero, List.map_nil, cond_true] at main
    rw [main]
    cases b <;> rfl
  · intro k i hi
    have happ : ∀ x, x = g p.Jobs[i] → app 8 ((p.Jobs.take i).map g) [x] = some ((p.Jobs.take (i + 1)).map g) := by
      rintro x rfl
      rw [app_ok (by simp; omega), List.take_succ_eq_append_getElem hi, List.map_append]
      rfl
    simp only [deuceref08_lengths_L0, Int.toNat_natCast, Int.ofNat_lt, hi, decide_true, cond_true, idx_nat hi, Option.bind_some, w64_succ (show i < 9223372036854775807 by omega)]
    cases b with
    | false => simp only [cond_false]; rw [happ p.Jobs[i].Length.Low rfl]; rfl
    | true => simp only [cond_true]; rw [happ p.Jobs[i].Length.High rfl]; rfl
  · intro k
    simp [deuceref08_lengths_L0, deuceref08_lengths_K0]

theorem ref_run_low {p : ApiProgram} (hp : VP p) {order : List ApiSeat} (ho : Ord p order) (hl : order.length ≤ 1000000) : deuceref08_Run p order (lowT p) = some (runL p order) := Run_eq hp ho.seat hl (takes_low hp)
theorem ref_run_high {p : ApiProgram} (hp : VP p) {order : List ApiSeat} (ho : Ord p order) (hl : order.length ≤ 1000000) : deuceref08_Run p order (highT p) = some (runH p order) := Run_eq hp ho.seat hl (takes_high hp)

theorem ref_Times_all (p : ApiProgram) (hs : smallP p) (order : List ApiSeat) (hl : order.length ≤ 1000000) : deuceref08_Times p order = some (timesR p order) := by
  unfold timesR deuceref08_Times
  cases hv : valid p with
  | false => simp [ref_Check_eq p hs, hv]
  | true =>
    have hp := VP_of hv
    have hnj := hp.nj
    cases ho : isOrd p order with
    | false => simp [ref_Check_eq p hs, hv, IsOrder_eq hp order (by omega), ho]
    | true =>
      have hord := (Ord_of ho).1
      have l1 := runN_length (p := p) (order := order) (takes := lowT p) order.length
      have l2 := runN_length (p := p) (order := order) (takes := highT p) order.length
      simp only [ref_Check_eq p hs, hv, IsOrder_eq hp order (by omega), ho, Option.bind_some, lengths_eq p (by omega), cond_true, cond_false, ref_run_low hp hord hl, ref_run_high hp hord hl, decide_true, Bool.not_true]
      generalize hA : runL p order = A
      generalize hC : runH p order = C
      have l1' : A.1.length = p.Jobs.length ∧ A.2.length = p.Jobs.length := by rw [← hA]; exact l1
      have l2' : C.1.length = p.Jobs.length ∧ C.2.length = p.Jobs.length := by rw [← hC]; exact l2
      let σ : List Int → List Int → Nat → List ApiSpan := fun a c i => (List.range i).map fun (j : Nat) => ApiSpan.mk (endAt a j) (endAt c j)
      have main := loop_all (fun k i => deuceref08_Times_L0 A.1 A.2 C.1 C.2 p k i (σ A.1 C.1 i.toNat) (σ A.2 C.2 i.toNat)) p.Jobs.length (fun _ => true) none (some (σ A.1 C.1 p.Jobs.length, σ A.2 C.2 p.Jobs.length, 0)) ?_ ?_ BIG (BIG_lt (by omega))
      · have e : (List.range p.Jobs.length).all (fun _ => true) = true := by simp
        rw [e] at main
        exact main
      · intro k i hi
        have hj : isJ p (i : Int) := ⟨by omega, by simpa using hi⟩
        have e1 : ∀ a c, app 16 (σ a c i) [ApiSpan.mk (endAt a (i : Int)) (endAt c (i : Int))] = some (σ a c (i + 1)) := by
          intro a c
          rw [app_ok (by simp [σ]; omega)]
          simp [σ, List.range_succ]
        simp only [deuceref08_Times_L0, Int.toNat_natCast, Int.ofNat_lt, hi, decide_true, cond_true, endAt_idx l1'.1 hj, endAt_idx l1'.2 hj, endAt_idx l2'.1 hj, endAt_idx l2'.2 hj, Option.bind_some, e1, w64_succ (show i < 9223372036854775807 by omega)]
      · intro k
        simp [deuceref08_Times_L0, deuceref08_Times_K0]

theorem find_drop {α : Type} {l : List α} {i : Nat} (h : i < l.length) (f : α → Bool) : (l.drop i).find? f = bif f l[i] then some l[i] else (l.drop (i + 1)).find? f := by
  rw [List.drop_eq_getElem_cons h, List.find?_cons]
  cases f l[i] <;> rfl

theorem play_Fits_all (p : ApiProgram) (hs : smallP p) (order : List ApiSeat) (hl : order.length ≤ 1000000) : play_Fits p order = some (fitsR p order) := by
  unfold fitsR
  cases hv : valid p with
  | false => simp [play_Fits, play_Check_eq p hs, hv]
  | true =>
    have hp := VP_of hv
    cases ho : isOrd p order with
    | false => simp [play_Fits, play_Check_eq p hs, hv, play_isOrder_eq' hp order hl, ho]
    | true =>
      have hord := (Ord_of ho).1
      have l2' : (runH p order).1.length = p.Jobs.length ∧ (runH p order).2.length = p.Jobs.length := runN_length (p := p) (order := order) (takes := highT p) order.length
      unfold play_Fits lateOf
      simp only [play_Check_eq p hs, hv, play_isOrder_eq' hp order hl, ho, Option.bind_some, times_high hp hord hl, cond_true, decide_true, Bool.not_true, cond_false]
      rw [loop_st (S := Unit) (fun k i _ => play_Fits_L0 (runH p order).2 order order.length p k i) order.length (fun i _ => some (match (order.drop i).find? (fun s => decide ((spanAt p s.Day s.Court).High < endAt (runH p order).2 s.Job)) with | some s => (false, s.Job, 0) | none => (true, -1, 0))) (fun _ _ => True) ?_ ?_ BIG () (BIG_lt (by omega)) trivial]
      · simp
      · intro k i _ hi _ ih
        have hs := hord.seat i hi
        simp only [play_Fits_L0, idx_nat hi, Option.bind_some, Int.ofNat_lt, hi, decide_true, cond_true, endAt_idx l2'.2 hs.job, hs.days, hs.span hp, w64_succ (show i < 9223372036854775807 by omega), ih () trivial, find_drop hi]
        cases decide ((spanAt p order[i].Day order[i].Court).High < endAt (runH p order).2 order[i].Job) <;> rfl
      · intro k _ _
        simp [play_Fits_L0, play_Fits_K0]

theorem late_eq {p : ApiProgram} (hp : VP p) {order : List ApiSeat} (hord : Ord p order) (hl : order.length ≤ 1000000) : deuceref08_late p order = some (match lateOf p order with | some s => s.Job | none => -1) := by
  have hnj := hp.nj
  have l2' : (runH p order).1.length = p.Jobs.length ∧ (runH p order).2.length = p.Jobs.length := runN_length (p := p) (order := order) (takes := highT p) order.length
  unfold deuceref08_late lateOf
  simp only [Option.bind_some, lengths_eq p (by omega), cond_true, ref_run_high hp hord hl]
  rw [loop_st (S := Unit) (fun k i _ => deuceref08_late_L0 order (runH p order).2 p k i) order.length (fun i _ => some (match (order.drop i).find? (fun s => decide ((spanAt p s.Day s.Court).High < endAt (runH p order).2 s.Job)) with | some s => s.Job | none => -1)) (fun _ _ => True) ?_ ?_ BIG () (BIG_lt (by omega)) trivial]
  · simp
  · intro k i _ hi _ ih
    have hs := hord.seat i hi
    simp only [deuceref08_late_L0, idx_nat hi, Option.bind_some, Int.ofNat_lt, hi, decide_true, cond_true, endAt_idx l2'.2 hs.job, hs.days, hs.span hp, w64_succ (show i < 9223372036854775807 by omega), ih () trivial, find_drop hi]
    cases decide ((spanAt p order[i].Day order[i].Court).High < endAt (runH p order).2 order[i].Job) <;> rfl
  · intro k _ _
    simp [deuceref08_late_L0, deuceref08_late_K0]

theorem ref_Fits_all (p : ApiProgram) (hs : smallP p) (order : List ApiSeat) (hl : order.length ≤ 1000000) : deuceref08_Fits p order = some (fitsR p order) := by
  unfold fitsR deuceref08_Fits
  cases hv : valid p with
  | false => simp [ref_Check_eq p hs, hv]
  | true =>
    have hp := VP_of hv
    cases ho : isOrd p order with
    | false => simp [ref_Check_eq p hs, hv, IsOrder_eq hp order (by omega), ho]
    | true =>
      have hord := (Ord_of ho).1
      simp only [ref_Check_eq p hs, hv, IsOrder_eq hp order (by omega), ho, Option.bind_some, late_eq hp hord hl, cond_true, decide_true, Bool.not_true, cond_false]
      cases h : lateOf p order with
      | none => rfl
      | some s =>
        have hm := List.mem_of_find?_eq_some h
        obtain ⟨i, hi, rfl⟩ := List.getElem_of_mem hm
        have := (hord.seat i hi).job.1
        simp; omega

/-! Copies. -/
def notHuge (p : ApiProgram) : Prop := p.Days.length ≤ 10 ∧ p.Jobs.length ≤ 20 ∧ (∀ d ∈ p.Days, d.length ≤ 10) ∧ ∀ j ∈ p.Jobs, j.After.length ≤ 20 ∧ j.With.length ≤ 20
theorem notHuge_of {p : ApiProgram} (h : hugeB p = false) : notHuge p := by
  simp only [hugeB, Bool.or_eq_false_iff, decide_eq_false_iff_not, List.any_eq_false, decide_eq_true_eq, Bool.or_eq_true] at h
  obtain ⟨⟨⟨h1, h2⟩, h3⟩, h4⟩ := h
  refine ⟨by omega, by omega, fun d hd => ?_, fun j hj => ?_⟩
  · have := h3 d hd; omega
  · have := h4 j hj; omega
theorem Copy_eq {p : ApiProgram} (h : notHuge p) : deuceref08_Copy p = some p := by
  obtain ⟨h1, h2, h3, h4⟩ := h
  unfold deuceref08_Copy
  have jobs : ∀ o2 days, deuceref08_Copy_K0 p o2 days [] p.Rest = some (ApiProgram.mk days p.Rest p.Jobs) := by
    intro o2 days
    unfold deuceref08_Copy_K0
    have main := loop_all (fun k i => deuceref08_Copy_L2 p o2 days k i (p.Jobs.take i.toNat) p.Rest) p.Jobs.length (fun _ => true) none (some (ApiProgram.mk days p.Rest p.Jobs)) ?_ ?_ BIG (BIG_lt (by omega))
    · have e : (List.range p.Jobs.length).all (fun _ => true) = true := by simp
      rw [e] at main
      simpa using main
    · intro k i hi
      obtain ⟨a1, a2⟩ := h4 _ (List.getElem_mem hi)
      have happ : app 80 (p.Jobs.take i) [p.Jobs[i]] = some (p.Jobs.take (i + 1)) := by
        rw [app_ok (by simp; omega), List.take_succ_eq_append_getElem hi]
      have e1 : app 8 ([] : List Int) p.Jobs[i].After = some p.Jobs[i].After := by rw [app_ok (by simp; omega)]; rfl
      have e2 : app 8 ([] : List Int) p.Jobs[i].With = some p.Jobs[i].With := by rw [app_ok (by simp; omega)]; rfl
      simp only [deuceref08_Copy_L2, Int.toNat_natCast, Int.ofNat_lt, hi, decide_true, cond_true, idx_nat hi, Option.bind_some, e1, e2, happ, w64_succ (show i < 9223372036854775807 by omega)]
    · intro k
      simp [deuceref08_Copy_L2, deuceref08_Copy_K2]
  have main := loop_all (fun k i => deuceref08_Copy_L0 p (ApiProgram.mk [] 0 []) [] k i (p.Days.take i.toNat) p.Rest) p.Days.length (fun _ => true) none (some p) ?_ ?_ BIG (BIG_lt (by omega))
  · have e : (List.range p.Days.length).all (fun _ => true) = true := by simp
    rw [e] at main
    simpa using main
  · intro k i hi
    have a1 := h3 _ (List.getElem_mem hi)
    have happ : app 24 (p.Days.take i) [p.Days[i]] = some (p.Days.take (i + 1)) := by
      rw [app_ok (by simp; omega), List.take_succ_eq_append_getElem hi]
    have e1 : app 16 ([] : List ApiSpan) p.Days[i] = some p.Days[i] := by rw [app_ok (by simp; omega)]; rfl
    simp only [deuceref08_Copy_L0, Int.toNat_natCast, Int.ofNat_lt, hi, decide_true, cond_true, idx_nat hi, Option.bind_some, e1, happ, w64_succ (show i < 9223372036854775807 by omega)]
  · intro k
    simp [deuceref08_Copy_L0, jobs]
theorem copied_eq {l : List ApiSeat} (h : l.length ≤ 1000000) : deucelaw08_copied l = some l := by
  unfold deucelaw08_copied
  rw [app_ok (by simp; omega)]
  rfl

/-! Comparisons of a thing with itself. -/
theorem sameSpans_self (l : List ApiSpan) (h : l.length ≤ 9223372036854775807) : deucelaw08_sameSpans l l = some true := by
  unfold deucelaw08_sameSpans
  have main := loop_all (fun k i => deucelaw08_sameSpans_L0 l l k i) l.length (fun _ => true) (some false) (some true) ?_ ?_ BIG (BIG_lt h)
  · have e : (List.range l.length).all (fun _ => true) = true := by simp
    rw [e] at main
    simpa using main
  · intro k i hi
    simp [deucelaw08_sameSpans_L0, hi, idx_nat hi, w64_succ (show i < 9223372036854775807 by omega)]
  · intro k
    simp [deucelaw08_sameSpans_L0, deucelaw08_sameSpans_K0]
theorem sameInts_self (l : List Int) (h : l.length ≤ 9223372036854775807) : deucelaw08_sameInts l l = some true := by
  unfold deucelaw08_sameInts
  have main := loop_all (fun k i => deucelaw08_sameInts_L0 l l k i) l.length (fun _ => true) (some false) (some true) ?_ ?_ BIG (BIG_lt h)
  · have e : (List.range l.length).all (fun _ => true) = true := by simp
    rw [e] at main
    simpa using main
  · intro k i hi
    simp [deucelaw08_sameInts_L0, hi, idx_nat hi, w64_succ (show i < 9223372036854775807 by omega)]
  · intro k
    simp [deucelaw08_sameInts_L0, deucelaw08_sameInts_K0]
theorem sameJobs_self (l : List ApiJob) (h : l.length ≤ 9223372036854775807) (hj : ∀ j ∈ l, j.After.length ≤ 9223372036854775807 ∧ j.With.length ≤ 9223372036854775807) : deucelaw08_sameJobs l l = some true := by
  unfold deucelaw08_sameJobs
  have main := loop_all (fun k i => deucelaw08_sameJobs_L0 l l k i) l.length (fun _ => true) (some false) (some true) ?_ ?_ BIG (BIG_lt h)
  · have e : (List.range l.length).all (fun _ => true) = true := by simp
    rw [e] at main
    simpa using main
  · intro k i hi
    obtain ⟨a1, a2⟩ := hj _ (List.getElem_mem hi)
    simp [deucelaw08_sameJobs_L0, hi, idx_nat hi, w64_succ (show i < 9223372036854775807 by omega), sameInts_self _ a1, sameInts_self _ a2]
  · intro k
    simp [deucelaw08_sameJobs_L0, deucelaw08_sameJobs_K0]
end Go.Am
