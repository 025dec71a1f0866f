/- The plain law PlayReal: whatever valid program, order and minutes come in, the function computes true. -/
import Derived.Test.YtikcmpflkibomaaPlayPlain6
import Derived.KernelRfl
namespace Go.Am

theorem dlt {a b : Int} (h : b ≤ a) : decide (a < b) = false := by simp; omega
theorem works_true : deucelaw08_works = some true := by kernel_rfl

theorem spansOf_idx {p : ApiProgram} (a c : List Int) {j : Int} (hj : isJ p j) : idx (spansOf p a c) j = some (ApiSpan.mk (endAt a j) (endAt c j)) := by
  have h : j.toNat < (spansOf p a c).length := by simp [spansOf]; exact hj.2
  rw [idx_int hj.1 h]
  simp only [spansOf, List.getElem_map, List.getElem_range]
  have : ((j.toNat : Nat) : Int) = j := by have := hj.1; omega
  rw [this]

theorem real_inner {p : ApiProgram} (hp : VP p) {order : List ApiSeat} (ho : Ord p order) (hl : order.length ≤ 20) {takes : List Int} (ht : Takes p takes) (again : Int → Option Bool) (a b : List ApiSpan) (isv : Bool) {i : Nat} (hi : i < order.length) :
    deucelaw08_PlayReal_L4 again order a b isv (runN p order takes order.length).1 (runN p order takes order.length).2 (i : Int) order[i].Job p order[i] BIG 0 = again ((i + 1 : Nat) : Int) := by
  have hlen := runN_length (p := p) (order := order) (takes := takes) order.length
  have hbd := runN_bound hp ho.seat ht order.length (Nat.le_refl _)
  have hs := ho.seat i hi
  have hw := (run_final ho (t := takes) hi).1
  have hrest := hp.rest
  have main := loop_all (fun k j => deucelaw08_PlayReal_L4 again order a b isv (runN p order takes order.length).1 (runN p order takes order.length).2 (i : Int) order[i].Job p order[i] k j) i (fun _ => true) (some false) (again ((i + 1 : Nat) : Int)) ?_ ?_ BIG (BIG_lt (by omega))
  · have e : (List.range i).all (fun _ => true) = true := by simp
    rw [e] at main
    exact main
  · intro k j hj
    have hj' : j < order.length := by omega
    have ho' := ho.seat j hj'
    have hmem : order[j] ∈ order.take i := by rw [List.mem_take_iff_getElem]; exact ⟨j, by omega, rfl⟩
    have hwj := hw.2.2 _ hmem
    have hbj := hbd order[j].Job.toNat
    simp only [deucelaw08_PlayReal_L4, Int.ofNat_lt, hj, decide_true, cond_true, idx_nat hj', Option.bind_some, w64_succ (show j < 9223372036854775807 by omega), endAt_idx hlen.1 hs.job, endAt_idx hlen.2 ho'.job, ref_Share_eq hp hs.job ho'.job]
    rw [w64_ok (by simp only [endAt]; omega) (by simp only [endAt]; omega)]
    by_cases hd : order[j].Day = order[i].Day
    · have hww := hwj hd
      have c1 : shareB p order[i].Job order[j].Job = true → decide (endAt (runN p order takes order.length).1 order[i].Job < endAt (runN p order takes order.length).2 order[j].Job + p.Rest) = false := fun h => by
        have := hww.2 h
        simp; omega
      have c2 : order[i].Court = order[j].Court → decide (endAt (runN p order takes order.length).1 order[i].Job < endAt (runN p order takes order.length).2 order[j].Job) = false := fun h => by
        have := hww.1 h.symm
        simp; omega
      cases hsh : shareB p order[i].Job order[j].Job with
      | true =>
        by_cases hc : order[i].Court = order[j].Court
        · simp [hd, c1 hsh, hc, c2 hc]
        · simp [hd, c1 hsh, hc]
      | false =>
        by_cases hc : order[i].Court = order[j].Court
        · simp [hd, hc, c2 hc]
        · simp [hd, hc]
    · simp [hd]
  · intro k
    simp [deucelaw08_PlayReal_L4, deucelaw08_PlayReal_K4, deucelaw08_PlayReal_K3, w64_succ (show i < 9223372036854775807 by omega)]

theorem real_all {p : ApiProgram} (hp : VP p) (hv : valid p = true) {order : List ApiSeat} (ho : isOrd p order = true) (hl : order.length ≤ 20) {takes : List Int} (htl : takes.length = p.Jobs.length)
    (hlo : ∀ j, isJ p j → (jobAt p j).Length.Low ≤ endAt takes j) (hhi : ∀ j, isJ p j → endAt takes j ≤ (jobAt p j).Length.High) : deucelaw08_PlayReal_K0 order takes p = some true := by
  obtain ⟨hord, hnl⟩ := Ord_of ho
  have ht : Takes p takes := ⟨htl, fun j hj => by have := hlo j hj; have := (hj.vj hp).low; omega, fun j hj => by have := hhi j hj; have := (hj.vj hp).high; omega⟩
  obtain ⟨n, hfit⟩ := play_Fits_eq hp hv (show order.length ≤ 1000000 by omega) ho
  have hmonoL := runN_mono hord.seat (t := lowT p) (t' := takes) (fun j hj => by rw [lowT, endAt_map _ hj]; exact hlo j hj) order.length (Nat.le_refl _)
  have hmonoH := runN_mono hord.seat (t := takes) (t' := highT p) (fun j hj => by rw [highT, endAt_map _ hj]; exact hhi j hj) order.length (Nat.le_refl _)
  have hlen := runN_length (p := p) (order := order) (takes := takes) order.length
  unfold deucelaw08_PlayReal_K0
  have l1 : (((spansOf p (runL p order).1 (runH p order).1).length : Int) = (takes.length : Int)) := by simp [spansOf, htl]
  have l2 : (((spansOf p (runL p order).2 (runH p order).2).length : Int) = (takes.length : Int)) := by simp [spansOf, htl]
  simp only [play_Times_eq hp hv (show order.length ≤ 1000000 by omega) ho, hfit, Option.bind_some, Run_eq hp hord.seat (show order.length ≤ 1000000 by omega) ht, l1, l2, decide_true, Bool.not_true, cond_false]
  have main := loop_all (fun k i => deucelaw08_PlayReal_L2 order (spansOf p (runL p order).1 (runH p order).1) (spansOf p (runL p order).2 (runH p order).2) (fitsB p order) (runN p order takes order.length).1 (runN p order takes order.length).2 p k i) order.length (fun _ => true) (some false) (some true) ?_ ?_ BIG (BIG_lt (by omega))
  · have e : (List.range order.length).all (fun _ => true) = true := by simp
    rw [e] at main
    exact main
  · intro k i hi
    have hs := hord.seat i hi
    have hw := (run_final hord (t := takes) hi).1
    have m1 := hmonoL order[i].Job.toNat
    have m2 := hmonoH order[i].Job.toNat
    simp only [deucelaw08_PlayReal_L2, Int.ofNat_lt, hi, decide_true, cond_true, idx_nat hi, Option.bind_some, endAt_idx hlen.1 hs.job, endAt_idx hlen.2 hs.job, spansOf_idx _ _ hs.job, hs.days, hs.span hp, hs.job.idx, real_inner hp hord hl ht]
    have c1 : decide (endAt (runN p order takes order.length).1 order[i].Job < endAt (runL p order).1 order[i].Job) = false := dlt m1.1
    have c2 : decide (endAt (runH p order).1 order[i].Job < endAt (runN p order takes order.length).1 order[i].Job) = false := dlt m2.1
    have c3 : decide (endAt (runN p order takes order.length).2 order[i].Job < endAt (runL p order).2 order[i].Job) = false := dlt m1.2
    have c4 : decide (endAt (runH p order).2 order[i].Job < endAt (runN p order takes order.length).2 order[i].Job) = false := dlt m2.2
    have c6 : decide (endAt (runN p order takes order.length).1 order[i].Job < (jobAt p order[i].Job).Earliest) = false := by
      have := hw.2.1
      simp; omega
    simp only [c1, c2, c3, c4, c6, cond_false, Option.bind_some]
    cases hf : fitsB p order with
    | false => simp
    | true =>
      have h1 := range_all.1 hf i hi
      simp only [getD_get hi, decide_eq_true_eq] at h1
      have c5 : decide ((spanAt p order[i].Day order[i].Court).High < endAt (runN p order takes order.length).2 order[i].Job) = false := dlt (Int.le_trans m2.2 h1)
      simp [c5]
  · intro k
    simp [deucelaw08_PlayReal_L2, deucelaw08_PlayReal_K2, works_true]

theorem deucelaw08_PlayReal_true (p : ApiProgram) (order : List ApiSeat) (takes : List Int) (hp : okApiProgram p) (ho : okL okApiSeat order) (ht : okL okI takes) : deucelaw08_PlayReal p order takes = some true := by
  have hsm := small_of hp
  have hol : order.length ≤ 9223372036854775807 := ho.1
  have htl : takes.length ≤ 9223372036854775807 := ht.1
  unfold deucelaw08_PlayReal
  simp only [huge_eq p hsm, ref_Check_eq p hsm, works_true, Option.bind_some, or_some]
  cases hv : valid p with
  | false => cases hugeB p <;> simp
  | true =>
    have hvp := VP_of hv
    rw [IsOrder_eq hvp order hol]
    cases hugeB p with
    | true => simp
    | false =>
      have e1 : decide ((20 : Int) < (order.length : Int)) = decide (20 < order.length) := by simp; omega
      rw [e1]
      by_cases h20 : order.length ≤ 20
      · have e2 : decide (20 < order.length) = false := by simp; omega
        rw [e2]
        simp only [Option.bind_some, or_some]
        cases hio : isOrd p order with
        | false => simp
        | true =>
          by_cases hlen : takes.length = p.Jobs.length
          · have e3 : (decide ((takes.length : Int) = (p.Jobs.length : Int))) = true := by simp; omega
            rw [e3]
            simp only [cond_true, decide_true, Bool.not_true, cond_false, Option.bind_some]
            rw [loop_all (fun k i => deucelaw08_PlayReal_L0 order takes p k i) takes.length (fun i => decide ((jobAt p (i : Int)).Length.Low ≤ endAt takes (i : Int)) && decide (endAt takes (i : Int) ≤ (jobAt p (i : Int)).Length.High)) (some true) (deucelaw08_PlayReal_K0 order takes p) ?_ ?_ BIG (BIG_lt htl)]
            · cases hall : (List.range takes.length).all fun i => decide ((jobAt p (i : Int)).Length.Low ≤ endAt takes (i : Int)) && decide (endAt takes (i : Int) ≤ (jobAt p (i : Int)).Length.High) with
              | false => rfl
              | true =>
                have hall := range_all.1 hall
                have hj : ∀ j, isJ p j → (jobAt p j).Length.Low ≤ endAt takes j ∧ endAt takes j ≤ (jobAt p j).Length.High := by
                  intro j hj
                  have h1 := hall j.toNat (by rw [hlen]; exact hj.2)
                  have : ((j.toNat : Nat) : Int) = j := by have := hj.1; omega
                  rw [this] at h1
                  simpa using h1
                exact real_all hvp hv hio h20 hlen (fun j h => (hj j h).1) (fun j h => (hj j h).2)
            · intro k i hi
              have hj : isJ p (i : Int) := ⟨by omega, by simpa using (hlen ▸ hi)⟩
              simp only [deucelaw08_PlayReal_L0, Int.ofNat_lt, hi, decide_true, cond_true, Option.bind_some, endAt_idx hlen hj, hj.idx, w64_succ (show i < 9223372036854775807 by omega), or_some, works_true]
              by_cases h1 : (jobAt p (i : Int)).Length.Low ≤ endAt takes (i : Int)
              · have d1 : decide (endAt takes (i : Int) < (jobAt p (i : Int)).Length.Low) = false := by simp; omega
                by_cases h2 : endAt takes (i : Int) ≤ (jobAt p (i : Int)).Length.High
                · have d2 : decide ((jobAt p (i : Int)).Length.High < endAt takes (i : Int)) = false := by simp; omega
                  simp [h1, h2, d1, d2]
                · have d2 : decide ((jobAt p (i : Int)).Length.High < endAt takes (i : Int)) = true := by simp; omega
                  simp [h2, d1, d2]
              · have d1 : decide (endAt takes (i : Int) < (jobAt p (i : Int)).Length.Low) = true := by simp; omega
                simp [h1, d1]
            · intro k
              simp [deucelaw08_PlayReal_L0]
          · have e3 : (decide ((takes.length : Int) = (p.Jobs.length : Int))) = false := by simp; omega
            simp [e3]
      · have e2 : decide (20 < order.length) = true := by simp; omega
        simp [e2]
end Go.Am
