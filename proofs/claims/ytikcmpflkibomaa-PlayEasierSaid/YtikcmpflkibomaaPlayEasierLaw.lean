/- The plain law PlayEasier: with more room an order that fits still fits, and no job begins later. -/
import Derived.Test.YtikcmpflkibomaaPlayEase1
import Derived.KernelRfl
namespace Go.Am
theorem works_true : deucelaw08_works = some true := by kernel_rfl

/-- A list whose first elements are mapped. -/
def mapTo {α : Type} (f : α → α) (i : Nat) (l : List α) : List α := (l.take i).map f ++ l.drop i
theorem mapTo_zero {α : Type} (f : α → α) (l : List α) : mapTo f 0 l = l := by simp [mapTo]
theorem mapTo_all {α : Type} (f : α → α) (l : List α) : mapTo f l.length l = l.map f := by simp [mapTo]
theorem mapTo_length {α : Type} (f : α → α) (i : Nat) (l : List α) : (mapTo f i l).length = l.length := by simp [mapTo]; omega
theorem mapTo_get {α : Type} (f : α → α) {i : Nat} {l : List α} (h : i < l.length) (h' : i < (mapTo f i l).length) : (mapTo f i l)[i] = l[i] := by
  simp only [mapTo]
  rw [List.getElem_append_right (by simp; omega)]
  simp only [List.length_map, List.length_take, List.getElem_drop]
  congr 1
  omega
theorem mapTo_set {α : Type} (f : α → α) {i : Nat} {l : List α} (h : i < l.length) : (mapTo f i l).set i (f l[i]) = mapTo f (i + 1) l := by
  simp only [mapTo]
  have e : l.drop i = l[i] :: l.drop (i + 1) := List.drop_eq_getElem_cons h
  rw [List.take_succ_eq_append_getElem h, List.map_append, List.set_append_right _ _ (by simp; omega)]
  have : i - ((l.take i).map f).length = 0 := by simp; omega
  rw [this, e]
  simp only [List.set_cons_zero, List.append_assoc, List.map_cons, List.map_nil, List.cons_append, List.nil_append]
theorem mapTo_idx {α : Type} (f : α → α) {i : Nat} {l : List α} (h : i < l.length) : idx (mapTo f i l) (i : Int) = some l[i] := by
  have h' : i < (mapTo f i l).length := by rw [mapTo_length]; exact h
  rw [idx_nat h', mapTo_get f h]
theorem set_idx {α : Type} {l : List α} {i : Nat} (h : i < l.length) (v : α) : idx (l.set i v) (i : Int) = some v := by
  rw [idx_nat (by simpa using h)]
  simp

def spansOK (D : List (List ApiSpan)) : Prop := ∀ d ∈ D, d.length ≤ 10 ∧ ∀ s ∈ d, 0 ≤ s.Low ∧ s.Low ≤ s.High ∧ s.High ≤ 1440

theorem courts_eased {xo xc xr xl xe : Int} (hx : EaseOK xo xc xr xl xe) (again : Int → List (List ApiSpan) → Option Bool) (order : List ApiSeat) (p : ApiProgram) (o : Int) (jobs : List ApiJob) {D : List (List ApiSpan)} (hD : spansOK D) {d : Nat} (hd : d < D.length) (hd2 : D.length ≤ 10) :
    deucelaw08_PlayEasier_L2 again order (d : Int) p ⟨xo, xc, xr, xl, xe⟩ o jobs BIG 0 (mapTo (fun r => r.map (easeS xo xc)) d D) = again ((d + 1 : Nat) : Int) (mapTo (fun r => r.map (easeS xo xc)) (d + 1) D) := by
  obtain ⟨hl, hs⟩ := hD _ (List.getElem_mem hd)
  have hml : d < (mapTo (fun r => r.map (easeS xo xc)) d D).length := by rw [mapTo_length]; exact hd
  have main := loop_all (fun k c => deucelaw08_PlayEasier_L2 again order (d : Int) p ⟨xo, xc, xr, xl, xe⟩ o jobs k c ((mapTo (fun r => r.map (easeS xo xc)) d D).set d (mapTo (easeS xo xc) c.toNat D[d]))) D[d].length (fun _ => true) none
    (again ((d + 1 : Nat) : Int) (mapTo (fun r => r.map (easeS xo xc)) (d + 1) D)) ?_ ?_ BIG (BIG_lt (by omega))
  · have e : (List.range D[d].length).all (fun _ => true) = true := by simp
    rw [e] at main
    simp only [Int.toNat_zero, mapTo_zero, cond_true] at main
    rw [← main]
    congr 1
    have : (mapTo (fun r => r.map (easeS xo xc)) d D)[d] = D[d] := mapTo_get _ hd hml
    rw [← this, List.set_getElem_self]
  · intro k c hc
    have hr : c < (mapTo (easeS xo xc) c D[d]).length := by rw [mapTo_length]; exact hc
    have hsp := hs _ (List.getElem_mem hc)
    have o0 := hx.o0
    have o1 := hx.o1
    have c0 := hx.c0
    have c1 := hx.c1
    have e1 : w64 (D[d][c].Low - xo) = D[d][c].Low - xo := w64_ok (by omega) (by omega)
    have e2 : w64 (D[d][c].High + xc) = D[d][c].High + xc := w64_ok (by omega) (by omega)
    have e3 : ApiSpan.mk (max 0 (D[d][c].Low - xo)) (min 1440 (D[d][c].High + xc)) = easeS xo xc D[d][c] := rfl
    simp only [deucelaw08_PlayEasier_L2, Int.toNat_natCast, set_idx hml, Option.bind_some, mapTo_length, Int.ofNat_lt, hc, decide_true, cond_true, mapTo_idx _ hc, e1, e2, e3, mapTo_set _ hc, List.set_set, w64_succ (show c < 9223372036854775807 by omega)]
  · intro k
    simp only [deucelaw08_PlayEasier_L2, Int.toNat_natCast, set_idx hml, Option.bind_some, mapTo_all, List.length_map, Int.lt_irrefl, decide_false, cond_false, deucelaw08_PlayEasier_K2, deucelaw08_PlayEasier_K1, w64_succ (show d < 9223372036854775807 by omega)]
    first | rw [mapTo_set (fun r => r.map (easeS xo xc)) hd] | skip

theorem spansOf_get {p : ApiProgram} (a c : List Int) {j : Nat} (hj : j < p.Jobs.length) : idx (spansOf p a c) (j : Int) = some (ApiSpan.mk (endAt a (j : Int)) (endAt c (j : Int))) := by
  have h : j < (spansOf p a c).length := by simp [spansOf]; exact hj
  rw [idx_nat h]
  simp only [spansOf, List.getElem_map, List.getElem_range]

theorem easier_end {xo xc xr xl xe : Int} (hx : EaseOK xo xc xr xl xe) {p : ApiProgram} (hp : VP p) (hv : valid p = true) {order : List ApiSeat} (hl : order.length ≤ 20) :
    deucelaw08_PlayEasier_K4 order p (easeP xo xc xr xl xe p).Rest (easeP xo xc xr xl xe p).Days (easeP xo xc xr xl xe p).Jobs = some true := by
  have hv' := ease_valid hx hv
  have hp' := VP_of hv'
  have hmk : ApiProgram.mk (easeP xo xc xr xl xe p).Days (easeP xo xc xr xl xe p).Rest (easeP xo xc xr xl xe p).Jobs = easeP xo xc xr xl xe p := rfl
  obtain ⟨m, e, hd⟩ : ∃ m e, play_Days p = some (m, e) := by
    rcases Days_Best hp hv with ⟨n, l, h1, _⟩ | ⟨h1, _⟩
    · exact ⟨_, _, h1⟩
    · exact ⟨_, _, h1⟩
  obtain ⟨n, f, hd', hle⟩ := ease_Days hx hp hv hd
  have hb : (bif decide (e = 0) then ((bif !decide (f = 0) then some true else some (decide (m < n))).bind fun b => some b) else some false) = some false := by
    by_cases he : e = 0
    · obtain ⟨h1, h2⟩ := hle he
      have : decide (m < n) = false := decide_eq_false (by omega)
      simp [he, h1, this]
    · simp [he]
  unfold deucelaw08_PlayEasier_K4
  rw [hmk, hd, hd', IsOrder_eq hp order (by omega)]
  simp only [Option.bind_some, hb, cond_false]
  cases ho : isOrd p order with
  | false => simp [works_true]
  | true =>
    have ho' : isOrd (easeP xo xc xr xl xe p) order = true := by rw [ease_isOrd]; exact ho
    obtain ⟨hord, hol⟩ := Ord_of ho
    obtain ⟨n1, f1⟩ := play_Fits_eq hp hv (show order.length ≤ 1000000 by omega) ho
    obtain ⟨n2, f2⟩ := play_Fits_eq hp' hv' (show order.length ≤ 1000000 by omega) ho'
    have t1 := play_Times_eq hp hv (show order.length ≤ 1000000 by omega) ho
    have t2 := play_Times_eq hp' hv' (show order.length ≤ 1000000 by omega) ho'
    have l1 : ∀ a c, (spansOf p a c).length = p.Jobs.length := by intro a c; simp [spansOf]
    have l2 : ∀ a c, (spansOf (easeP xo xc xr xl xe p) a c).length = p.Jobs.length := by intro a c; simp [spansOf, ease_jobs]
    have hfit : (bif fitsB p order then some (!fitsB (easeP xo xc xr xl xe p) order) else some false) = some false := by
      cases h : fitsB p order with
      | false => rfl
      | true => simp [ease_fits hx hp ho h]
    have hnj := hp.nj
    have rL := ease_run hx hp hord.seat (t := lowT p) (t' := lowT (easeP xo xc xr xl xe p)) (fun j hj => ease_low hx hj) order.length (Nat.le_refl _)
    have rH := ease_run hx hp hord.seat (t := highT p) (t' := highT (easeP xo xc xr xl xe p)) (fun j hj => ease_high hx hp hj) order.length (Nat.le_refl _)
    have main := loop_all (fun k t => deucelaw08_PlayEasier_L6 (spansOf p (runL p order).1 (runH p order).1) (spansOf (easeP xo xc xr xl xe p) (runL (easeP xo xc xr xl xe p) order).1 (runH (easeP xo xc xr xl xe p) order).1) k t) p.Jobs.length (fun _ => true) none (some true) ?_ ?_ BIG (BIG_lt (by omega))
    · have e : (List.range p.Jobs.length).all (fun _ => true) = true := by simp
      rw [e] at main
      simp only [f1, f2, t1, t2, Option.bind_some, cond_true, Bool.not_true, cond_false, decide_true, hfit, l1, l2, main]
    · intro k t ht
      have ht' : t < (easeP xo xc xr xl xe p).Jobs.length := by rw [ease_jobs]; exact ht
      have c1 : decide (endAt (runH p order).1 (t : Int) < endAt (runH (easeP xo xc xr xl xe p) order).1 (t : Int)) = false := decide_eq_false (by
        have := (rH t).1
        simp only [endAt, runH, Int.toNat_natCast]; omega)
      have c2 : decide (endAt (runL p order).1 (t : Int) < endAt (runL (easeP xo xc xr xl xe p) order).1 (t : Int)) = false := decide_eq_false (by
        have := (rL t).1
        simp only [endAt, runL, Int.toNat_natCast]; omega)
      simp only [deucelaw08_PlayEasier_L6, l1, Int.ofNat_lt, ht, decide_true, cond_true, spansOf_get _ _ ht, spansOf_get _ _ ht', Option.bind_some, c1, c2, cond_false, w64_succ (show t < 9223372036854775807 by omega)]
    · intro k
      simp [deucelaw08_PlayEasier_L6, deucelaw08_PlayEasier_K6, l1, works_true]

theorem jobs_eased {xo xc xr xl xe : Int} (hx : EaseOK xo xc xr xl xe) {p : ApiProgram} (hp : VP p) (hv : valid p = true) {order : List ApiSeat} (hl : order.length ≤ 20) :
    deucelaw08_PlayEasier_K0 order p ⟨xo, xc, xr, xl, xe⟩ (easeP xo xc xr xl xe p).Rest (easeP xo xc xr xl xe p).Days p.Jobs = some true := by
  have hnj := hp.nj
  unfold deucelaw08_PlayEasier_K0
  have main := loop_all (fun k i => deucelaw08_PlayEasier_L4 order p ⟨xo, xc, xr, xl, xe⟩ (easeP xo xc xr xl xe p).Rest (easeP xo xc xr xl xe p).Days k i (mapTo (easeJ xl xe) i.toNat p.Jobs)) p.Jobs.length (fun _ => true) none (some true) ?_ ?_ BIG (BIG_lt (by omega))
  · have e : (List.range p.Jobs.length).all (fun _ => true) = true := by simp
    rw [e] at main
    simpa only [Int.toNat_zero, mapTo_zero, cond_true] using main
  · intro k i hi
    have hm : i < (mapTo (easeJ xl xe) i p.Jobs).length := by rw [mapTo_length]; exact hi
    have hj := hp.vj hi
    have a1 := hj.low
    have a2 := hj.le
    have a3 := hj.high
    have a4 := hj.early0
    have a5 := hj.early
    have l0 := hx.l0
    have l1 := hx.l1
    have e0 := hx.e0
    have e1' := hx.e1
    have e1 : w64 (p.Jobs[i].Length.High - xl) = p.Jobs[i].Length.High - xl := w64_ok (by omega) (by omega)
    have e2 : w64 (p.Jobs[i].Earliest - xe) = p.Jobs[i].Earliest - xe := w64_ok (by omega) (by omega)
    have e3 : ApiJob.mk (ApiSpan.mk p.Jobs[i].Length.Low (max p.Jobs[i].Length.Low (p.Jobs[i].Length.High - xl))) p.Jobs[i].After p.Jobs[i].With p.Jobs[i].Due (max 0 (p.Jobs[i].Earliest - xe)) = easeJ xl xe p.Jobs[i] := rfl
    simp only [deucelaw08_PlayEasier_L4, Int.toNat_natCast, mapTo_length, Int.ofNat_lt, hi, decide_true, cond_true, mapTo_idx _ hi, Option.bind_some, set_idx hm, e1, e2, List.set_set, e3, mapTo_set _ hi, w64_succ (show i < 9223372036854775807 by omega)]
  · intro k
    have e : p.Jobs.map (easeJ xl xe) = (easeP xo xc xr xl xe p).Jobs := rfl
    simp only [deucelaw08_PlayEasier_L4, Int.toNat_natCast, mapTo_all, e, ease_jobs, Int.lt_irrefl, decide_false, cond_false, easier_end hx hp hv hl]

theorem days_eased {xo xc xr xl xe : Int} (hx : EaseOK xo xc xr xl xe) {p : ApiProgram} (hp : VP p) (hv : valid p = true) {order : List ApiSeat} (hl : order.length ≤ 20) :
    deucelaw08_PlayEasier_L0 order p ⟨xo, xc, xr, xl, xe⟩ (easeP xo xc xr xl xe p).Rest p.Jobs BIG 0 p.Days = some true := by
  have hnd := hp.nd
  have hD : spansOK p.Days := by
    intro d hd
    refine ⟨?_, fun s hs => hp.span d hd s hs⟩
    obtain ⟨i, hi, rfl⟩ := List.getElem_of_mem hd
    have := hp.nc i hi
    have := hp.nc3
    omega
  have main := loop_all (fun k d => deucelaw08_PlayEasier_L0 order p ⟨xo, xc, xr, xl, xe⟩ (easeP xo xc xr xl xe p).Rest p.Jobs k d (mapTo (fun r => r.map (easeS xo xc)) d.toNat p.Days)) p.Days.length (fun _ => true) none (some true) ?_ ?_ BIG (BIG_lt (by omega))
  · have e : (List.range p.Days.length).all (fun _ => true) = true := by simp
    rw [e] at main
    simpa only [Int.toNat_zero, mapTo_zero, cond_true] using main
  · intro k d hd
    simp only [deucelaw08_PlayEasier_L0, Int.toNat_natCast, mapTo_length, Int.ofNat_lt, hd, decide_true, cond_true]
    rw [courts_eased hx _ order p _ _ hD hd (by omega)]
  · intro k
    have e : (p.Days.map fun r => r.map (easeS xo xc)) = (easeP xo xc xr xl xe p).Days := rfl
    simp only [deucelaw08_PlayEasier_L0, Int.toNat_natCast, mapTo_all, e, ease_days, Int.lt_irrefl, decide_false, cond_false, jobs_eased hx hp hv hl]

theorem deucelaw08_PlayEasier_true (p : ApiProgram) (order : List ApiSeat) (x : Deucelaw08Ease) (hp : okApiProgram p) (ho : okL okApiSeat order) (hx : okDeucelaw08Ease x) : deucelaw08_PlayEasier p order x = some true := by
  have hsm := small_of hp
  obtain ⟨xo, xc, xr, xl, xe⟩ := x
  obtain ⟨r, hr, hrv⟩ := ready_eq p hsm
  unfold deucelaw08_PlayEasier
  rw [hr]
  simp only [Option.bind_some, or_some]
  cases r with
  | false => simp [works_true]
  | true =>
    obtain ⟨hv, hh⟩ := hrv rfl
    by_cases h20 : order.length ≤ 20
    · have e1 : decide ((20 : Int) < (order.length : Int)) = false := decide_eq_false (by omega)
      rw [e1]
      by_cases hm : min (min (min (min xo xc) xr) xl) xe < 0
      · have d1 : decide (min (min (min (min xo xc) xr) xl) xe < 0) = true := decide_eq_true hm
        simp only [d1, works_true, Bool.or_true, Bool.true_or, cond_true, Option.bind_some]
      · by_cases hM : 1440 < max (max (max (max xo xc) xr) xl) xe
        · have d1 : decide (1440 < max (max (max (max xo xc) xr) xl) xe) = true := decide_eq_true hM
          simp only [d1, works_true, Bool.or_true, cond_true, Option.bind_some]
        · have hok : EaseOK xo xc xr xl xe := by
            refine ⟨?_, ?_, ?_, ?_, ?_, ?_, ?_, ?_, ?_, ?_⟩ <;> omega
          have hvp := VP_of hv
          have hrest := hvp.rest
          have r0 := hok.r0
          have r1 := hok.r1
          have e2 : w64 (p.Rest - xr) = p.Rest - xr := w64_ok (by omega) (by omega)
          have e3 : max 0 (p.Rest - xr) = (easeP xo xc xr xl xe p).Rest := rfl
          have d1 : decide (min (min (min (min xo xc) xr) xl) xe < 0) = false := decide_eq_false hm
          have d2 : decide (1440 < max (max (max (max xo xc) xr) xl) xe) = false := decide_eq_false hM
          simp only [d1, d2, Bool.not_true, Bool.or_false, cond_false, Copy_eq (notHuge_of hh), Option.bind_some, e2, e3, days_eased hok hvp hv h20]
    · have e1 : decide ((20 : Int) < (order.length : Int)) = true := decide_eq_true (by omega)
      simp [e1, works_true]
end Go.Am
