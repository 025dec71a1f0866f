/- Layer 8, plain: the two ways of reckoning the hours agree. -/
import Derived.Test.YtikcmpflkibomaaPlayPlain3
namespace Go.Am

theorem endAt_idx {l : List Int} {p : ApiProgram} (hl : l.length = p.Jobs.length) {j : Int} (hj : isJ p j) : idx l j = some (endAt l j) := by
  have h : j.toNat < l.length := by rw [hl]; exact hj.2
  rw [idx_int hj.1 h]
  exact congrArg some (getD_get h _).symm

theorem Begin_eq {p : ApiProgram} (hp : VP p) {pre : List ApiSeat} (hpre : ∀ o ∈ pre, isJ p o.Job) (hl : pre.length ≤ 9223372036854775807) {ends : List Int} (he : ends.length = p.Jobs.length)
    (hb : ∀ o ∈ pre, 0 ≤ endAt ends o.Job ∧ endAt ends o.Job ≤ 4611686018427387904) {s : ApiSeat} (hs : Seat p s) : deuceref08_Begin p pre ends s = some (beginS p pre ends s) := by
  have hrest := hp.rest
  unfold deuceref08_Begin
  simp only [hs.days, hs.span hp, hs.job.idx, Option.bind_some]
  let σ : Nat → Int := fun i => (pre.take i).foldl (beginStep p ends s) (max (spanAt p s.Day s.Court).Low (jobAt p s.Job).Earliest)
  have main := loop_all (fun k i => deuceref08_Begin_L0 pre ends p s k (σ i.toNat) i) pre.length (fun _ => true) none (some (σ pre.length)) ?_ ?_ BIG (BIG_lt hl)
  · have e : (List.range pre.length).all (fun _ => true) = true := by simp
    rw [e] at main
    simpa [σ, beginS] using main
  · intro k i hi
    have ho := List.getElem_mem hi
    have hj := hpre _ ho
    have hbo := hb _ ho
    have e : σ (i + 1) = beginStep p ends s (σ i) pre[i] := by
      simp only [σ]
      rw [List.take_succ_eq_append_getElem hi, List.foldl_append]
      rfl
    simp only [deuceref08_Begin_L0, Int.toNat_natCast, idx_nat hi, Option.bind_some, w64_succ (show i < 9223372036854775807 by omega), Int.ofNat_lt, hi, decide_true, cond_true, endAt_idx he hj, ref_Share_eq hp hs.job hj,
      w64_ok (show -9223372036854775808 ≤ endAt ends pre[i].Job + p.Rest by omega) (show endAt ends pre[i].Job + p.Rest ≤ 9223372036854775807 by omega), e]
    unfold beginStep
    by_cases h1 : pre[i].Day = s.Day <;> by_cases h2 : pre[i].Court = s.Court <;> cases h3 : shareB p s.Job pre[i].Job <;> simp [h1, h2]
  · intro k
    simp [deuceref08_Begin_L0, deuceref08_Begin_K0]

theorem endAt_set_self {l : List Int} {p : ApiProgram} (hl : l.length = p.Jobs.length) {j : Int} (hj : isJ p j) (v : Int) : endAt (l.set j.toNat v) j = v := by
  have h : j.toNat < l.length := by rw [hl]; exact hj.2
  simp [endAt, List.getD, h]
theorem endAt_set_ne {l : List Int} {i j : Int} (hi : 0 ≤ i) (hj : 0 ≤ j) (h : i ≠ j) (v : Int) : endAt (l.set i.toNat v) j = endAt l j := by
  have : i.toNat ≠ j.toNat := by omega
  simp [endAt, List.getD, List.getElem?_set_ne this]

theorem Run_eq {p : ApiProgram} (hp : VP p) {order : List ApiSeat} (ho : ∀ i (h : i < order.length), Seat p order[i]) (hl : order.length ≤ 1000000) {takes : List Int} (ht : Takes p takes) :
    deuceref08_Run p order takes = some (runN p order takes order.length) := by
  have hnj := hp.nj
  have hz : mk 8 (p.Jobs.length : Int) (0 : Int) = some (List.replicate p.Jobs.length 0) := mk_nat (by omega)
  unfold deuceref08_Run
  simp only [hz, Option.bind_some]
  have main := loop_all (fun k i => deuceref08_Run_L0 order takes p k i (runN p order takes i.toNat).1 (runN p order takes i.toNat).2) order.length (fun _ => true) none (some (runN p order takes order.length)) ?_ ?_ BIG (BIG_lt (by omega))
  · have e : (List.range order.length).all (fun _ => true) = true := by simp
    rw [e] at main
    simpa [runN] using main
  · intro k i hi
    have hs := ho i hi
    have hlen := runN_length (p := p) (order := order) (takes := takes) i
    have hbd := runN_bound hp ho ht i (by omega)
    have hbb := (runN_bound hp ho ht (i + 1) (by omega) order[i].Job.toNat)
    have e1 : order.getD i default = order[i] := by simp [List.getD, hi]
    have hB := Begin_eq hp (pre := order.take i) (fun o h => by
        rw [List.mem_take_iff_getElem] at h
        obtain ⟨j, hj, rfl⟩ := h
        exact (ho j (by omega)).job) (by simp; omega) hlen.2 (fun o h => by have := hbd o.Job.toNat; simp only [endAt]; omega) hs
    have e2 : (runN p order takes (i + 1)).2.getD order[i].Job.toNat 0 = beginS p (order.take i) (runN p order takes i).2 order[i] + endAt takes order[i].Job := by
      have := endAt_set_self hlen.2 hs.job (beginS p (order.take i) (runN p order takes i).2 order[i] + endAt takes order[i].Job)
      simp only [endAt] at this
      simp only [runN, e1, endAt]
      exact this
    rw [e2] at hbb
    have i13 : idx ((runN p order takes i).1.set order[i].Job.toNat (beginS p (order.take i) (runN p order takes i).2 order[i])) order[i].Job = some (beginS p (order.take i) (runN p order takes i).2 order[i]) := by
      rw [endAt_idx (p := p) (by simp [hlen.1]) hs.job, endAt_set_self hlen.1 hs.job]
    simp only [deuceref08_Run_L0, Int.toNat_natCast, idx_nat hi, sub_nat (show i ≤ order.length by omega), Option.bind_some, w64_succ (show i < 9223372036854775807 by omega), Int.ofNat_lt, hi, decide_true, cond_true, hB,
      endAt_idx hlen.1 hs.job, endAt_idx hlen.2 hs.job, endAt_idx ht.len hs.job, i13]
    rw [w64_ok (by omega) (by push_cast at hbb; omega)]
    simp only [runN, e1]
  · intro k
    simp [deuceref08_Run_L0, deuceref08_Run_K0]

/-! The days of the program's own way. -/
theorem A3.at_set (a : A3 Int) (i j v : Int) (hi : 0 ≤ i ∧ i < 3) (hj : 0 ≤ j ∧ j < 3) : (a.set i v).at j = if i = j then v else a.at j := by
  have h1 : i = 0 ∨ i = 1 ∨ i = 2 := by omega
  have h2 : j = 0 ∨ j = 1 ∨ j = 2 := by omega
  rcases h1 with rfl | rfl | rfl <;> rcases h2 with rfl | rfl | rfl <;> simp [A3.set, A3.at]
theorem A6.at_set (a : A6 Int) (i j v : Int) (hi : 0 ≤ i ∧ i < 6) (hj : 0 ≤ j ∧ j < 6) : (a.set i v).at j = if i = j then v else a.at j := by
  have h1 : i = 0 ∨ i = 1 ∨ i = 2 ∨ i = 3 ∨ i = 4 ∨ i = 5 := by omega
  have h2 : j = 0 ∨ j = 1 ∨ j = 2 ∨ j = 3 ∨ j = 4 ∨ j = 5 := by omega
  rcases h1 with rfl | rfl | rfl | rfl | rfl | rfl <;> rcases h2 with rfl | rfl | rfl | rfl | rfl | rfl <;> simp [A6.set, A6.at]
theorem inb_ok {n : Nat} {i : Int} (h : 0 ≤ i ∧ i < n) : inb n i = some () := by simp [inb, h]

/-- An open day: nothing was played. -/
structure Opened (p : ApiProgram) (n : Int) (d : PlayDay) : Prop where
  number : d.number = n
  free : ∀ c : Int, 0 ≤ c → c.toNat < courts p → d.free.at c = (spanAt p n c).Low
  ends : ∀ k : Int, d.ends.at k = 0

theorem zeros6 (k : Int) : (A6.mk 0 0 0 0 0 0 : A6 Int).at k = 0 := by
  unfold A6.at
  repeat' split
  all_goals rfl

def openF (L : List ApiSpan) (i : Nat) : A3 Int := (List.range i).foldl (fun (a : A3 Int) (c : Nat) => a.set (c : Int) (L.getD c default).Low) ⟨0, 0, 0⟩
theorem openF_succ (L : List ApiSpan) (i : Nat) : openF L (i + 1) = (openF L i).set (i : Int) (L.getD i default).Low := by
  simp only [openF, List.range_succ, List.foldl_append, List.foldl_cons, List.foldl_nil]
theorem openF_at (L : List ApiSpan) : ∀ m : Nat, m ≤ 3 → ∀ c : Nat, c < m → (openF L m).at (c : Int) = (L.getD c default).Low := by
  intro m
  induction m with
  | zero => intro _ c hc; omega
  | succ m ih =>
    intro hm c hc
    rw [openF_succ, A3.at_set _ _ _ _ ⟨by omega, by omega⟩ ⟨by omega, by omega⟩]
    by_cases h : m = c
    · simp [h]
    · rw [if_neg (by omega)]
      exact ih (by omega) c (by omega)
theorem play_open_eq {p : ApiProgram} (hp : VP p) {n : Int} (h0 : 0 ≤ n) (h1 : n.toNat < p.Days.length) : ∃ d, play_open p n = some d ∧ Opened p n d := by
  have hc3 := hp.nc3
  have hlen : (p.Days.getD n.toNat []).length = courts p := by
    have := hp.nc _ h1
    rw [getD_get h1]; exact this
  have hcl : (p.Days.getD n.toNat []).length ≤ 3 := by rw [hlen]; exact hc3
  generalize hL : p.Days.getD n.toNat [] = L at hlen hcl
  have main : ∀ o4, play_open_L0 L L.length o4 BIG 0 (PlayDay.mk n (A3.mk 0 0 0) (A6.mk 0 0 0 0 0 0)) = some ⟨n, openF L L.length, ⟨0, 0, 0, 0, 0, 0⟩⟩ := by
    intro o4
    have main := loop_all (fun k i => play_open_L0 L L.length o4 k i ⟨n, openF L i.toNat, ⟨0, 0, 0, 0, 0, 0⟩⟩) L.length (fun _ => true) none (some ⟨n, openF L L.length, ⟨0, 0, 0, 0, 0, 0⟩⟩) ?_ ?_ BIG (BIG_lt (by omega))
    · have e : (List.range L.length).all (fun _ => true) = true := by simp
      rw [e] at main
      exact main
    · intro k i hi
      simp only [play_open_L0, Int.toNat_natCast, idx_nat hi, Option.bind_some, w64_succ (show i < 9223372036854775807 by omega), Int.ofNat_lt, hi, decide_true, cond_true, inb_ok (n := 3) (i := (i : Int)) ⟨by omega, by omega⟩, openF_succ, getD_get hi]
    · intro k
      simp [play_open_L0, play_open_K0]
  refine ⟨⟨n, openF L L.length, ⟨0, 0, 0, 0, 0, 0⟩⟩, ?_, rfl, ?_, fun k => zeros6 k⟩
  · unfold play_open
    rw [idx_int h0 h1, ← getD_get h1 [], hL]
    simp only [Option.bind_some]
    exact main _
  · intro c hc0 hc1
    have := openF_at L L.length hcl c.toNat (by rw [hlen]; exact hc1)
    have hcc : ((c.toNat : Nat) : Int) = c := by omega
    rw [hcc] at this
    rw [spanAt, hL]
    exact this
end Go.Am
