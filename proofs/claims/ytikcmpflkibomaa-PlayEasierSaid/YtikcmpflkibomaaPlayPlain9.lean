/- Layer 8, plain: the search, loop by loop. -/
import Derived.Test.YtikcmpflkibomaaPlayPlain8
namespace Go.Am

/-- How a call of the search ends. -/
def Fin' (p : ApiProgram) (days : Int) (old : Option (List ApiSeat)) (x : PlayState) (S0 : Seen) (r : Option (List ApiSeat × Bool × Seen)) : Prop :=
  ∃ l b S', r = some (l, b, S') ∧ (b = true → Compl p days old x l ∧ l.length + cnt x.done ≤ 6) ∧ (b = false → l = [] ∧ (∀ l, ¬ Compl p days old x l) ∧ SInv p days old S' (cnt x.done) ∧ Grow S0 S' (cnt x.done))
def Dead (p : ApiProgram) (days : Int) (old : Option (List ApiSeat)) (x : PlayState) (s : ApiSeat) : Prop := ∀ x' l, SStep p days old x s x' → ¬ Compl p days old x' l
structure J (p : ApiProgram) (days : Int) (old : Option (List ApiSeat)) (x : PlayState) (S0 S : Seen) : Prop where
  inv : SInv p days old S (cnt x.done + 1)
  grow : ∀ y, 1 ≤ mget y 0 S → 1 ≤ mget y 0 S0 ∨ y = x ∨ cnt x.done + 1 ≤ cnt y.done

theorem SStep.det {p : ApiProgram} {days : Int} {old : Option (List ApiSeat)} {x x1 x2 : PlayState} {s : ApiSeat} (h1 : SStep p days old x s x1) (h2 : SStep p days old x s x2) : x1 = x2 := by
  obtain ⟨n1, b1, e1, d1, a1, a2, _, rfl⟩ := h1.plays
  obtain ⟨n2, b2, e2, d2, c1, c2, _, rfl⟩ := h2.plays
  rw [a1] at c1
  cases c1
  rw [a2] at c2
  cases c2
  rfl

theorem has_bit (x : PlayState) {j : Int} (h : 0 ≤ j) : play_state_has x j = some (bit x.done j.toNat) := by
  simp [play_state_has, chk, h, bit]

section
variable {p : ApiProgram} (hp : VP p) {days : Int} (hdays : days ≤ p.Days.length) {old : Option (List ApiSeat)} (hold : ∀ l, old = some l → l.length ≤ 9223372036854775807) {m0 : Int} {pre : List ApiSeat} {x : PlayState} (hx : Rep p old m0 pre x) (hnf : x.done ≠ fullN p) (S0 : Seen)
  (againR : PlaySearch → Seen → PlayState → Option (List ApiSeat × Bool × Seen))
  (IH : ∀ pre' x' S, Rep p old m0 pre' x' → cnt x'.done = cnt x.done + 1 → SInv p days old S (cnt x.done + 1) → Fin' p days old x' S (againR (PlaySearch.mk p days old) S x'))
include hp hdays hold hx hnf IH

/-- The courts of a day. -/
theorem courts_loop {job : Int} (hj : isJ p job) (hnew : bit x.done job.toNat = false) (hafter : ∀ a ∈ (jobAt p job).After, bit x.done a.toNat = true) {n : Nat} (hn0 : x.day.number ≤ n) (hn1 : (n : Int) < days) (hdue : (n : Int) ≤ (jobAt p job).Due)
    {now : PlayDay} (hnow : nowD p x n = some now) (again0 again4 : Int → Seen → Option (List ApiSeat × Bool × Seen)) (t51 : List ApiJob) (t52 t53 : Int)
    (H4 : ∀ S, J p days old x S0 S → (∀ c, Dead p days old x ⟨job, n, c⟩) → Fin' p days old x S0 (again4 ((n + 1 : Nat) : Int) S)) (S : Seen) (hS : J p days old x S0 S) :
    Fin' p days old x S0 (play_search_from_L6 againR again0 again4 p days old job n t51 t52 t53 (p.Days.getD n []) ((p.Days.getD n []).length : Int) x (jobAt p job) now BIG 0 S) := by
  have hnd := hp.nd
  have hnD : n < p.Days.length := by omega
  have hcl : (p.Days.getD n []).length = courts p := by rw [getD_get hnD]; exact hp.nc n hnD
  have hc3 : courts p ≤ 3 := hp.nc3
  refine loop_pred (fun k c S => play_search_from_L6 againR again0 again4 p days old job n t51 t52 t53 (p.Days.getD n []) ((p.Days.getD n []).length : Int) x (jobAt p job) now k c S) (courts p) (Fin' p days old x S0)
    (fun c S => J p days old x S0 S ∧ ∀ c' : Nat, c' < c → Dead p days old x ⟨job, n, c'⟩) ?_ ?_ BIG 0 S (by unfold BIG; omega) ⟨hS, fun c' h => by omega⟩
  · rintro k c S hc ⟨hJ, hdead⟩ ih
    let s : ApiSeat := ⟨job, n, c⟩
    have hs : Seat p s := ⟨hj, by simp only [s]; omega, by simpa [s] using hnD, by simp only [s]; omega, by simpa [s] using hc⟩
    obtain ⟨now', e1, e2, e3, e4⟩ := plays_ok hp hx hs (by simpa [s] using hn0)
    have : now' = now := by
      have e1' : nowD p x n = some now' := e1
      rw [hnow] at e1'
      cases e1'; rfl
    subst this
    have hcc : c < (p.Days.getD n []).length := by rw [hcl]; exact hc
    have hspan : idx (p.Days.getD n []) (c : Int) = some (spanAt p s.Day s.Court) := by
      have := hs.span hp
      simpa [s] using this
    have hmv := mv_01 old s
    have hxp := hx.pos
    have hxm := hx.moves
    have hm0 := hx.m0
    have hbnd : x.moves ≤ 1000 := by
      have : 0 ≤ (pre.map (mv old)).sum := by
        clear hxm
        generalize pre = l
        induction l with
        | nil => simp
        | cons a l ih => have := (mv_01 old a).1; simp; omega
      omega
    have hlt : decide ((c : Int) < ((p.Days.getD n []).length : Int)) = true := decide_eq_true (by omega)
    have hchk : chk (decide (0 ≤ job)) = some () := by simp [chk, hj.1]
    have hmove : play_search_move (PlaySearch.mk p days old) s = some (mv old s) := move_eq _ (fun l h => hold l h) s
    simp only [play_search_from_L6, hlt, cond_true, hspan, hchk, Option.bind_some]
    rw [show (ApiSeat.mk job (n : Int) (c : Int)) = s from rfl, hmove]
    simp only [Option.bind_some]
    rw [show (jobAt p job).Length.High = (jobAt p s.Job).Length.High from rfl, e4]
    simp only [Option.bind_some, or_some, w64_ok (show -9223372036854775808 ≤ x.moves - mv old s by omega) (show x.moves - mv old s ≤ 9223372036854775807 by omega), w64_succ (show c < 9223372036854775807 by omega)]
    generalize hb : beginS p pre (runN p pre (highT p) pre.length).2 s = b at e4
    -- the next state
    let d' : PlayDay := ⟨now'.number, now'.free.set s.Court (b + (jobAt p s.Job).Length.High), now'.ends.set s.Job (b + (jobAt p s.Job).Length.High)⟩
    let x' : PlayState := ⟨d', bOr x.done (w64 (1 * 2 ^ (min s.Job.toNat 64))), w64 (x.moves - mv old s)⟩
    have dead_next : (∀ l, SStep p days old x s x' → ¬ Compl p days old x' l) → ∀ c' : Nat, c' < c + 1 → Dead p days old x ⟨job, n, c'⟩ := by
      intro h c' hc'
      by_cases hcc' : c' = c
      · subst hcc'
        intro x'' l hst
        obtain ⟨n1, b1, e1', d1, a1, a2, a3, rfl⟩ := hst.plays
        have a1' : nowD p x n = some n1 := a1
        rw [hnow] at a1'
        cases a1'
        have a2' := a2
        rw [show (ApiSeat.mk job (n : Int) (c' : Int)) = s from rfl, e4] at a2'
        simp only [Option.some.injEq, Prod.mk.injEq] at a2'
        obtain ⟨rfl, rfl, rfl⟩ := a2'
        exact h l hst
      · exact hdead c' (by omega)
    cases hlate : decide ((spanAt p s.Day s.Court).High < b + (jobAt p s.Job).Length.High) with
    | true =>
      simp only [Bool.true_or, cond_true]
      refine ih S ⟨hJ, dead_next fun l hst => ?_⟩
      obtain ⟨n1, b1, e1', d1, a1, a2, a3, _⟩ := hst.plays
      have a1' : nowD p x n = some n1 := a1
      rw [hnow] at a1'
      cases a1'
      rw [e4] at a2
      simp only [Option.some.injEq, Prod.mk.injEq] at a2
      obtain ⟨_, rfl, _⟩ := a2
      simp at hlate
      omega
    | false =>
      cases hneg : decide (x.moves - mv old s < 0) with
      | true =>
        simp only [Bool.false_or, cond_true]
        refine ih S ⟨hJ, dead_next fun l hst => ?_⟩
        have := hst.moves
        simp only [x', w64_ok (show -9223372036854775808 ≤ x.moves - mv old s by omega) (show x.moves - mv old s ≤ 9223372036854775807 by omega)] at this
        simp at hneg
        omega
      | false =>
        simp only [Bool.false_or, cond_false]
        have hst : SStep p days old x s x' := by
          refine ⟨hj, hnew, hafter, hn0, hn1, hdue, hs.court0, hs.court, ⟨now', b, _, d', e1, e4, by simpa using hlate, rfl⟩, ?_⟩
          simp only [x', w64_ok (show -9223372036854775808 ≤ x.moves - mv old s by omega) (show x.moves - mv old s ≤ 9223372036854775807 by omega)]
          simpa using hneg
        obtain ⟨hrep, _, _⟩ := hx.step hp hdays hst
        have hcnt : cnt x'.done = cnt x.done + 1 := by rw [hrep.count, hx.count]; simp
        obtain ⟨l, b', S', hr, ht, hf⟩ := IH _ x' S hrep hcnt hJ.inv
        have hx' : (PlayState.mk d' (bOr x.done (w64 (1 * 2 ^ (min job.toNat 64)))) (x.moves - mv old s)) = x' := by
          simp only [x', w64_ok (show -9223372036854775808 ≤ x.moves - mv old s by omega) (show x.moves - mv old s ≤ 9223372036854775807 by omega)]
          rfl
        rw [show (PlayState.mk ⟨now'.number, now'.free.set s.Court (b + (jobAt p s.Job).Length.High), now'.ends.set s.Job (b + (jobAt p s.Job).Length.High)⟩ (bOr x.done (w64 (1 * 2 ^ (min job.toNat 64)))) (x.moves - mv old s)) = x' from hx', hr]
        simp only [Option.bind_some]
        cases b' with
        | true =>
          obtain ⟨h1, h2⟩ := ht rfl
          simp only [cond_true]
          rw [app_ok (by simp; omega)]
          refine ⟨[s] ++ l, true, S', rfl, fun _ => ⟨⟨hnf, x', hst, h1⟩, ?_⟩, fun h => by cases h⟩
          rw [hcnt] at h2
          simp
          omega
        | false =>
          obtain ⟨_, h1, h2, h3⟩ := hf rfl
          simp only [cond_false]
          refine ih S' ⟨⟨by rw [hcnt] at h2; exact h2, fun y hy => ?_⟩, dead_next fun l _ => h1 l⟩
          rcases h3 y hy with h | h
          · exact hJ.grow y h
          · exact .inr (.inr (by rw [hcnt] at h; exact h))
  · rintro k c S hc ⟨hJ, hdead⟩
    have hlt : decide ((c : Int) < ((p.Days.getD n []).length : Int)) = false := decide_eq_false (by omega)
    simp only [play_search_from_L6, hlt, cond_false, play_search_from_K6, play_search_from_K5, w64_succ (show n < 9223372036854775807 by omega)]
    refine H4 S hJ fun c' x' l hst => ?_
    have h0 : 0 ≤ c' := hst.court0
    have h1 : c'.toNat < courts p := hst.court
    have e : ((c'.toNat : Nat) : Int) = c' := by omega
    have := hdead c'.toNat (by omega)
    rw [e] at this
    exact this x' l hst

/-- The days of a job. -/
theorem days_loop {job : Int} (hj : isJ p job) (hnew : bit x.done job.toNat = false) (hafter : ∀ a ∈ (jobAt p job).After, bit x.done a.toNat = true) (again0 : Int → Seen → Option (List ApiSeat × Bool × Seen)) (t51 : List ApiJob) (t52 : Int) {t53 : Nat} (ht53 : t53 < 9223372036854775807)
    (H0 : ∀ S, J p days old x S0 S → (∀ n c, Dead p days old x ⟨job, n, c⟩) → Fin' p days old x S0 (again0 ((t53 + 1 : Nat) : Int) S)) (S : Seen) (hS : J p days old x S0 S) :
    Fin' p days old x S0 (play_search_from_K2 againR again0 p days old job t51 t52 t53 S x (jobAt p job)) := by
  have hnd := hp.nd
  have hnum := hx.num
  have hdue2 := (hj.vj hp).due
  unfold play_search_from_K2
  have hnn : x.day.number = ((x.day.number.toNat : Nat) : Int) := by omega
  rw [hnn]
  refine loop_pred (fun k n S => play_search_from_L4 againR again0 p days old job t51 t52 t53 x (jobAt p job) k n S) (min days ((jobAt p job).Due + 1)).toNat (Fin' p days old x S0)
    (fun i S => x.day.number ≤ i ∧ i ≤ 1000 ∧ J p days old x S0 S ∧ ∀ n c, n < (i : Int) → Dead p days old x ⟨job, n, c⟩) ?_ ?_ BIG x.day.number.toNat S (by unfold BIG; omega) ⟨by omega, by omega, hS, fun n c h x' l hst => ?_⟩
  · rintro k n S hn ⟨hn0, hn1, hJ, hdead⟩ ih
    have h1 : (n : Int) < days := by omega
    have h2 : (n : Int) ≤ (jobAt p job).Due := by omega
    have hnD : n < p.Days.length := by omega
    obtain ⟨now, hnow, _, _⟩ := nowD_ok hp hx (n := n) hn0 (by simpa using hnD)
    have hidx : idx p.Days (n : Int) = some (p.Days.getD n []) := by rw [idx_nat hnD, getD_get hnD]
    have main := courts_loop hp hdays hold hx hnf S0 againR IH hj hnew hafter hn0 h1 h2 hnow again0 (play_search_from_L4 againR again0 p days old job t51 t52 t53 x (jobAt p job) k) t51 t52 t53 (fun S' hS' hd => ih S' ⟨by omega, by omega, hS', fun n' c' h' => by
      by_cases e : n' = n
      · subst e; exact hd c'
      · exact hdead n' c' (by omega)⟩) S hJ
    simp only [play_search_from_L4, h1, h2, decide_true, cond_true, Option.bind_some]
    unfold nowD at hnow
    cases hlt : decide (x.day.number < (n : Int)) with
    | true =>
      rw [hlt] at hnow
      simp only [cond_true] at hnow ⊢
      simp only [hnow, Option.bind_some, hidx]
      exact main
    | false =>
      rw [hlt] at hnow
      simp only [cond_false, Option.some.injEq] at hnow ⊢
      subst hnow
      simp only [hidx, Option.bind_some]
      exact main
  · rintro k n S hn ⟨hn0, hn1, hJ, hdead⟩
    have hstop : ((bif decide ((n : Int) < days) then (some (decide ((n : Int) ≤ (jobAt p job).Due))) else (some false)) : Option Bool) = some false := by
      rw [and_some]
      congr 1
      by_cases h1 : (n : Int) < days
      · have : ¬ (n : Int) ≤ (jobAt p job).Due := by omega
        simp [this]
      · simp [h1]
    simp only [play_search_from_L4, hstop, Option.bind_some, cond_false, play_search_from_K4, play_search_from_K1, w64_succ ht53]
    refine H0 S hJ fun n' c' x' l hst => ?_
    by_cases h : n' < (n : Int)
    · exact hdead n' c' h x' l hst
    · have g1 := hst.days
      have g2 := hst.due
      simp only at g1 g2
      omega
  · have := hst.day0
    simp only at this
    omega

/-- What must be played before. -/
theorem after_loop {job : Int} (hj : isJ p job) (hnew : bit x.done job.toNat = false) (again0 : Int → Seen → Option (List ApiSeat × Bool × Seen)) (t51 : List ApiJob) (t52 : Int) {t53 : Nat} (ht53 : t53 < 9223372036854775807)
    (H0 : ∀ S, J p days old x S0 S → (∀ n c, Dead p days old x ⟨job, n, c⟩) → Fin' p days old x S0 (again0 ((t53 + 1 : Nat) : Int) S)) (S : Seen) (hS : J p days old x S0 S) :
    Fin' p days old x S0 (play_search_from_L2 againR again0 p days old job t51 t52 t53 (jobAt p job).After ((jobAt p job).After.length : Int) S x (jobAt p job) BIG 0) := by
  have hal := (hj.small hp).1
  have hv := hj.vj hp
  refine loop_pred (S := Unit) (fun k i _ => play_search_from_L2 againR again0 p days old job t51 t52 t53 (jobAt p job).After ((jobAt p job).After.length : Int) S x (jobAt p job) k i) (jobAt p job).After.length (Fin' p days old x S0)
    (fun i _ => i ≤ (jobAt p job).After.length ∧ ∀ a ∈ (jobAt p job).After.take i, bit x.done a.toNat = true) ?_ ?_ BIG 0 () (BIG_lt (by omega)) ⟨by omega, by simp⟩
  · rintro k i _ hi ⟨_, hall⟩ ih
    have hmem := List.getElem_mem hi
    have ha := hv.after _ hmem
    have hlt : decide ((i : Int) < ((jobAt p job).After.length : Int)) = true := by simp; omega
    simp only [play_search_from_L2, hlt, cond_true, idx_nat hi, Option.bind_some, has_bit x ha.1, w64_succ (show i < 9223372036854775807 by omega)]
    cases hb : bit x.done (jobAt p job).After[i].toNat with
    | true =>
      simp only [Bool.not_true, cond_false]
      refine ih () ⟨by omega, fun a h => ?_⟩
      rw [List.take_succ_eq_append_getElem hi] at h
      rcases List.mem_append.1 h with h | h
      · exact hall a h
      · simp at h; rw [h]; exact hb
    | false =>
      simp only [Bool.not_false, cond_true, play_search_from_K1, w64_succ ht53]
      refine H0 S hS fun n c x' l hst => ?_
      have := hst.after _ hmem
      rw [hb] at this; cases this
  · rintro k i _ hi ⟨hi2, hall⟩
    have : i = (jobAt p job).After.length := by omega
    subst this
    have hlt : decide (((jobAt p job).After.length : Int) < ((jobAt p job).After.length : Int)) = false := by simp
    simp only [play_search_from_L2, hlt, cond_false]
    rw [List.take_length] at hall
    exact days_loop hp hdays hold hx hnf S0 againR IH hj hnew hall again0 t51 t52 ht53 H0 S hS

/-- The jobs. -/
theorem jobs_loop (hS0 : SInv p days old S0 (cnt x.done)) (S : Seen) (hS : J p days old x S0 S) :
    Fin' p days old x S0 (play_search_from_L0 againR p days old p.Jobs (p.Jobs.length : Int) x BIG 0 S) := by
  have hnj := hp.nj
  refine loop_pred (fun k i S => play_search_from_L0 againR p days old p.Jobs (p.Jobs.length : Int) x k i S) p.Jobs.length (Fin' p days old x S0)
    (fun i S => J p days old x S0 S ∧ ∀ j n c, j < (i : Int) → Dead p days old x ⟨j, n, c⟩) ?_ ?_ BIG 0 S (BIG_lt (by omega)) ⟨hS, fun j n c h x' l hst => by have := hst.job.1; simp only at this; omega⟩
  · rintro k i S hi ⟨hJ, hdead⟩ ih
    have hj : isJ p (i : Int) := ⟨by omega, by simpa using hi⟩
    have hlt : decide ((i : Int) < (p.Jobs.length : Int)) = true := by simp; omega
    have next : ∀ S', J p days old x S0 S' → (∀ n c, Dead p days old x ⟨(i : Int), n, c⟩) → Fin' p days old x S0 (play_search_from_L0 againR p days old p.Jobs (p.Jobs.length : Int) x k ((i + 1 : Nat) : Int) S') := by
      intro S' hS' hd
      refine ih S' ⟨hS', fun j n c h => ?_⟩
      by_cases e : j = i
      · subst e; exact hd n c
      · exact hdead j n c (by omega)
    have hii : ((i : Int).toNat) = i := by simp
    have ejob : p.Jobs[i] = jobAt p (i : Int) := by simp [jobAt, List.getD, hi]
    simp only [play_search_from_L0, hlt, cond_true, idx_nat hi, Option.bind_some, has_bit x hj.1]
    cases hb : bit x.done (i : Int).toNat with
    | true =>
      simp only [cond_true, play_search_from_K1, w64_succ (show i < 9223372036854775807 by omega)]
      refine next S hJ fun n c x' l hst => ?_
      have := hst.new
      simp only at this
      rw [hb] at this; cases this
    | false =>
      simp only [cond_false, ejob]
      exact after_loop hp hdays hold hx hnf S0 againR IH hj hb (play_search_from_L0 againR p days old p.Jobs (p.Jobs.length : Int) x k) p.Jobs (p.Jobs.length : Int) (t53 := i) (by omega) next S hJ
  · rintro k i S hi ⟨hJ, hdead⟩
    have hlt : decide ((i : Int) < (p.Jobs.length : Int)) = false := by simp; omega
    simp only [play_search_from_L0, hlt, cond_false, play_search_from_K0]
    have hno : ∀ l, ¬ Compl p days old x l := by
      intro l hl
      cases l with
      | nil => exact hnf hl
      | cons s l =>
        obtain ⟨_, x', hst, hc⟩ := hl
        have hjs := hst.job
        have h1 := hjs.2
        have h2 := hjs.1
        exact hdead s.Job s.Day s.Court (by omega) x' l hst hc
    refine ⟨[], false, S, rfl, (fun h => by cases h), fun _ => ⟨rfl, hno, ⟨fun y hy hc => ?_, hJ.inv.rng⟩, fun y hy => ?_⟩⟩
    · rcases hJ.grow y hy with h | rfl | h
      · exact hS0.dead y h hc
      · exact hno
      · exact hJ.inv.dead y hy h
    · rcases hJ.grow y hy with h | rfl | h
      · exact .inl h
      · exact .inr (Nat.le_refl _)
      · exact .inr (by omega)
end

theorem from_spec {p : ApiProgram} (hp : VP p) {days : Int} (hdays : days ≤ p.Days.length) {old : Option (List ApiSeat)} (hold : ∀ l, old = some l → l.length ≤ 9223372036854775807) {m0 : Int} : ∀ (kr : Nat) (pre : List ApiSeat) (x : PlayState) (S : Seen),
    Rep p old m0 pre x → 7 ≤ kr + cnt x.done → SInv p days old S (cnt x.done) → Fin' p days old x S (play_search_from_r kr (PlaySearch.mk p days old) S x)
  | 0, pre, x, S, hx, hk, _ => by
    have := ord_len hx
    rw [← hx.count] at this
    omega
  | kr + 1, pre, x, S, hx, hk, hS => by
    have hnj := hp.nj
    have hchk : chk (decide (0 ≤ (p.Jobs.length : Int))) = some () := by simp [chk]
    simp only [play_search_from_r, hchk, Option.bind_some]
    rw [show ((p.Jobs.length : Int).toNat) = p.Jobs.length by simp]
    by_cases hf : x.done = fullN p
    · have : decide (x.done = w64 (w64 (1 * 2 ^ (min p.Jobs.length 64)) - 1)) = true := by simpa [fullN] using hf
      simp only [this, cond_true]
      have hl := ord_len hx
      rw [← hx.count] at hl
      exact ⟨[], true, S, rfl, fun _ => ⟨hf, by simpa using hl⟩, fun h => by cases h⟩
    · have : decide (x.done = w64 (w64 (1 * 2 ^ (min p.Jobs.length 64)) - 1)) = false := by simpa [fullN] using hf
      simp only [this, cond_false]
      have hr0 := hS.rng x
      have hw := w64_range (mget x 0 S + 1)
      have hget : ∀ y, mget y 0 (mset x (w64 (mget x 0 S + 1)) S) = if y = x then w64 (mget x 0 S + 1) else mget y 0 S := fun y => mget_mset x y 0 _ S
      rw [hget x, if_pos rfl]
      have rng' : ∀ y, -9223372036854775808 ≤ mget y 0 (mset x (w64 (mget x 0 S + 1)) S) ∧ mget y 0 (mset x (w64 (mget x 0 S + 1)) S) ≤ 9223372036854775807 := by
        intro y
        rw [hget]
        split
        · exact hw
        · exact hS.rng y
      by_cases hseen : 1 < w64 (mget x 0 S + 1)
      · have h1 : 1 ≤ mget x 0 S := by
          by_cases hm : mget x 0 S = 9223372036854775807
          · omega
          · rw [w64_ok (by omega) (by omega)] at hseen
            omega
        simp only [hseen, decide_true, cond_true]
        have hno := hS.dead x h1 (Nat.le_refl _)
        refine ⟨[], false, _, rfl, (fun h => by cases h), fun _ => ⟨rfl, hno, ⟨fun y hy hc => ?_, rng'⟩, fun y hy => ?_⟩⟩
        · by_cases e : y = x
          · subst e; exact hno
          · rw [hget, if_neg e] at hy
            exact hS.dead y hy hc
        · by_cases e : y = x
          · subst e; exact .inr (Nat.le_refl _)
          · rw [hget, if_neg e] at hy
            exact .inl hy
      · simp only [hseen, decide_false, cond_false]
        refine jobs_loop hp hdays hold hx hf S (play_search_from_r kr) (fun pre' x' S' hx' hc hS' => ?_) hS _ ⟨⟨fun y hy hc => ?_, rng'⟩, fun y hy => ?_⟩
        · rw [← hc] at hS'
          exact from_spec hp hdays hold kr pre' x' S' hx' (by omega) hS'
        · by_cases e : y = x
          · subst e; omega
          · rw [hget, if_neg e] at hy
            exact hS.dead y hy (by omega)
        · by_cases e : y = x
          · exact .inr (.inl e)
          · rw [hget, if_neg e] at hy
            exact .inl hy
end Go.Am
