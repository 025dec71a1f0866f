/- Layer 8, plain: the search finds an order where there is one. -/
import Derived.Test.YtikcmpflkibomaaPlayPlain7
namespace Go.Am

def bit (d : Int) (j : Nat) : Bool := decide (bAnd (d.fdiv (2 ^ (min j 64))) 1 = 1)
def cnt (d : Int) : Nat := ((List.range 6).filter fun j => bit d j).length
theorem bits_or : ∀ d : Fin 64, ∀ j : Fin 6, bOr ((d.val : Nat) : Int) (w64 (1 * 2 ^ (min j.val 64))) = ((d.val ||| 2 ^ j.val : Nat) : Int) := by decide +kernel
theorem bits_lt : ∀ d : Fin 64, ∀ j : Fin 6, (d.val ||| 2 ^ j.val) < 64 := by decide +kernel
theorem bits_new : ∀ d : Fin 64, ∀ j : Fin 6, ∀ k : Fin 6, bit ((d.val ||| 2 ^ j.val : Nat) : Int) k.val = (decide (j = k) || bit ((d.val : Nat) : Int) k.val) := by decide +kernel
theorem bits_cnt : ∀ d : Fin 64, ∀ j : Fin 6, bit ((d.val : Nat) : Int) j.val = false → cnt ((d.val ||| 2 ^ j.val : Nat) : Int) = cnt ((d.val : Nat) : Int) + 1 := by decide +kernel
theorem bits_full : ∀ n : Fin 7, ∀ d : Fin 64, d.val < 2 ^ n.val → (d.val = 2 ^ n.val - 1 ↔ cnt ((d.val : Nat) : Int) = n.val) := by decide +kernel
theorem bits_zero : ∀ j : Fin 6, bit 0 j.val = false := by decide +kernel
theorem bits_low : ∀ n : Fin 7, ∀ d : Fin 64, ∀ j : Fin 6, d.val < 2 ^ n.val → j.val < n.val → (d.val ||| 2 ^ j.val) < 2 ^ n.val := by decide +kernel
theorem full_eq : ∀ n : Fin 7, w64 (w64 (1 * 2 ^ (min n.val 64)) - 1) = ((2 ^ n.val - 1 : Nat) : Int) := by decide +kernel

def fullN (p : ApiProgram) : Int := w64 (w64 (1 * 2 ^ (min p.Jobs.length 64)) - 1)

/-- What a seat costs. -/
def mv (old : Option (List ApiSeat)) (s : ApiSeat) : Int := match old with | none => 0 | some l => bif decide (s ∈ l) then 0 else 1
theorem mv_01 (old : Option (List ApiSeat)) (s : ApiSeat) : 0 ≤ mv old s ∧ mv old s ≤ 1 := by
  unfold mv
  cases old with
  | none => simp
  | some l =>
    simp only
    cases hd : decide (s ∈ l) <;> simp

theorem Contains_seat_eq (l : List ApiSeat) (hl : l.length ≤ 9223372036854775807) (v : ApiSeat) : slices_Contains_api_Seat l v = some (decide (v ∈ l)) := by
  have key : slices_Index_api_Seat l v = some (match l.findIdx? (fun x => decide (v = x)) with | some i => (i : Int) | none => -1) := by
    unfold slices_Index_api_Seat
    rw [loop_st (S := Unit) (fun k i _ => slices_Index_api_Seat_L0 l l.length v k i) l.length (fun i _ => some (match (l.drop i).findIdx? (fun x => decide (v = x)) with | some j => ((i + j : Nat) : Int) | none => -1)) (fun _ _ => True) ?_ ?_ BIG () (BIG_lt hl) trivial]
    · simp
    · intro k i _ hi _ ih
      have := ih () trivial
      simp only [slices_Index_api_Seat_L0, idx_nat hi, Option.bind_some, w64_succ (show i < 9223372036854775807 by omega), Int.ofNat_lt, hi, decide_true, cond_true, this]
      rw [List.drop_eq_getElem_cons hi, List.findIdx?_cons]
      by_cases h : v = l[i]
      · simp [h]
      · simp only [h, decide_false, cond_false, Bool.false_eq_true, if_false]
        cases List.findIdx? (fun x => decide (v = x)) (List.drop (i + 1) l) with
        | none => rfl
        | some j => simp; omega
    · intro k _ _
      simp [slices_Index_api_Seat_L0, slices_Index_api_Seat_K0]
  unfold slices_Contains_api_Seat
  rw [key]
  cases h : List.findIdx? (fun x => decide (v = x)) l with
  | none =>
    simp at h
    have : v ∉ l := fun hm => h v hm rfl
    simp [this]
  | some j =>
    have : v ∈ l := by
      obtain ⟨h1, h2, _⟩ := List.findIdx?_eq_some_iff_getElem.1 h
      simp at h2
      rw [h2]; exact List.getElem_mem h1
    simp [this]

theorem move_eq (s : PlaySearch) (hl : ∀ l, s.old = some l → l.length ≤ 9223372036854775807) (x : ApiSeat) : play_search_move s x = some (mv s.old x) := by
  unfold play_search_move mv
  cases h : s.old with
  | none => simp
  | some l =>
    simp only [Option.isNone_some, cond_false, Option.getD_some, Contains_seat_eq l (hl l h), Option.bind_some]
    cases decide (x ∈ l) <;> rfl

/-- The day on which a seat is tried. -/
def nowD (p : ApiProgram) (x : PlayState) (n : Int) : Option PlayDay := bif decide (x.day.number < n) then play_open p n else some x.day

/-- One step of the search. -/
structure SStep (p : ApiProgram) (days : Int) (old : Option (List ApiSeat)) (x : PlayState) (s : ApiSeat) (x' : PlayState) : Prop where
  job : isJ p s.Job
  new : bit x.done s.Job.toNat = false
  after : ∀ a ∈ (jobAt p s.Job).After, bit x.done a.toNat = true
  day0 : x.day.number ≤ s.Day
  days : s.Day < days
  due : s.Day ≤ (jobAt p s.Job).Due
  court0 : 0 ≤ s.Court
  court : s.Court.toNat < courts p
  plays : ∃ now b e d', nowD p x s.Day = some now ∧ play_day_play now p s (jobAt p s.Job).Length.High = some (b, e, d') ∧ e ≤ (spanAt p s.Day s.Court).High ∧ x' = ⟨d', bOr x.done (w64 (1 * 2 ^ (min s.Job.toNat 64))), w64 (x.moves - mv old s)⟩
  moves : 0 ≤ x'.moves

/-- A way to the end. -/
def Compl (p : ApiProgram) (days : Int) (old : Option (List ApiSeat)) : PlayState → List ApiSeat → Prop
  | x, [] => x.done = fullN p
  | x, s :: l => x.done ≠ fullN p ∧ ∃ x', SStep p days old x s x' ∧ Compl p days old x' l

abbrev Seen := List (PlayState × Int)
structure SInv (p : ApiProgram) (days : Int) (old : Option (List ApiSeat)) (S : Seen) (c : Nat) : Prop where
  dead : ∀ y, 1 ≤ mget y 0 S → c ≤ cnt y.done → ∀ l, ¬ Compl p days old y l
  rng : ∀ y, -9223372036854775808 ≤ mget y 0 S ∧ mget y 0 S ≤ 9223372036854775807
/-- Only deep states have been added. -/
def Grow (S S' : Seen) (c : Nat) : Prop := ∀ y, 1 ≤ mget y 0 S' → 1 ≤ mget y 0 S ∨ c ≤ cnt y.done

theorem mget_mset {α β : Type} [DecidableEq α] (a b : α) (z v : β) : ∀ l : List (α × β), mget b z (mset a v l) = if b = a then v else mget b z l
  | [] => by by_cases h : b = a <;> simp [mset, mget, h]
  | (k, u) :: l => by
    by_cases h1 : a = k
    · subst h1
      by_cases h2 : b = a
      · simp [mset, mget, h2]
      · simp [mset, mget, h2]
    · by_cases h2 : b = k
      · subst h2
        simp [mset, mget, h1, Ne.symm h1]
      · simp [mset, mget, h1, h2, mget_mset a b z v l]

/-- States that the search comes to. -/
structure Rep (p : ApiProgram) (old : Option (List ApiSeat)) (m0 : Int) (pre : List ApiSeat) (x : PlayState) : Prop where
  ord : Ord p pre
  num : 0 ≤ x.day.number ∧ x.day.number.toNat < p.Days.length
  le : ∀ o ∈ pre, o.Day ≤ x.day.number
  last : pre = [] ∧ x.day.number = 0 ∨ ∃ o ∈ pre, o.Day = x.day.number
  day : DayP p pre (runN p pre (highT p) pre.length).2 x.day
  done : ∃ d : Nat, x.done = d ∧ d < 2 ^ p.Jobs.length
  bits : ∀ j, isJ p j → (bit x.done j.toNat = true ↔ ∃ o ∈ pre, o.Job = j)
  count : cnt x.done = pre.length
  moves : x.moves = m0 - (pre.map (mv old)).sum
  pos : 0 ≤ x.moves
  m0 : m0 ≤ 1000

theorem runN_append {p : ApiProgram} {pre l : List ApiSeat} {t : List Int} : ∀ i, i ≤ pre.length → runN p (pre ++ l) t i = runN p pre t i
  | 0, _ => rfl
  | i + 1, h => by
    have h' : i < pre.length := by omega
    have e : (pre ++ l).getD i default = pre.getD i default := by simp [List.getD, List.getElem?_append_left h']
    have ih := runN_append (p := p) (l := l) (t := t) i (show i ≤ pre.length by omega)
    simp only [runN, ih, e]
    rw [List.take_append_of_le_length (show i ≤ pre.length by omega)]

theorem pow_le {n : Nat} (h : n ≤ 6) : 2 ^ n ≤ 64 := by
  have : 2 ^ n ≤ 2 ^ 6 := Nat.pow_le_pow_right (by omega) h
  simpa using this

theorem Ord.push {p : ApiProgram} {pre : List ApiSeat} (h : Ord p pre) {s : ApiSeat} (hs : Seat p s) (hdue : s.Day ≤ (jobAt p s.Job).Due) (hne : ∀ o ∈ pre, o.Job ≠ s.Job) (hle : ∀ o ∈ pre, o.Day ≤ s.Day) (ha : ∀ a ∈ (jobAt p s.Job).After, ∃ o ∈ pre, o.Job = a) : Ord p (pre ++ [s]) := by
  have get : ∀ i (hi : i < (pre ++ [s]).length), (∃ h : i < pre.length, (pre ++ [s])[i] = pre[i]) ∨ (i = pre.length ∧ (pre ++ [s])[i] = s) := by
    intro i hi
    by_cases h1 : i < pre.length
    · exact .inl ⟨h1, List.getElem_append_left h1⟩
    · have : i = pre.length := by simp at hi; omega
      subst this
      exact .inr ⟨rfl, by simp⟩
  refine ⟨fun i hi => ?_, fun i hi => ?_, fun i hi j hj => ?_, fun i hi j hj => ?_, fun i hi a haa => ?_⟩
  · rcases get i hi with ⟨h1, e⟩ | ⟨_, e⟩ <;> rw [e]
    · exact h.seat i h1
    · exact hs
  · rcases get i hi with ⟨h1, e⟩ | ⟨_, e⟩ <;> rw [e]
    · exact h.due i h1
    · exact hdue
  · rcases get i hi with ⟨h1, e⟩ | ⟨h1, e⟩ <;> rw [e]
    · have e2 : (pre ++ [s])[j]'(by simp; omega) = pre[j]'(by omega) := List.getElem_append_left (by omega)
      rw [e2]
      exact h.fresh i h1 j hj
    · have e2 : (pre ++ [s])[j]'(by simp; omega) = pre[j]'(by omega) := List.getElem_append_left (by omega)
      rw [e2]
      exact hne _ (List.getElem_mem _)
  · rcases get i hi with ⟨h1, e⟩ | ⟨h1, e⟩ <;> rw [e]
    · have e2 : (pre ++ [s])[j]'(by simp; omega) = pre[j]'(by omega) := List.getElem_append_left (by omega)
      rw [e2]
      exact h.sorted i h1 j hj
    · have e2 : (pre ++ [s])[j]'(by simp; omega) = pre[j]'(by omega) := List.getElem_append_left (by omega)
      rw [e2]
      exact hle _ (List.getElem_mem _)
  · rcases get i hi with ⟨h1, e⟩ | ⟨h1, e⟩
    · rw [e] at haa
      obtain ⟨j, hj, e3⟩ := h.after i h1 a haa
      exact ⟨j, hj, by rw [List.getElem_append_left (by omega)]; exact e3⟩
    · rw [e] at haa
      obtain ⟨o, ho, e3⟩ := ha a haa
      obtain ⟨j, hj, rfl⟩ := List.getElem_of_mem ho
      exact ⟨j, by omega, by rw [List.getElem_append_left hj]; exact e3⟩

theorem ord_len {p : ApiProgram} {old : Option (List ApiSeat)} {m0 : Int} {pre : List ApiSeat} {x : PlayState} (h : Rep p old m0 pre x) : pre.length ≤ 6 := by
  rw [← h.count]
  unfold cnt
  have := List.length_filter_le (fun j => bit x.done j) (List.range 6)
  simpa using this

theorem Rep.bounds {p : ApiProgram} (hp : VP p) {old : Option (List ApiSeat)} {m0 : Int} {pre : List ApiSeat} {x : PlayState} (h : Rep p old m0 pre x) :
    ∀ o ∈ pre, 0 ≤ endAt (runN p pre (highT p) pre.length).2 o.Job ∧ endAt (runN p pre (highT p) pre.length).2 o.Job ≤ 1000000000000 := by
  intro o _
  have := runN_bound hp h.ord.seat (takes_high hp) pre.length (Nat.le_refl _) o.Job.toNat
  have := ord_len h
  simp only [endAt]
  omega

theorem nowD_ok {p : ApiProgram} (hp : VP p) {old : Option (List ApiSeat)} {m0 : Int} {pre : List ApiSeat} {x : PlayState} (h : Rep p old m0 pre x) {n : Int} (h0 : x.day.number ≤ n) (h1 : n.toNat < p.Days.length) :
    ∃ now, nowD p x n = some now ∧ now.number = n ∧ DayP p pre (runN p pre (highT p) pre.length).2 now := by
  have hn := h.num
  unfold nowD
  by_cases hlt : x.day.number < n
  · obtain ⟨d, hd, od⟩ := play_open_eq hp (n := n) (by omega) h1
    refine ⟨d, by simp [hlt, hd], od.number, od.dayP (fun o ho e => ?_) _⟩
    have := h.le o ho
    omega
  · have : x.day.number = n := by omega
    exact ⟨x.day, by simp [hlt], this, h.day⟩

/-- Every seat that may come is played. -/
theorem plays_ok {p : ApiProgram} (hp : VP p) {old : Option (List ApiSeat)} {m0 : Int} {pre : List ApiSeat} {x : PlayState} (h : Rep p old m0 pre x) {s : ApiSeat} (hs : Seat p s) (h0 : x.day.number ≤ s.Day) :
    ∃ now, nowD p x s.Day = some now ∧ now.number = s.Day ∧ DayP p pre (runN p pre (highT p) pre.length).2 now ∧
      play_day_play now p s (jobAt p s.Job).Length.High = some (beginS p pre (runN p pre (highT p) pre.length).2 s, beginS p pre (runN p pre (highT p) pre.length).2 s + (jobAt p s.Job).Length.High,
        ⟨now.number, now.free.set s.Court (beginS p pre (runN p pre (highT p) pre.length).2 s + (jobAt p s.Job).Length.High), now.ends.set s.Job (beginS p pre (runN p pre (highT p) pre.length).2 s + (jobAt p s.Job).Length.High)⟩) := by
  obtain ⟨now, e1, e2, e3⟩ := nowD_ok hp h h0 hs.day
  have hv := hs.job.vj hp
  have hpre : ∀ o ∈ pre, isJ p o.Job := fun o ho => by
    obtain ⟨i, hi, rfl⟩ := List.getElem_of_mem ho
    exact (h.ord.seat i hi).job
  refine ⟨now, e1, e2, e3, day_play_eq hp hpre (h.bounds hp) e3 hs e2.symm ?_⟩
  have := hv.low
  have := hv.le
  have := hv.high
  omega

/-- Each step keeps what a state is. -/
theorem Rep.step {p : ApiProgram} (hp : VP p) {days : Int} (hdays : days ≤ p.Days.length) {old : Option (List ApiSeat)} {m0 : Int} {pre : List ApiSeat} {x : PlayState} (h : Rep p old m0 pre x) {s : ApiSeat} {x' : PlayState} (hst : SStep p days old x s x') :
    Rep p old m0 (pre ++ [s]) x' ∧ Seat p s ∧ endAt (runN p (pre ++ [s]) (highT p) (pre ++ [s]).length).2 s.Job ≤ (spanAt p s.Day s.Court).High := by
  have hn := h.num
  have hd0 := hst.day0
  have hd1 := hst.days
  have hs : Seat p s := ⟨hst.job, by omega, by omega, hst.court0, hst.court⟩
  obtain ⟨now, e1, e2, e3, e4⟩ := plays_ok hp h hs hst.day0
  obtain ⟨now', b, e, d', f1, f2, f3, rfl⟩ := hst.plays
  rw [e1] at f1
  cases f1
  rw [e4] at f2
  simp only [Option.some.injEq, Prod.mk.injEq] at f2
  obtain ⟨rfl, rfl, rfl⟩ := f2
  have hv := hs.job.vj hp
  have hpreS : ∀ o ∈ pre, Seat p o := fun o ho => by
    obtain ⟨i, hi, rfl⟩ := List.getElem_of_mem ho
    exact h.ord.seat i hi
  have hne : ∀ o ∈ pre, o.Job ≠ s.Job := fun o ho e => by
    have := (h.bits _ hs.job).2 ⟨o, ho, e⟩
    rw [hst.new] at this; cases this
  have hle : ∀ o ∈ pre, o.Day ≤ s.Day := fun o ho => Int.le_trans (h.le o ho) hst.day0
  have hafter : ∀ a ∈ (jobAt p s.Job).After, ∃ o ∈ pre, o.Job = a := fun a ha => by
    have hja : isJ p a := by
      have := hv.after a ha
      have := hs.job.2
      exact ⟨by omega, by omega⟩
    exact (h.bits a hja).1 (hst.after a ha)
  have hlen := runN_length (p := p) (order := pre) (takes := highT p) pre.length
  have hrun : (runN p (pre ++ [s]) (highT p) (pre ++ [s]).length).2 = (runN p pre (highT p) pre.length).2.set s.Job.toNat (beginS p pre (runN p pre (highT p) pre.length).2 s + (jobAt p s.Job).Length.High) := by
    have e5 : (pre ++ [s]).length = pre.length + 1 := by simp
    rw [e5]
    have e6 : (pre ++ [s]).getD pre.length default = s := by simp [List.getD]
    have e7 : (pre ++ [s]).take pre.length = pre := by simp
    simp only [runN, runN_append pre.length (Nat.le_refl _), e6, e7]
    have e8 : endAt (highT p) s.Job = (jobAt p s.Job).Length.High := by rw [highT, endAt_map _ hs.job]
    rw [e8]
  obtain ⟨d, hd, hdl⟩ := h.done
  have h6 := hs.job.six hp
  have hnj := hp.nj
  have hd64 : d < 64 := Nat.lt_of_lt_of_le hdl (pow_le hnj)
  have hj6 : s.Job.toNat < 6 := by omega
  have hor : bOr x.done (w64 (1 * 2 ^ (min s.Job.toNat 64))) = ((d ||| 2 ^ s.Job.toNat : Nat) : Int) := by
    rw [hd]; exact bits_or ⟨d, hd64⟩ ⟨s.Job.toNat, hj6⟩
  have hmv := mv_01 old s
  have hsum : ∀ l : List ApiSeat, 0 ≤ (l.map (mv old)).sum := by
    intro l
    induction l with
    | nil => simp
    | cons a l ih => have := (mv_01 old a).1; simp; omega
  have hxm := h.moves
  have hxp := h.pos
  have hm0 := h.m0
  have hs0 := hsum pre
  refine ⟨⟨h.ord.push hs hst.due hne hle hafter, ?_, ?_, ?_, ?_, ?_, ?_, ?_, ?_, hst.moves, h.m0⟩, hs, ?_⟩
  · simp only; rw [e2]; exact ⟨hs.day0, hs.day⟩
  · intro o ho
    simp only; rw [e2]
    rcases List.mem_append.1 ho with ho | ho
    · exact hle o ho
    · simp at ho; rw [ho]; exact Int.le_refl _
  · right
    exact ⟨s, by simp, e2.symm⟩
  · rw [hrun]
    exact e3.next hp hlen.2 hpreS hs e2.symm hne (by have := hv.low; have := hv.le; omega)
  · simp only
    exact ⟨d ||| 2 ^ s.Job.toNat, hor, bits_low ⟨p.Jobs.length, by omega⟩ ⟨d, hd64⟩ ⟨s.Job.toNat, hj6⟩ hdl hs.job.2⟩
  · intro j hj
    have hjs := hj.six hp
    simp only
    rw [hor]
    have := bits_new ⟨d, hd64⟩ ⟨s.Job.toNat, hj6⟩ ⟨j.toNat, by omega⟩
    simp only at this
    rw [this, ← hd]
    simp only [Bool.or_eq_true, decide_eq_true_eq, Fin.mk.injEq, h.bits j hj]
    constructor
    · rintro (h1 | ⟨o, ho, e⟩)
      · exact ⟨s, by simp, by have := hs.job.1; have := hj.1; omega⟩
      · exact ⟨o, List.mem_append.2 (.inl ho), e⟩
    · rintro ⟨o, ho, e⟩
      rcases List.mem_append.1 ho with ho | ho
      · exact .inr ⟨o, ho, e⟩
      · simp at ho; subst ho; left; rw [e]
  · simp only
    rw [hor, bits_cnt ⟨d, hd64⟩ ⟨s.Job.toNat, hj6⟩ (by simp only; rw [← hd]; exact hst.new)]
    simp only
    rw [← hd, h.count]
    simp
  · simp only
    rw [w64_ok (by omega) (by omega), hxm]
    simp
    omega
  · rw [hrun, endAt_set_self hlen.2 hs.job]
    exact f3
end Go.Am
