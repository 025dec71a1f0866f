/- Layer 8, plain: when jobs begin and end. -/
import Derived.Test.YtikcmpflkibomaaPlayPlain2
namespace Go.Am

theorem In_eq (l : List Int) (hl : l.length ≤ 9223372036854775807) (n : Int) : deuceref08_In l n = some (decide (n ∈ l)) := by
  unfold deuceref08_In
  rw [loop_all (fun k i => deuceref08_In_L0 l n k i) l.length (fun i => !decide (l.getD i default = n)) (some true) (some false) ?_ ?_ BIG (BIG_lt hl)]
  · rw [any_range (f := fun o : Int => decide (o = n))]
    have : decide (n ∈ l) = l.any fun o => decide (o = n) := by
      rw [Bool.eq_iff_iff]; simp
    rw [this]
    cases (l.any fun o => decide (o = n)) <;> rfl
  · intro k i hi
    simp only [deuceref08_In_L0, idx_nat hi, Option.bind_some, w64_succ (show i < 9223372036854775807 by omega), Int.ofNat_lt, hi, decide_true, cond_true]
    have e1 : l.getD i default = l[i] := by simp [List.getD, hi]
    rw [e1]
    by_cases h : l[i] = n <;> simp [h]
  · intro k
    simp [deuceref08_In_L0, deuceref08_In_K0]

def shareB (p : ApiProgram) (a b : Int) : Bool := decide (b ∈ (jobAt p a).After) || decide (b ∈ (jobAt p a).With) || decide (a ∈ (jobAt p b).After) || decide (a ∈ (jobAt p b).With)
/-- A job's number. -/
def isJ (p : ApiProgram) (a : Int) : Prop := 0 ≤ a ∧ a.toNat < p.Jobs.length
theorem isJ.idx {p : ApiProgram} {a : Int} (h : isJ p a) : idx p.Jobs a = some (jobAt p a) := by rw [idx_int h.1 h.2]; simp [jobAt, List.getD, h.2]
theorem isJ.small {p : ApiProgram} (hp : VP p) {a : Int} (h : isJ p a) : (jobAt p a).After.length ≤ 9223372036854775807 ∧ (jobAt p a).With.length ≤ 9223372036854775807 := by
  have := hp.small.2.2.2 _ (List.getElem_mem h.2)
  simpa [jobAt, List.getD, h.2] using this
theorem isJ.vj {p : ApiProgram} (hp : VP p) {a : Int} (h : isJ p a) : VJ (jobAt p a) a.toNat p.Jobs.length := by
  have := hp.vj h.2
  simpa [jobAt, List.getD, h.2] using this

theorem play_share_eq {p : ApiProgram} (hp : VP p) {a b : Int} (ha : isJ p a) (hb : isJ p b) : play_share p a b = some (shareB p a b) := by
  simp only [play_share, play_share_1, ha.idx, hb.idx, Option.bind_some, Contains_int_eq _ (ha.small hp).1, Contains_int_eq _ (ha.small hp).2, Contains_int_eq _ (hb.small hp).1, Contains_int_eq _ (hb.small hp).2, or_some, shareB]
  simp [Bool.or_assoc]
theorem ref_Share_eq {p : ApiProgram} (hp : VP p) {a b : Int} (ha : isJ p a) (hb : isJ p b) : deuceref08_Share p a b = some (shareB p a b) := by
  simp only [deuceref08_Share, ha.idx, hb.idx, Option.bind_some, In_eq _ (ha.small hp).1, In_eq _ (ha.small hp).2, In_eq _ (hb.small hp).1, In_eq _ (hb.small hp).2, or_some, shareB]

def spanAt (p : ApiProgram) (d c : Int) : ApiSpan := (p.Days.getD d.toNat []).getD c.toNat default
def endAt (ends : List Int) (j : Int) : Int := ends.getD j.toNat 0
def beginStep (p : ApiProgram) (ends : List Int) (s : ApiSeat) (b : Int) (o : ApiSeat) : Int :=
  bif decide (o.Day = s.Day) then
    (bif shareB p s.Job o.Job then max (bif decide (o.Court = s.Court) then max b (endAt ends o.Job) else b) (endAt ends o.Job + p.Rest) else (bif decide (o.Court = s.Court) then max b (endAt ends o.Job) else b))
  else b
def beginS (p : ApiProgram) (pre : List ApiSeat) (ends : List Int) (s : ApiSeat) : Int := pre.foldl (beginStep p ends s) (max (spanAt p s.Day s.Court).Low (jobAt p s.Job).Earliest)

theorem beginStep_le {p : ApiProgram} {ends : List Int} {s o : ApiSeat} {b x : Int} : beginStep p ends s b o ≤ x ↔ b ≤ x ∧ (o.Day = s.Day → (o.Court = s.Court → endAt ends o.Job ≤ x) ∧ (shareB p s.Job o.Job = true → endAt ends o.Job + p.Rest ≤ x)) := by
  unfold beginStep
  by_cases h1 : o.Day = s.Day <;> by_cases h2 : o.Court = s.Court <;> cases h3 : shareB p s.Job o.Job <;> simp [h1, h2, Int.max_le, and_assoc]
theorem foldl_le {α : Type} {f : Int → α → Int} {C : α → Int → Prop} (hf : ∀ b o x, f b o ≤ x ↔ b ≤ x ∧ C o x) : ∀ (l : List α) (b x : Int), l.foldl f b ≤ x ↔ b ≤ x ∧ ∀ o ∈ l, C o x
  | [], b, x => by simp
  | a :: l, b, x => by
    rw [List.foldl_cons, foldl_le hf l, hf]
    simp [and_assoc]
/-- What a beginning waits for. -/
def waits (p : ApiProgram) (pre : List ApiSeat) (ends : List Int) (s : ApiSeat) (x : Int) : Prop :=
  (spanAt p s.Day s.Court).Low ≤ x ∧ (jobAt p s.Job).Earliest ≤ x ∧ ∀ o ∈ pre, o.Day = s.Day → (o.Court = s.Court → endAt ends o.Job ≤ x) ∧ (shareB p s.Job o.Job = true → endAt ends o.Job + p.Rest ≤ x)
theorem beginS_le {p : ApiProgram} {pre : List ApiSeat} {ends : List Int} {s : ApiSeat} {x : Int} : beginS p pre ends s ≤ x ↔ waits p pre ends s x := by
  unfold beginS waits
  rw [foldl_le (f := beginStep p ends s) (C := fun o x => o.Day = s.Day → (o.Court = s.Court → endAt ends o.Job ≤ x) ∧ (shareB p s.Job o.Job = true → endAt ends o.Job + p.Rest ≤ x)) (fun b o x => beginStep_le)]
  simp [Int.max_le, and_assoc]
theorem eq_of_le {a : Int} {C : Int → Prop} (ha : ∀ x, a ≤ x ↔ C x) {b : Int} (hb : ∀ x, b ≤ x ↔ C x) : a = b := by
  have h1 := (ha b).2 ((hb b).1 (Int.le_refl b))
  have h2 := (hb a).2 ((ha a).1 (Int.le_refl a))
  omega

theorem getD_get {α : Type} {l : List α} {i : Nat} (h : i < l.length) (d : α) : l.getD i d = l[i] := by simp [List.getD, h]
/-- A seat that a valid order may hold. -/
structure Seat (p : ApiProgram) (s : ApiSeat) : Prop where
  job : isJ p s.Job
  day0 : 0 ≤ s.Day
  day : s.Day.toNat < p.Days.length
  court0 : 0 ≤ s.Court
  court : s.Court.toNat < courts p
theorem Seat.days {p : ApiProgram} {s : ApiSeat} (h : Seat p s) : idx p.Days s.Day = some (p.Days.getD s.Day.toNat []) := by rw [idx_int h.day0 h.day]; simp [List.getD, h.day]
theorem Seat.court' {p : ApiProgram} (hp : VP p) {s : ApiSeat} (h : Seat p s) : s.Court.toNat < (p.Days.getD s.Day.toNat []).length := by
  have h1 := hp.nc _ h.day
  have h2 : p.Days.getD s.Day.toNat [] = p.Days[s.Day.toNat]'h.day := by simp [List.getD, h.day]
  rw [h2, h1]
  exact h.court
theorem Seat.span {p : ApiProgram} (hp : VP p) {s : ApiSeat} (h : Seat p s) : idx (p.Days.getD s.Day.toNat []) s.Court = some (spanAt p s.Day s.Court) := by
  have hc := h.court' hp
  rw [idx_int h.court0 hc]
  exact congrArg some (getD_get hc _).symm
theorem Seat.hours {p : ApiProgram} (hp : VP p) {s : ApiSeat} (h : Seat p s) : 0 ≤ (spanAt p s.Day s.Court).Low ∧ (spanAt p s.Day s.Court).Low ≤ (spanAt p s.Day s.Court).High ∧ (spanAt p s.Day s.Court).High ≤ 1440 := by
  have hc := h.court' hp
  have e : spanAt p s.Day s.Court = (p.Days.getD s.Day.toNat [])[s.Court.toNat] := getD_get hc _
  rw [e]
  have h2 : p.Days.getD s.Day.toNat [] = p.Days[s.Day.toNat]'h.day := by simp [List.getD, h.day]
  exact hp.span _ (by rw [h2]; exact List.getElem_mem h.day) _ (List.getElem_mem hc)

/-- An order, seat by seat. -/
structure Ord (p : ApiProgram) (order : List ApiSeat) : Prop where
  seat : ∀ i (h : i < order.length), Seat p order[i]
  due : ∀ i (h : i < order.length), order[i].Day ≤ (jobAt p order[i].Job).Due
  fresh : ∀ i (h : i < order.length) j (hj : j < i), order[j].Job ≠ order[i].Job
  sorted : ∀ i (h : i < order.length) j (hj : j < i), order[j].Day ≤ order[i].Day
  after : ∀ i (h : i < order.length), ∀ a ∈ (jobAt p order[i].Job).After, ∃ j, ∃ (hj : j < i), order[j].Job = a
theorem seat_of {p : ApiProgram} {pre : List ApiSeat} {s : ApiSeat} (h : mayC p pre s = true) : Seat p s := by
  simp only [mayC, Bool.and_eq_true] at h
  obtain ⟨⟨⟨⟨⟨h1, h2⟩, h3⟩, h4⟩, h5⟩, h6⟩ := h
  have hj := wi_int h1
  have hc := wi_int h4
  simp [wi] at h3
  exact ⟨hj, h3.1, by omega, hc.1, hc.2⟩
theorem mayC_parts {p : ApiProgram} {pre : List ApiSeat} {s : ApiSeat} (h : mayC p pre s = true) : s.Day ≤ (jobAt p s.Job).Due ∧ (∀ o ∈ pre, o.Job ≠ s.Job) ∧ (∀ o ∈ pre, o.Day ≤ s.Day) ∧ ∀ a ∈ (jobAt p s.Job).After, ∃ o ∈ pre, o.Job = a := by
  simp only [mayC, Bool.and_eq_true, Bool.not_eq_true', List.any_eq_false, List.all_eq_true, decide_eq_true_eq, List.any_eq_true] at h
  obtain ⟨⟨⟨⟨⟨h1, h2⟩, h3⟩, h4⟩, h5⟩, h6⟩ := h
  simp [wi] at h3
  exact ⟨by omega, h2, h5, h6⟩
theorem Ord_of {p : ApiProgram} {order : List ApiSeat} (h : isOrd p order = true) : Ord p order ∧ order.length = p.Jobs.length := by
  simp only [isOrd, Bool.and_eq_true, range_all, decide_eq_true_eq] at h
  have hm : ∀ i (hi : i < order.length), mayC p (order.take i) order[i] = true := by
    intro i hi
    have := h.1 i hi
    simpa [List.getD, hi] using this
  refine ⟨⟨fun i hi => seat_of (hm i hi), fun i hi => (mayC_parts (hm i hi)).1, fun i hi j hj => (mayC_parts (hm i hi)).2.1 _ (by rw [List.mem_take_iff_getElem]; exact ⟨j, by omega, rfl⟩),
    fun i hi j hj => (mayC_parts (hm i hi)).2.2.1 _ (by rw [List.mem_take_iff_getElem]; exact ⟨j, by omega, rfl⟩), fun i hi a ha => ?_⟩, h.2⟩
  obtain ⟨o, ho, e⟩ := (mayC_parts (hm i hi)).2.2.2 a ha
  rw [List.mem_take_iff_getElem] at ho
  obtain ⟨j, hj, rfl⟩ := ho
  exact ⟨j, by omega, e⟩

/-- The run of an order. -/
def runN (p : ApiProgram) (order : List ApiSeat) (takes : List Int) : Nat → List Int × List Int
  | 0 => (List.replicate p.Jobs.length 0, List.replicate p.Jobs.length 0)
  | i + 1 =>
    let s := order.getD i default
    let r := runN p order takes i
    let b := beginS p (order.take i) r.2 s
    (r.1.set s.Job.toNat b, r.2.set s.Job.toNat (b + endAt takes s.Job))

theorem runN_length {p : ApiProgram} {order : List ApiSeat} {takes : List Int} : ∀ i, (runN p order takes i).1.length = p.Jobs.length ∧ (runN p order takes i).2.length = p.Jobs.length
  | 0 => by simp [runN]
  | i + 1 => by
    have := runN_length (p := p) (order := order) (takes := takes) i
    simp [runN, this]

/-- Lengths that jobs may take. -/
structure Takes (p : ApiProgram) (takes : List Int) : Prop where
  len : takes.length = p.Jobs.length
  one : ∀ j, isJ p j → 1 ≤ endAt takes j
  max : ∀ j, isJ p j → endAt takes j ≤ 600

theorem waits_mono {p : ApiProgram} {pre : List ApiSeat} {ends : List Int} {s : ApiSeat} {x y : Int} (h : waits p pre ends s x) (hxy : x ≤ y) : waits p pre ends s y :=
  ⟨by have := h.1; omega, by have := h.2.1; omega, fun o ho hd => ⟨fun hc => by have := (h.2.2 o ho hd).1 hc; omega, fun hc => by have := (h.2.2 o ho hd).2 hc; omega⟩⟩

/-- Bounds: no sum overflows. -/
theorem runN_bound {p : ApiProgram} (hp : VP p) {order : List ApiSeat} (ho : ∀ i (h : i < order.length), Seat p order[i]) {takes : List Int} (ht : Takes p takes) : ∀ i, i ≤ order.length → ∀ j : Nat, 
    0 ≤ (runN p order takes i).2.getD j 0 ∧ (runN p order takes i).2.getD j 0 ≤ 1200 * i + 1440
  | 0, _, j => by
    simp only [runN, List.getD, List.getElem?_replicate]
    split <;> simp
  | i + 1, hi, j => by
    have ih := runN_bound hp ho ht i (by omega)
    have hs := ho i (by omega)
    have e1 : order.getD i default = order[i] := by simp [List.getD, show i < order.length by omega]
    have hrest := hp.rest
    have hb : beginS p (order.take i) (runN p order takes i).2 order[i] ≤ 1200 * i + 1440 + 600 := by
      rw [beginS_le]
      have h1 := hs.hours hp
      have h2 := (hs.job.vj hp).early
      refine ⟨by omega, by omega, fun o _ _ => ⟨fun _ => ?_, fun _ => ?_⟩⟩
      · have := ih o.Job.toNat; simp only [endAt]; omega
      · have := ih o.Job.toNat; simp only [endAt]; omega
    have hb0 : 0 ≤ beginS p (order.take i) (runN p order takes i).2 order[i] := by
      have h := beginS_le.1 (Int.le_refl (beginS p (order.take i) (runN p order takes i).2 order[i]))
      have := (hs.job.vj hp).early0
      have := h.2.1
      omega
    have t1 := ht.one _ hs.job
    have t2 := ht.max _ hs.job
    simp only [runN, e1]
    by_cases hj : order[i].Job.toNat = j
    · subst hj
      have hl := (runN_length (p := p) (order := order) (takes := takes) i).2
      simp only [List.getD, List.getElem?_set_self (show order[i].Job.toNat < (runN p order takes i).2.length by rw [hl]; exact hs.job.2), Option.getD_some]
      constructor
      · omega
      · push_cast; omega
    · have := ih j
      simp only [List.getD, List.getElem?_set_ne hj] at this ⊢
      constructor
      · omega
      · push_cast; omega
end Go.Am
