/- Layer 8, plain: orders of play. -/
import Derived.Test.YtikcmpflkibomaaPlayPlain1
namespace Go.Am

theorem any_range {α : Type} [Inhabited α] {l : List α} {f : α → Bool} : ((List.range l.length).all fun i => !f (l.getD i default)) = !l.any f := by
  rw [Bool.eq_iff_iff]
  simp only [range_all, Bool.not_eq_true', List.any_eq_false]
  constructor
  · intro h x hx
    obtain ⟨i, hi, rfl⟩ := List.getElem_of_mem hx
    have := h i hi
    simp [List.getD, hi] at this
    simp [this]
  · intro h i hi
    have := h _ (List.getElem_mem hi)
    simp [List.getD, hi] at this ⊢
    exact this
theorem all_range {α : Type} [Inhabited α] {l : List α} {f : α → Bool} : ((List.range l.length).all fun i => f (l.getD i default)) = l.all f := by
  have := any_range (l := l) (f := fun x => !f x)
  simp only [Bool.not_not] at this
  rw [this, List.all_eq_not_any_not]

theorem has_eq (l : List ApiSeat) (hl : l.length ≤ 9223372036854775807) (j : Int) : deuceref08_has l j = some (l.any fun o => decide (o.Job = j)) := by
  unfold deuceref08_has
  rw [loop_all (fun k i => deuceref08_has_L0 l j k i) l.length (fun i => !decide ((l.getD i default).Job = j)) (some true) (some false) ?_ ?_ BIG (BIG_lt hl)]
  · rw [any_range (f := fun o : ApiSeat => decide (o.Job = j))]
    cases (l.any fun o => decide (o.Job = j)) <;> rfl
  · intro k i hi
    simp only [deuceref08_has_L0, idx_nat hi, Option.bind_some, w64_succ (show i < 9223372036854775807 by omega), Int.ofNat_lt, hi, decide_true, cond_true]
    have e1 : l.getD i default = l[i] := by simp [List.getD, hi]
    rw [e1]
    by_cases h : l[i].Job = j <;> simp [h]
  · intro k
    simp [deuceref08_has_L0, deuceref08_has_K0]

def jobAt (p : ApiProgram) (j : Int) : ApiJob := p.Jobs.getD j.toNat default
def courts (p : ApiProgram) : Nat := (p.Days.getD 0 []).length
/-- A seat can come behind others. -/
def mayC (p : ApiProgram) (pre : List ApiSeat) (s : ApiSeat) : Bool :=
  wi s.Job 0 (p.Jobs.length - 1) && !(pre.any fun o => decide (o.Job = s.Job)) && wi s.Day 0 (min ((p.Days.length : Int) - 1) (jobAt p s.Job).Due) && wi s.Court 0 (courts p - 1) &&
    (pre.all fun o => decide (o.Day ≤ s.Day)) && (jobAt p s.Job).After.all fun a => pre.any fun o => decide (o.Job = a)
def isOrd (p : ApiProgram) (order : List ApiSeat) : Bool :=
  (List.range order.length).all (fun i => mayC p (order.take i) (order.getD i default)) && decide (order.length = p.Jobs.length)

theorem wi_int {n : Int} {m : Nat} (h : wi n 0 ((m : Int) - 1) = true) : 0 ≤ n ∧ n.toNat < m := by
  simp [wi] at h
  omega

theorem MayCome_eq {p : ApiProgram} (hp : VP p) (pre : List ApiSeat) (hl : pre.length ≤ 9223372036854775807) (s : ApiSeat) : deuceref08_MayCome p pre s = some (mayC p pre s) := by
  have hnj := hp.nj
  have hnd := hp.nd
  have hnd0 := hp.nd0
  have hnc := hp.nc3
  have hnc0 := hp.nc0
  have e0 : p.Days.getD 0 [] = p.Days[0] := by simp [List.getD, hnd0]
  have after : wi s.Job 0 (p.Jobs.length - 1) = true → deuceref08_MayCome_K0 pre p s = some ((jobAt p s.Job).After.all fun a => pre.any fun o => decide (o.Job = a)) := by
    intro hj
    obtain ⟨j0, j1⟩ := wi_int hj
    have ej : idx p.Jobs s.Job = some (jobAt p s.Job) := by rw [idx_int j0 j1]; simp [jobAt, List.getD, j1]
    have hal : (jobAt p s.Job).After.length ≤ 9223372036854775807 := by
      have := (hp.small.2.2.2 _ (List.getElem_mem j1)).1
      simpa [jobAt, List.getD, j1] using this
    unfold deuceref08_MayCome_K0
    rw [loop_all (fun k i => deuceref08_MayCome_L2 pre p s k i) (jobAt p s.Job).After.length (fun i => pre.any fun o => decide (o.Job = (jobAt p s.Job).After.getD i default)) (some false) (some true) ?_ ?_ BIG (BIG_lt hal)]
    · rw [all_range (f := fun a => pre.any fun o => decide (o.Job = a))]
      cases ((jobAt p s.Job).After.all fun a => pre.any fun o => decide (o.Job = a)) <;> rfl
    · intro k i hi
      simp only [deuceref08_MayCome_L2, ej, idx_nat hi, Option.bind_some, w64_succ (show i < 9223372036854775807 by omega), Int.ofNat_lt, hi, decide_true, cond_true, has_eq pre hl]
      have e1 : (jobAt p s.Job).After.getD i default = (jobAt p s.Job).After[i] := by simp [List.getD, hi]
      rw [e1]
      cases (pre.any fun o => decide (o.Job = (jobAt p s.Job).After[i])) <;> rfl
    · intro k
      simp [deuceref08_MayCome_L2, deuceref08_MayCome_K2, ej]
  have day : wi s.Job 0 (p.Jobs.length - 1) = true → deuceref08_MayCome_L0 pre p s BIG 0 = some ((pre.all fun o => decide (o.Day ≤ s.Day)) && (jobAt p s.Job).After.all fun a => pre.any fun o => decide (o.Job = a)) := by
    intro hj
    rw [loop_all (fun k i => deuceref08_MayCome_L0 pre p s k i) pre.length (fun i => decide ((pre.getD i default).Day ≤ s.Day)) (some false) (deuceref08_MayCome_K0 pre p s) ?_ ?_ BIG (BIG_lt hl)]
    · rw [all_range (f := fun o : ApiSeat => decide (o.Day ≤ s.Day)), after hj]
      cases (pre.all fun o => decide (o.Day ≤ s.Day)) <;> rfl
    · intro k i hi
      simp only [deuceref08_MayCome_L0, idx_nat hi, Option.bind_some, w64_succ (show i < 9223372036854775807 by omega), Int.ofNat_lt, hi, decide_true, cond_true]
      have e1 : pre.getD i default = pre[i] := by simp [List.getD, hi]
      rw [e1]
      by_cases h : pre[i].Day ≤ s.Day
      · simp [h, show ¬ s.Day < pre[i].Day by omega]
      · simp [h, show s.Day < pre[i].Day by omega]
    · intro k
      simp [deuceref08_MayCome_L0]
  unfold deuceref08_MayCome
  simp only [ref_within_eq, w64_ok (show -9223372036854775808 ≤ (p.Jobs.length : Int) - 1 by omega) (show (p.Jobs.length : Int) - 1 ≤ 9223372036854775807 by omega), w64_ok (show -9223372036854775808 ≤ (p.Days.length : Int) - 1 by omega) (show (p.Days.length : Int) - 1 ≤ 9223372036854775807 by omega),
    Option.bind_some, has_eq pre hl, or_some, show idx p.Days 0 = some p.Days[0] from idx_nat hnd0]
  rw [w64_ok (show -9223372036854775808 ≤ (p.Days[0].length : Int) - 1 by omega) (by rw [← e0]; omega)]
  unfold mayC
  cases hj : wi s.Job 0 (p.Jobs.length - 1) with
  | false => simp
  | true =>
    obtain ⟨j0, j1⟩ := wi_int hj
    have ej : idx p.Jobs s.Job = some (jobAt p s.Job) := by rw [idx_int j0 j1]; simp [jobAt, List.getD, j1]
    have hcc : (courts p : Int) = p.Days[0].length := by unfold courts; rw [e0]
    rw [hcc, day hj]
    simp only [ej, Option.bind_some]
    cases (pre.any fun o => decide (o.Job = s.Job)) <;> cases wi s.Day 0 (min (↑p.Days.length - 1) (jobAt p s.Job).Due) <;> cases wi s.Court 0 (↑p.Days[0].length - 1) <;> simp

theorem IsOrder_eq {p : ApiProgram} (hp : VP p) (order : List ApiSeat) (hl : order.length ≤ 9223372036854775807) : deuceref08_IsOrder p order = some (isOrd p order) := by
  unfold deuceref08_IsOrder
  rw [loop_all (fun k i => deuceref08_IsOrder_L0 order p k i) order.length (fun i => mayC p (order.take i) (order.getD i default)) (some false) (some (decide (order.length = p.Jobs.length))) ?_ ?_ BIG (BIG_lt hl)]
  · unfold isOrd
    cases ((List.range order.length).all fun i => mayC p (order.take i) (order.getD i default)) <;> rfl
  · intro k i hi
    simp only [deuceref08_IsOrder_L0, idx_nat hi, sub_nat (show i ≤ order.length by omega), Option.bind_some, w64_succ (show i < 9223372036854775807 by omega), Int.ofNat_lt, hi, decide_true, cond_true,
      MayCome_eq hp (order.take i) (by simp; omega)]
    have e1 : order.getD i default = order[i] := by simp [List.getD, hi]
    rw [e1]
    cases mayC p (order.take i) order[i] <;> rfl
  · intro k
    simp [deuceref08_IsOrder_L0, deuceref08_IsOrder_K0]
    omega

theorem ContainsFunc_int_eq (l : List Int) (hl : l.length ≤ 9223372036854775807) (f : Int → Option Bool) (g : Int → Bool) (hf : ∀ x ∈ l, f x = some (g x)) : slices_ContainsFunc_int l f = some (l.any g) := by
  have key : slices_IndexFunc_int l f = some (match l.findIdx? g with | some i => (i : Int) | none => -1) := by
    unfold slices_IndexFunc_int
    rw [loop_st (S := Unit) (fun k i _ => slices_IndexFunc_int_L0 l f l.length k i) l.length (fun i _ => some (match (l.drop i).findIdx? g with | some j => ((i + j : Nat) : Int) | none => -1)) (fun _ _ => True) ?_ ?_ BIG () (BIG_lt hl) trivial]
    · simp
    · intro k i _ hi _ ih
      have := ih () trivial
      simp only [slices_IndexFunc_int_L0, idx_nat hi, Option.bind_some, w64_succ (show i < 9223372036854775807 by omega), Int.ofNat_lt, hi, decide_true, cond_true, this, hf _ (List.getElem_mem hi)]
      rw [List.drop_eq_getElem_cons hi, List.findIdx?_cons]
      cases h : g l[i] with
      | true => simp
      | false =>
        simp only [cond_false, Bool.false_eq_true, if_false]
        cases List.findIdx? g (List.drop (i + 1) l) with
        | none => rfl
        | some j => simp; omega
    · intro k _ _
      simp [slices_IndexFunc_int_L0, slices_IndexFunc_int_K0]
  unfold slices_ContainsFunc_int
  rw [key]
  cases h : List.findIdx? g l with
  | none =>
    simp at h
    have : l.any g = false := by simpa using h
    simp [this]
  | some j =>
    have : l.any g = true := by
      obtain ⟨h1, h2, _⟩ := List.findIdx?_eq_some_iff_getElem.1 h
      simp only [List.any_eq_true]
      exact ⟨_, List.getElem_mem h1, h2⟩
    simp [this]

/-- What play.isOrder asks of the seat i. -/
def goodSeat (p : ApiProgram) (order : List ApiSeat) (i : Nat) : Bool :=
  let s := order.getD i default
  wi s.Job 0 (p.Jobs.length - 1) && !((order.take i).any fun o => decide (o.Job = s.Job)) && wi s.Day 0 ((p.Days.length : Int) - 1) && wi s.Court 0 (courts p - 1) &&
    (decide (s.Day ≤ (jobAt p s.Job).Due) && ((jobAt p s.Job).After.all fun a => (order.take i).any fun o => decide (o.Job = a)) && (decide (i = 0) || decide ((order.getD (i - 1) default).Day ≤ s.Day)))

theorem mem_jobs {l : List ApiSeat} {j : Int} : decide (j ∈ l.map (·.Job)) = l.any fun o => decide (o.Job = j) := by
  rw [Bool.eq_iff_iff]
  simp

theorem play_isOrder_eq {p : ApiProgram} (hp : VP p) (order : List ApiSeat) (hl : order.length ≤ 1000000) : play_isOrder p order = some ((List.range order.length).all (goodSeat p order) && decide (order.length = p.Jobs.length)) := by
  have hnj := hp.nj
  have hnd := hp.nd
  have hnd0 := hp.nd0
  have hnc := hp.nc3
  have hnc0 := hp.nc0
  have e0 : p.Days.getD 0 [] = p.Days[0] := by simp [List.getD, hnd0]
  unfold play_isOrder
  have main := loop_all (fun k i => play_isOrder_L0 order order order.length p k i ((order.take i.toNat).map (·.Job))) order.length (goodSeat p order) (some false) (some (decide (order.length = p.Jobs.length))) ?_ ?_ BIG (BIG_lt (by omega))
  · simp only [Int.toNat_zero, List.take_zero, List.map_nil] at main
    rw [main]
    cases (List.range order.length).all (goodSeat p order) <;> rfl
  · intro k i hi
    have e1 : order.getD i default = order[i] := by simp [List.getD, hi]
    have hcc : (courts p : Int) = p.Days[0].length := by unfold courts; rw [e0]
    have hw : (p.Days[0].length : Int) - 1 ≤ 9223372036854775807 := by rw [← e0]; omega
    have hml : ((order.take i).map (·.Job)).length ≤ 9223372036854775807 := by simp; omega
    simp only [play_isOrder_L0, Int.toNat_natCast, idx_nat hi, Option.bind_some, w64_succ (show i < 9223372036854775807 by omega), Int.ofNat_lt, hi, decide_true, cond_true, play_within_eq,
      w64_ok (show -9223372036854775808 ≤ (p.Jobs.length : Int) - 1 by omega) (show (p.Jobs.length : Int) - 1 ≤ 9223372036854775807 by omega), w64_ok (show -9223372036854775808 ≤ (p.Days.length : Int) - 1 by omega) (show (p.Days.length : Int) - 1 ≤ 9223372036854775807 by omega),
      Contains_int_eq _ hml, or_some, show idx p.Days 0 = some p.Days[0] from idx_nat hnd0, w64_ok (show -9223372036854775808 ≤ (p.Days[0].length : Int) - 1 by omega) hw, mem_jobs]
    simp only [goodSeat, e1, hcc]
    cases hj : wi order[i].Job 0 (p.Jobs.length - 1) with
    | false => simp
    | true =>
      obtain ⟨j0, j1⟩ := wi_int hj
      have ej : idx p.Jobs order[i].Job = some (jobAt p order[i].Job) := by rw [idx_int j0 j1]; simp [jobAt, List.getD, j1]
      have hal : (jobAt p order[i].Job).After.length ≤ 9223372036854775807 := by
        have := (hp.small.2.2.2 _ (List.getElem_mem j1)).1
        simpa [jobAt, List.getD, j1] using this
      have hcf := ContainsFunc_int_eq (jobAt p order[i].Job).After hal (fun y15 => play_isOrder_1 y15 ((order.take i).map (·.Job))) (fun a => !((order.take i).any fun o => decide (o.Job = a)))
        (fun a _ => by simp only [play_isOrder_1, Contains_int_eq _ hml, Option.bind_some, mem_jobs])
      have hneg : ((jobAt p order[i].Job).After.any fun a => !((order.take i).any fun o => decide (o.Job = a))) = !((jobAt p order[i].Job).After.all fun a => (order.take i).any fun o => decide (o.Job = a)) := by
        rw [List.not_all_eq_any_not]
      simp only [ej, Option.bind_some, hcf, hneg, or_some]
      have happ : app 8 ((order.take i).map (·.Job)) [order[i].Job] = some ((order.take (i + 1)).map (·.Job)) := by
        rw [app_ok (by simp; omega), List.take_succ_eq_append_getElem hi, List.map_append]
        rfl
      have hdue : decide ((jobAt p order[i].Job).Due < order[i].Day) = !decide (order[i].Day ≤ (jobAt p order[i].Job).Due) := by
        by_cases h : order[i].Day ≤ (jobAt p order[i].Job).Due
        · simp [h]
        · simp [h]; omega
      rw [hdue]
      by_cases h0 : i = 0
      · subst h0
        have e3 : (decide ((0 : Int) < ((0 : Nat) : Int))) = false := rfl
        simp only [e3, cond_false, Option.bind_some, or_some, happ, decide_true, Bool.true_or, Bool.and_true, Bool.or_false]
        generalize ((order.take 0).any fun o => decide (o.Job = order[0].Job)) = b1
        generalize ((jobAt p order[0].Job).After.all fun a => (order.take 0).any fun o => decide (o.Job = a)) = b2
        generalize wi order[0].Day 0 (↑p.Days.length - 1) = b3
        generalize wi order[0].Court 0 (↑p.Days[0].length - 1) = b4
        generalize decide (order[0].Day ≤ (jobAt p order[0].Job).Due) = b5
        cases b1 <;> cases b2 <;> cases b3 <;> cases b4 <;> cases b5 <;> rfl
      · have h1 : i - 1 < order.length := by omega
        have e2 : order.getD (i - 1) default = order[i - 1] := by simp [List.getD, h1]
        have e3 : (decide ((0 : Int) < (i : Int))) = true := by simp; omega
        have hday : decide (order[i].Day < order[i - 1].Day) = !decide (order[i - 1].Day ≤ order[i].Day) := by
          by_cases h : order[i - 1].Day ≤ order[i].Day
          · simp [h]
          · simp [h]; omega
        simp only [w64_pred (show 0 < i by omega) (show i ≤ 9223372036854775807 by omega), idx_nat h1, e3, cond_true, Option.bind_some, or_some, e2, h0, decide_false, Bool.false_or, hday, happ]
        generalize ((order.take i).any fun o => decide (o.Job = order[i].Job)) = b1
        generalize ((jobAt p order[i].Job).After.all fun a => (order.take i).any fun o => decide (o.Job = a)) = b2
        generalize wi order[i].Day 0 (↑p.Days.length - 1) = b3
        generalize wi order[i].Court 0 (↑p.Days[0].length - 1) = b4
        generalize decide (order[i].Day ≤ (jobAt p order[i].Job).Due) = b5
        generalize decide (order[i - 1].Day ≤ order[i].Day) = b6
        cases b1 <;> cases b2 <;> cases b3 <;> cases b4 <;> cases b5 <;> cases b6 <;> rfl
  · intro k
    simp [play_isOrder_L0, play_isOrder_K0]
    omega

theorem isOrd_good {p : ApiProgram} (order : List ApiSeat) : (List.range order.length).all (goodSeat p order) = (List.range order.length).all (fun i => mayC p (order.take i) (order.getD i default)) := by
  rw [Bool.eq_iff_iff, range_all, range_all]
  constructor
  · intro h i hi
    have sorted : ∀ a b, a ≤ b → b < order.length → (order.getD a default).Day ≤ (order.getD b default).Day := by
      intro a b hab hb
      induction b with
      | zero => have : a = 0 := by omega
                subst this; exact Int.le_refl _
      | succ b ih =>
        by_cases hab' : a = b + 1
        · subst hab'; exact Int.le_refl _
        · have h1 := ih (by omega) (by omega)
          have h2 := h (b + 1) hb
          simp only [goodSeat, Bool.and_eq_true, Bool.or_eq_true, decide_eq_true_eq, Nat.add_sub_cancel] at h2
          omega
    have hg := h i hi
    simp only [goodSeat, mayC, Bool.and_eq_true] at hg ⊢
    obtain ⟨⟨⟨⟨h1, h2⟩, h3⟩, h4⟩, ⟨h5, h6⟩, h7⟩ := hg
    refine ⟨⟨⟨⟨⟨h1, h2⟩, ?_⟩, h4⟩, ?_⟩, h6⟩
    · simp [wi] at h3 h5 ⊢
      omega
    · rw [List.all_eq_true]
      intro o ho
      obtain ⟨a, ha, rfl⟩ := List.getElem_of_mem ho
      have hai : a < i := by simp at ha; omega
      have := sorted a i (by omega) hi
      have e : order.getD a default = (order.take i)[a] := by simp [List.getD, show a < order.length by omega]
      rw [e] at this
      simpa using this
  · intro h i hi
    have hg := h i hi
    simp only [goodSeat, mayC, Bool.and_eq_true] at hg ⊢
    obtain ⟨⟨⟨⟨⟨h1, h2⟩, h3⟩, h4⟩, h5⟩, h6⟩ := hg
    refine ⟨⟨⟨⟨h1, h2⟩, ?_⟩, h4⟩, ⟨?_, h6⟩, ?_⟩
    · simp [wi] at h3 ⊢
      omega
    · simp [wi] at h3 ⊢
      omega
    · by_cases h0 : i = 0
      · simp [h0]
      · have := List.all_eq_true.1 h5 (order[i - 1]'(by omega)) (by
          rw [List.mem_take_iff_getElem]
          exact ⟨i - 1, by omega, rfl⟩)
        have e : order.getD (i - 1) default = order[i - 1]'(by omega) := by simp [List.getD, show i - 1 < order.length by omega]
        rw [e]
        simp at this
        simp [this]

theorem play_isOrder_eq' {p : ApiProgram} (hp : VP p) (order : List ApiSeat) (hl : order.length ≤ 1000000) : play_isOrder p order = some (isOrd p order) := by
  rw [play_isOrder_eq hp order hl, isOrd_good]
  rfl
end Go.Am
