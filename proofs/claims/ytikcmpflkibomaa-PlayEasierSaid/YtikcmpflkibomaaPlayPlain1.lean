/- Layer 8, plain: when a program is valid. -/
import Derived.Test.YtikcmpflkibomaaPlaySh
import Derived.Test.YtikcmpflkibomaaAmPlain
namespace Go.Am

def wi (n lo hi : Int) : Bool := decide (lo ≤ n) && decide (n ≤ hi)
theorem play_within_eq (n lo hi : Int) : play_within n lo hi = some (wi n lo hi) := by simp [play_within, and_some, wi]
theorem ref_within_eq (n lo hi : Int) : deuceref08_within n lo hi = some (wi n lo hi) := by simp [deuceref08_within, and_some, wi]
theorem play_isSpan_eq (s : ApiSpan) (lo hi : Int) : play_isSpan s lo hi = some (decide (s.Low ≤ s.High) && wi s.Low lo hi && wi s.High lo hi) := by
  simp [play_isSpan, play_within_eq, and_some]
theorem play_isStage_eq (s : ApiSpan) (d : Int) : play_isStage s d = some (decide (s.Low ≤ s.High) && wi s.Low 1 600 && wi s.High 1 600 && wi d 0 2) := by
  simp [play_isStage, play_within_eq, play_isSpan_eq, and_some]
theorem ref_isLength_eq (s : ApiSpan) : deuceref08_isLength s = some (decide (1 ≤ s.Low) && decide (s.Low ≤ s.High) && decide (s.High ≤ 600)) := by
  simp [deuceref08_isLength, and_some]

def asc (l : List Int) (b : Int) (i : Nat) : Bool := wi (l.getD i 0) 0 (b - 1) && (decide (i = 0) || decide (l.getD (i - 1) 0 < l.getD i 0))

theorem play_areJobs_eq (l : List Int) (hl : l.length ≤ 9223372036854775807) (b : Int) (hb : 0 ≤ b) (hb2 : b ≤ 9223372036854775807) : play_areJobs l b = some ((List.range l.length).all (asc l b)) := by
  unfold play_areJobs
  rw [loop_all (fun k i => play_areJobs_L0 l b l l.length k i) l.length (asc l b) (some false) (some true) ?_ ?_ BIG (BIG_lt hl)]
  · cases (List.range l.length).all (asc l b) <;> rfl
  · intro k i hi
    simp only [play_areJobs_L0, idx_nat hi, Option.bind_some, play_within_eq, w64_succ (show i < 9223372036854775807 by omega), w64_ok (show -9223372036854775808 ≤ b - 1 by omega) (show b - 1 ≤ 9223372036854775807 by omega), Int.ofNat_lt, hi, decide_true, cond_true]
    have e1 : l.getD i 0 = l[i] := by simp [List.getD, hi]
    by_cases h0 : i = 0
    · subst h0
      simp [asc, List.getD, hi]
      cases wi l[0] 0 (b - 1) <;> simp
    · have h1 : i - 1 < l.length := by omega
      have e2 : l.getD (i - 1) 0 = l[i - 1] := by simp [List.getD, h1]
      have e3 : (decide ((0 : Int) < (i : Int))) = true := by simp; omega
      simp only [w64_pred (show 0 < i by omega) (show i ≤ 9223372036854775807 by omega), idx_nat h1, e3, cond_true, Option.bind_some, or_some, asc, e1, e2, h0, decide_false, Bool.false_or]
      cases wi l[i] 0 (b - 1) <;> simp
      by_cases h : l[i - 1] < l[i]
      · simp [h, show ¬ l[i] ≤ l[i - 1] by omega]
      · simp [h, show l[i] ≤ l[i - 1] by omega]
  · intro k
    simp [play_areJobs_L0, play_areJobs_K0]

theorem Contains_int_eq (l : List Int) (hl : l.length ≤ 9223372036854775807) (v : Int) : slices_Contains_int l v = some (decide (v ∈ l)) := by
  have key : slices_Index_int l v = some (match l.findIdx? (fun x => decide (v = x)) with | some i => (i : Int) | none => -1) := by
    unfold slices_Index_int
    rw [loop_st (S := Unit) (fun k i _ => slices_Index_int_L0 l v l.length k i) l.length (fun i _ => some (match (l.drop i).findIdx? (fun x => decide (v = x)) with | some j => ((i + j : Nat) : Int) | none => -1)) (fun _ _ => True) ?_ ?_ BIG () (BIG_lt hl) trivial]
    · simp
    · intro k i _ hi _ ih
      have := ih () trivial
      simp only [slices_Index_int_L0, idx_nat hi, Option.bind_some, w64_succ (show i < 9223372036854775807 by omega), Int.ofNat_lt, hi, decide_true, cond_true, this]
      rw [List.drop_eq_getElem_cons hi, List.findIdx?_cons]
      by_cases h : v = l[i]
      · simp [h]
      · simp only [h, decide_false, cond_false, Bool.false_eq_true, if_false]
        cases List.findIdx? (fun x => decide (v = x)) (List.drop (i + 1) l) with
        | none => rfl
        | some j => simp; omega
    · intro k _ _
      simp [slices_Index_int_L0, slices_Index_int_K0]
  unfold slices_Contains_int
  rw [key]
  cases h : List.findIdx? (fun x => decide (v = x)) l with
  | none =>
    simp at h
    have : v ∉ l := fun hm => h v hm rfl
    simp [this]
  | some j =>
    have : v ∈ l := by
      obtain ⟨h1, h2, _⟩ := List.findIdx?_eq_some_iff_getElem.1 h
      simp at h2
      rw [h2]; exact List.getElem_mem h1
    simp [this]

theorem ContainsFunc_span_eq (l : List ApiSpan) (hl : l.length ≤ 9223372036854775807) (f : ApiSpan → Option Bool) (g : ApiSpan → Bool) (hf : ∀ x ∈ l, f x = some (g x)) : slices_ContainsFunc_api_Span l f = some (l.any g) := by
  have key : slices_IndexFunc_api_Span l f = some (match l.findIdx? g with | some i => (i : Int) | none => -1) := by
    unfold slices_IndexFunc_api_Span
    rw [loop_st (S := Unit) (fun k i _ => slices_IndexFunc_api_Span_L0 l f l.length k i) l.length (fun i _ => some (match (l.drop i).findIdx? g with | some j => ((i + j : Nat) : Int) | none => -1)) (fun _ _ => True) ?_ ?_ BIG () (BIG_lt hl) trivial]
    · simp
    · intro k i _ hi _ ih
      have := ih () trivial
      simp only [slices_IndexFunc_api_Span_L0, idx_nat hi, Option.bind_some, w64_succ (show i < 9223372036854775807 by omega), Int.ofNat_lt, hi, decide_true, cond_true, this, hf _ (List.getElem_mem hi)]
      rw [List.drop_eq_getElem_cons hi, List.findIdx?_cons]
      cases h : g l[i] with
      | true => simp
      | false =>
        simp only [cond_false, Bool.false_eq_true, if_false]
        cases List.findIdx? g (List.drop (i + 1) l) with
        | none => rfl
        | some j => simp; omega
    · intro k _ _
      simp [slices_IndexFunc_api_Span_L0, slices_IndexFunc_api_Span_K0]
  unfold slices_ContainsFunc_api_Span
  rw [key]
  cases h : List.findIdx? g l with
  | none =>
    simp at h
    have : l.any g = false := by simpa using h
    simp [this]
  | some j =>
    have : l.any g = true := by
      obtain ⟨h1, h2, _⟩ := List.findIdx?_eq_some_iff_getElem.1 h
      simp only [List.any_eq_true]
      exact ⟨_, List.getElem_mem h1, h2⟩
    simp [this]

/-- What makes a job valid. -/
def goodJob (j : ApiJob) (number many : Nat) : Bool :=
  decide (1 ≤ j.Length.Low) && decide (j.Length.Low ≤ j.Length.High) && decide (j.Length.High ≤ 600) && wi j.Due 0 2 && wi j.Earliest 0 1440 &&
    (List.range j.After.length).all (asc j.After number) && ((List.range j.With.length).all (asc j.With many) && !decide ((number : Int) ∈ j.With))
def spanOK (s : ApiSpan) : Bool := decide (s.Low ≤ s.High) && wi s.Low 0 1440 && wi s.High 0 1440
def goodDay (p : ApiProgram) (d : Nat) : Bool := wi ((p.Days.getD d []).length) 1 3 && decide ((p.Days.getD d []).length = (p.Days.getD 0 []).length) && (p.Days.getD d []).all spanOK
def valid (p : ApiProgram) : Bool :=
  wi p.Days.length 1 3 && wi p.Rest 0 600 && decide (p.Jobs.length ≤ 6) && (List.range p.Days.length).all (goodDay p) &&
    (List.range p.Jobs.length).all fun i => goodJob (p.Jobs.getD i default) i p.Jobs.length

def smallP (p : ApiProgram) : Prop := p.Days.length ≤ 9223372036854775807 ∧ (∀ d ∈ p.Days, d.length ≤ 9223372036854775807) ∧ p.Jobs.length ≤ 9223372036854775807 ∧ ∀ j ∈ p.Jobs, j.After.length ≤ 9223372036854775807 ∧ j.With.length ≤ 9223372036854775807
theorem small_of {p : ApiProgram} (h : okApiProgram p) : smallP p := by
  obtain ⟨⟨h1, h2⟩, _, ⟨h3, h4⟩⟩ := h
  refine ⟨h1, fun d hd => (h2 d hd).1, h3, fun j hj => ⟨(h4 j hj).2.1.1, (h4 j hj).2.2.1.1⟩⟩

theorem play_Check_eq (p : ApiProgram) (hs : smallP p) : play_Check p = some (bif valid p then 0 else 80) := by
  obtain ⟨h1, h2, h3, h4⟩ := hs
  have jobs : play_Check_K0 p = some (bif (List.range p.Jobs.length).all (fun i => goodJob (p.Jobs.getD i default) i p.Jobs.length) then 0 else 80) := by
    unfold play_Check_K0
    rw [loop_all (fun k i => play_Check_L2 p.Jobs p.Jobs.length p k i) p.Jobs.length (fun i => goodJob (p.Jobs.getD i default) i p.Jobs.length) (some 80) (some 0) ?_ ?_ BIG (BIG_lt h3)]
    · cases (List.range p.Jobs.length).all (fun i => goodJob (p.Jobs.getD i default) i p.Jobs.length) <;> rfl
    · intro k i hi
      obtain ⟨ha, hw⟩ := h4 _ (List.getElem_mem hi)
      simp only [play_Check_L2, idx_nat hi, Option.bind_some, w64_succ (show i < 9223372036854775807 by omega), Int.ofNat_lt, hi, decide_true, cond_true, play_isStage_eq, play_within_eq, or_some,
        play_areJobs_eq _ ha (i : Int) (by omega) (by omega), play_areJobs_eq _ hw (p.Jobs.length : Int) (by omega) (by omega), Contains_int_eq _ hw]
      have e1 : p.Jobs.getD i default = p.Jobs[i] := by simp [List.getD, hi]
      rw [e1]
      generalize p.Jobs[i] = j
      have : goodJob j i p.Jobs.length = !(((((!(decide (j.Length.Low ≤ j.Length.High) && wi j.Length.Low 1 600 && wi j.Length.High 1 600 && wi j.Due 0 2)) || !wi j.Earliest 0 1440) || !(List.range j.After.length).all (asc j.After ↑i)) || !(List.range j.With.length).all (asc j.With ↑p.Jobs.length)) || decide ((i : Int) ∈ j.With)) := by
        unfold goodJob
        generalize (List.range j.After.length).all (asc j.After ↑i) = b1
        generalize (List.range j.With.length).all (asc j.With ↑p.Jobs.length) = b2
        generalize decide ((i : Int) ∈ j.With) = b3
        generalize wi j.Due 0 2 = b4
        generalize wi j.Earliest 0 1440 = b5
        have : (decide (1 ≤ j.Length.Low) && decide (j.Length.Low ≤ j.Length.High) && decide (j.Length.High ≤ 600)) = (decide (j.Length.Low ≤ j.Length.High) && wi j.Length.Low 1 600 && wi j.Length.High 1 600) := by
          rw [Bool.eq_iff_iff]
          simp [wi]
          omega
        rw [this]
        generalize (decide (j.Length.Low ≤ j.Length.High) && wi j.Length.Low 1 600 && wi j.Length.High 1 600) = b6
        cases b1 <;> cases b2 <;> cases b3 <;> cases b4 <;> cases b5 <;> cases b6 <;> rfl
      rw [this]
      generalize (((((!(decide (j.Length.Low ≤ j.Length.High) && wi j.Length.Low 1 600 && wi j.Length.High 1 600 && wi j.Due 0 2)) || !wi j.Earliest 0 1440) || !(List.range j.After.length).all (asc j.After ↑i)) || !(List.range j.With.length).all (asc j.With ↑p.Jobs.length)) || decide ((i : Int) ∈ j.With)) = b
      cases b <;> rfl
    · intro k
      simp [play_Check_L2, play_Check_K2]
  have days : wi p.Days.length 1 3 = true → play_Check_L0 p.Days p.Days.length p BIG 0 = some (bif (List.range p.Days.length).all (goodDay p) && (List.range p.Jobs.length).all (fun i => goodJob (p.Jobs.getD i default) i p.Jobs.length) then 0 else 80) := by
    intro hd
    have hd0 : 0 < p.Days.length := by simp [wi] at hd; omega
    rw [loop_all (fun k i => play_Check_L0 p.Days p.Days.length p k i) p.Days.length (goodDay p) (some 80) (play_Check_K0 p) ?_ ?_ BIG (BIG_lt h1)]
    · rw [jobs]
      cases (List.range p.Days.length).all (goodDay p) <;> rfl
    · intro k i hi
      have hdl := h2 _ (List.getElem_mem hi)
      simp only [play_Check_L0, idx_nat hi, Option.bind_some, w64_succ (show i < 9223372036854775807 by omega), Int.ofNat_lt, hi, decide_true, cond_true, play_within_eq, or_some, show idx p.Days 0 = some p.Days[0] from idx_nat hd0,
        ContainsFunc_span_eq _ hdl (fun y => play_Check_1 y) (fun s => !spanOK s) (fun s _ => by simp [play_Check_1, play_isSpan_eq, spanOK])]
      have e1 : p.Days.getD i [] = p.Days[i] := by simp [List.getD, hi]
      have e2 : p.Days.getD 0 [] = p.Days[0] := by simp [List.getD, hd0]
      have e3 : (p.Days[i].any fun s => !spanOK s) = !p.Days[i].all spanOK := by simp [List.not_all_eq_any_not]
      simp only [goodDay, e1, e2, e3]
      have e4 : (decide ((p.Days[i].length : Int) = (p.Days[0].length : Int))) = decide (p.Days[i].length = p.Days[0].length) := by simp; omega
      rw [e4]
      cases wi p.Days[i].length 1 3 <;> cases decide (p.Days[i].length = p.Days[0].length) <;> cases p.Days[i].all spanOK <;> rfl
    · intro k
      simp [play_Check_L0]
  unfold play_Check
  simp only [play_within_eq, or_some, Option.bind_some]
  have e5 : decide (6 < (p.Jobs.length : Int)) = !decide (p.Jobs.length ≤ 6) := by
    by_cases h : p.Jobs.length ≤ 6
    · simp [h]; omega
    · simp [h]; omega
  rw [e5]
  unfold valid
  cases hd : wi p.Days.length 1 3 with
  | false => simp
  | true =>
    rw [days hd]
    cases wi p.Rest 0 600 <;> cases decide (p.Jobs.length ≤ 6) <;> simp

theorem ref_isJob_eq (j : ApiJob) (ha : j.After.length ≤ 9223372036854775807) (hw : j.With.length ≤ 9223372036854775807) (n m : Nat) (hn : n ≤ 9223372036854775807) (hm : m ≤ 9223372036854775807) :
    deuceref08_isJob j n m = some (goodJob j n m) := by
  have with' : deuceref08_isJob_K0 n m j = some ((List.range j.With.length).all (asc j.With m) && !decide ((n : Int) ∈ j.With)) := by
    unfold deuceref08_isJob_K0
    rw [loop_all (fun k i => deuceref08_isJob_L2 n m j k i) j.With.length (fun i => asc j.With m i && !decide (j.With.getD i 0 = n)) (some false) (some true) ?_ ?_ BIG (BIG_lt hw)]
    · have : (List.range j.With.length).all (fun i => asc j.With m i && !decide (j.With.getD i 0 = n)) = ((List.range j.With.length).all (asc j.With m) && !decide ((n : Int) ∈ j.With)) := by
        rw [Bool.eq_iff_iff]
        simp only [Bool.and_eq_true, range_all, Bool.not_eq_true', decide_eq_false_iff_not]
        constructor
        · intro h
          refine ⟨fun i hi => (h i hi).1, fun hmem => ?_⟩
          obtain ⟨i, hi, e⟩ := List.getElem_of_mem hmem
          exact (h i hi).2 (by simp [List.getD, hi, e])
        · intro h i hi
          refine ⟨h.1 i hi, fun e => h.2 ?_⟩
          rw [← e]
          simp [List.getD, hi]
      rw [this]
      cases ((List.range j.With.length).all (asc j.With m) && !decide ((n : Int) ∈ j.With)) <;> rfl
    · intro k i hi
      simp only [deuceref08_isJob_L2, idx_nat hi, Option.bind_some, ref_within_eq, w64_succ (show i < 9223372036854775807 by omega), w64_ok (show -9223372036854775808 ≤ (m : Int) - 1 by omega) (show (m : Int) - 1 ≤ 9223372036854775807 by omega), Int.ofNat_lt, hi, decide_true, cond_true, or_some]
      have e1 : j.With.getD i 0 = j.With[i] := by simp [List.getD, hi]
      rw [e1]
      by_cases h0 : i = 0
      · subst h0
        simp [asc, List.getD, hi]
        cases wi j.With[0] 0 (m - 1) <;> by_cases h : j.With[0] = (n : Int) <;> simp [h]
      · have h1 : i - 1 < j.With.length := by omega
        have e2 : j.With.getD (i - 1) 0 = j.With[i - 1] := by simp [List.getD, h1]
        have e3 : (decide ((0 : Int) < (i : Int))) = true := by simp; omega
        simp only [w64_pred (show 0 < i by omega) (show i ≤ 9223372036854775807 by omega), idx_nat h1, e3, cond_true, Option.bind_some, or_some, asc, e1, e2, h0, decide_false, Bool.false_or]
        by_cases hlt : j.With[i - 1] < j.With[i]
        · simp only [hlt, show ¬ j.With[i] ≤ j.With[i - 1] by omega]
          cases wi j.With[i] 0 (m - 1) <;> by_cases h : j.With[i] = (n : Int) <;> simp [h]
        · simp only [hlt, show j.With[i] ≤ j.With[i - 1] by omega]
          cases wi j.With[i] 0 (m - 1) <;> by_cases h : j.With[i] = (n : Int) <;> simp [h]
    · intro k
      simp [deuceref08_isJob_L2, deuceref08_isJob_K2]
  have after : deuceref08_isJob_L0 n m j BIG 0 = some ((List.range j.After.length).all (asc j.After n) && ((List.range j.With.length).all (asc j.With m) && !decide ((n : Int) ∈ j.With))) := by
    rw [loop_all (fun k i => deuceref08_isJob_L0 n m j k i) j.After.length (asc j.After n) (some false) (deuceref08_isJob_K0 n m j) ?_ ?_ BIG (BIG_lt ha)]
    · rw [with']
      cases (List.range j.After.length).all (asc j.After n) <;> rfl
    · intro k i hi
      simp only [deuceref08_isJob_L0, idx_nat hi, Option.bind_some, ref_within_eq, w64_succ (show i < 9223372036854775807 by omega), w64_ok (show -9223372036854775808 ≤ (n : Int) - 1 by omega) (show (n : Int) - 1 ≤ 9223372036854775807 by omega), Int.ofNat_lt, hi, decide_true, cond_true, or_some]
      have e1 : j.After.getD i 0 = j.After[i] := by simp [List.getD, hi]
      by_cases h0 : i = 0
      · subst h0
        simp [asc, List.getD, hi]
        cases wi j.After[0] 0 (n - 1) <;> simp
      · have h1 : i - 1 < j.After.length := by omega
        have e2 : j.After.getD (i - 1) 0 = j.After[i - 1] := by simp [List.getD, h1]
        have e3 : (decide ((0 : Int) < (i : Int))) = true := by simp; omega
        simp only [w64_pred (show 0 < i by omega) (show i ≤ 9223372036854775807 by omega), idx_nat h1, e3, cond_true, Option.bind_some, or_some, asc, e1, e2, h0, decide_false, Bool.false_or]
        by_cases hlt : j.After[i - 1] < j.After[i]
        · simp only [hlt, show ¬ j.After[i] ≤ j.After[i - 1] by omega]
          cases wi j.After[i] 0 (n - 1) <;> simp
        · simp only [hlt, show j.After[i] ≤ j.After[i - 1] by omega]
          cases wi j.After[i] 0 (n - 1) <;> simp
    · intro k
      simp [deuceref08_isJob_L0]
  unfold deuceref08_isJob
  simp only [ref_isLength_eq, ref_within_eq, or_some, Option.bind_some, after]
  unfold goodJob
  generalize (List.range j.After.length).all (asc j.After n) = b1
  generalize ((List.range j.With.length).all (asc j.With m) && !decide ((n : Int) ∈ j.With)) = b2
  generalize (decide (1 ≤ j.Length.Low) && decide (j.Length.Low ≤ j.Length.High) && decide (j.Length.High ≤ 600)) = b3
  cases b3 <;> cases wi j.Due 0 2 <;> cases wi j.Earliest 0 1440 <;> cases b1 <;> cases b2 <;> rfl

theorem ref_Check_eq (p : ApiProgram) (hs : smallP p) : deuceref08_Check p = some (bif valid p then 0 else 80) := by
  obtain ⟨h1, h2, h3, h4⟩ := hs
  have jobs : deuceref08_Check_K0 p = some (bif (List.range p.Jobs.length).all (fun i => goodJob (p.Jobs.getD i default) i p.Jobs.length) then 0 else 80) := by
    unfold deuceref08_Check_K0
    rw [loop_all (fun k i => deuceref08_Check_L4 p k i) p.Jobs.length (fun i => goodJob (p.Jobs.getD i default) i p.Jobs.length) (some 80) (some 0) ?_ ?_ BIG (BIG_lt h3)]
    · cases (List.range p.Jobs.length).all (fun i => goodJob (p.Jobs.getD i default) i p.Jobs.length) <;> rfl
    · intro k i hi
      obtain ⟨ha, hw⟩ := h4 _ (List.getElem_mem hi)
      have e1 : p.Jobs.getD i default = p.Jobs[i] := by simp [List.getD, hi]
      simp only [deuceref08_Check_L4, idx_nat hi, Option.bind_some, w64_succ (show i < 9223372036854775807 by omega), Int.ofNat_lt, hi, decide_true, cond_true, ref_isJob_eq _ ha hw i p.Jobs.length (by omega) (by omega), e1]
      cases goodJob p.Jobs[i] i p.Jobs.length <;> rfl
    · intro k
      simp [deuceref08_Check_L4, deuceref08_Check_K4]
  have days : wi p.Days.length 1 3 = true → wi (p.Days.getD 0 []).length 1 3 = true → deuceref08_Check_L0 p BIG 0 = some (bif (List.range p.Days.length).all (goodDay p) && (List.range p.Jobs.length).all (fun i => goodJob (p.Jobs.getD i default) i p.Jobs.length) then 0 else 80) := by
    intro hd hd1
    have hd0 : 0 < p.Days.length := by simp [wi] at hd; omega
    rw [loop_all (fun k i => deuceref08_Check_L0 p k i) p.Days.length (goodDay p) (some 80) (deuceref08_Check_K0 p) ?_ ?_ BIG (BIG_lt h1)]
    · rw [jobs]
      cases (List.range p.Days.length).all (goodDay p) <;> rfl
    · intro k i hi
      have hdl := h2 _ (List.getElem_mem hi)
      have e1 : p.Days.getD i [] = p.Days[i] := by simp [List.getD, hi]
      have e2 : p.Days.getD 0 [] = p.Days[0] := by simp [List.getD, hd0]
      have inner : deuceref08_Check_L2 (deuceref08_Check_L0 p k) (i : Int) p BIG 0 = bif p.Days[i].all spanOK then deuceref08_Check_L0 p k ((i + 1 : Nat) : Int) else some 80 := by
        rw [loop_all (fun k2 c => deuceref08_Check_L2 (deuceref08_Check_L0 p k) (i : Int) p k2 c) p.Days[i].length (fun c => spanOK (p.Days[i].getD c default)) (some 80) (deuceref08_Check_L0 p k ((i + 1 : Nat) : Int)) ?_ ?_ BIG (BIG_lt hdl)]
        · have : (List.range p.Days[i].length).all (fun c => spanOK (p.Days[i].getD c default)) = p.Days[i].all spanOK := by
            rw [Bool.eq_iff_iff, range_all, List.all_eq_true]
            constructor
            · intro h x hx
              obtain ⟨c, hc, e⟩ := List.getElem_of_mem hx
              have := h c hc
              simpa [List.getD, hc, e] using this
            · intro h c hc
              simpa [List.getD, hc] using h _ (List.getElem_mem hc)
          rw [this]
        · intro k2 c hc
          simp only [deuceref08_Check_L2, idx_nat hi, Option.bind_some, idx_nat hc, w64_succ (show c < 9223372036854775807 by omega), Int.ofNat_lt, hc, decide_true, cond_true, or_some]
          have e4 : p.Days[i].getD c default = p.Days[i][c] := by simp [List.getD, hc]
          rw [e4]
          generalize p.Days[i][c] = s
          have : spanOK s = !(decide (s.Low < 0) || decide (s.High < s.Low) || decide (1440 < s.High)) := by
            rw [Bool.eq_iff_iff]
            simp [spanOK, wi]
            omega
          rw [this]
          cases (decide (s.Low < 0) || decide (s.High < s.Low) || decide (1440 < s.High)) <;> rfl
        · intro k2
          simp [deuceref08_Check_L2, idx_nat hi, deuceref08_Check_K2, deuceref08_Check_K1, w64_succ (show i < 9223372036854775807 by omega)]
      simp only [deuceref08_Check_L0, idx_nat hi, Option.bind_some, Int.ofNat_lt, hi, decide_true, cond_true, show idx p.Days 0 = some p.Days[0] from idx_nat hd0, inner]
      have e4 : (decide ((p.Days[i].length : Int) = (p.Days[0].length : Int))) = decide (p.Days[i].length = p.Days[0].length) := by simp; omega
      rw [e4]
      simp only [goodDay, e1, e2]
      by_cases hl : p.Days[i].length = p.Days[0].length
      · rw [e2] at hd1
        simp only [hl, hd1, decide_true]
        cases p.Days[i].all spanOK <;> rfl
      · simp [hl]
    · intro k
      simp [deuceref08_Check_L0]
  unfold deuceref08_Check
  simp only [ref_within_eq, Option.bind_some]
  have e5 : decide (6 < (p.Jobs.length : Int)) = !decide (p.Jobs.length ≤ 6) := by
    by_cases h : p.Jobs.length ≤ 6
    · simp [h]; omega
    · simp [h]; omega
  rw [e5]
  cases hd : wi p.Days.length 1 3 with
  | false => simp [valid, hd]
  | true =>
    have hd0 : 0 < p.Days.length := by simp [wi] at hd; omega
    have e2 : p.Days.getD 0 [] = p.Days[0] := by simp [List.getD, hd0]
    simp only [show idx p.Days 0 = some p.Days[0] from idx_nat hd0, Option.bind_some, or_some, Bool.not_true, cond_false]
    unfold valid
    rw [hd]
    cases hd1 : wi p.Days[0].length 1 3 with
    | false =>
      have : (List.range p.Days.length).all (goodDay p) = false := by
        rw [Bool.eq_false_iff]
        intro h
        have := range_all.1 h 0 hd0
        unfold goodDay at this
        rw [e2, hd1] at this
        simp at this
      simp [this]
    | true =>
      rw [days hd (by rw [e2]; exact hd1)]
      cases wi p.Rest 0 600 <;> cases decide (p.Jobs.length ≤ 6) <;> simp

/-- What a valid program is. -/
structure VP (p : ApiProgram) : Prop where
  nd0 : 0 < p.Days.length
  nd : p.Days.length ≤ 3
  nc : ∀ d (h : d < p.Days.length), (p.Days[d]).length = (p.Days.getD 0 []).length
  nc0 : 0 < (p.Days.getD 0 []).length
  nc3 : (p.Days.getD 0 []).length ≤ 3
  span : ∀ d ∈ p.Days, ∀ s ∈ d, 0 ≤ s.Low ∧ s.Low ≤ s.High ∧ s.High ≤ 1440
  rest : 0 ≤ p.Rest ∧ p.Rest ≤ 600
  nj : p.Jobs.length ≤ 6
  job : ∀ i (h : i < p.Jobs.length), goodJob p.Jobs[i] i p.Jobs.length = true

theorem VP_of {p : ApiProgram} (h : valid p = true) : VP p := by
  simp only [valid, Bool.and_eq_true, range_all, decide_eq_true_eq] at h
  obtain ⟨⟨⟨⟨h1, h2⟩, h3⟩, h4⟩, h5⟩ := h
  simp only [wi, Bool.and_eq_true, decide_eq_true_eq] at h1 h2
  have hd0 : 0 < p.Days.length := by omega
  have hg : ∀ d (h : d < p.Days.length), goodDay p d = true := h4
  have hday : ∀ d (h : d < p.Days.length), (1 ≤ p.Days[d].length ∧ p.Days[d].length ≤ 3) ∧ p.Days[d].length = (p.Days.getD 0 []).length ∧ ∀ s ∈ p.Days[d], spanOK s = true := by
    intro d hd
    have := hg d hd
    simp only [goodDay, Bool.and_eq_true, decide_eq_true_eq, wi, List.all_eq_true, show p.Days.getD d [] = p.Days[d] by simp [List.getD, hd]] at this
    exact ⟨by omega, this.1.2, this.2⟩
  have h0 := hday 0 hd0
  have e0 : p.Days.getD 0 [] = p.Days[0] := by simp [List.getD, hd0]
  refine ⟨hd0, by omega, fun d hd => (hday d hd).2.1, by rw [e0]; omega, by rw [e0]; omega, fun d hd s hs => ?_, h2, h3, fun i hi => ?_⟩
  · obtain ⟨i, hi, rfl⟩ := List.getElem_of_mem hd
    have := (hday i hi).2.2 s hs
    simp [spanOK, wi] at this
    omega
  · have := h5 i hi
    simpa [List.getD, hi] using this

structure VJ (j : ApiJob) (n m : Nat) : Prop where
  low : 1 ≤ j.Length.Low
  le : j.Length.Low ≤ j.Length.High
  high : j.Length.High ≤ 600
  due0 : 0 ≤ j.Due
  due : j.Due ≤ 2
  early0 : 0 ≤ j.Earliest
  early : j.Earliest ≤ 1440
  after : ∀ x ∈ j.After, 0 ≤ x ∧ x < n
  withh : ∀ x ∈ j.With, 0 ≤ x ∧ x < m ∧ x ≠ n
  alen : j.After.length ≤ n
  wlen : j.With.length ≤ m

theorem asc_len {l : List Int} {b : Nat} (h : ∀ i, i < l.length → asc l b i = true) : l.length ≤ b ∧ ∀ x ∈ l, 0 ≤ x ∧ x < b := by
  have key : ∀ i (hi : i < l.length), (i : Int) ≤ l[i] ∧ l[i] < b := by
    intro i
    induction i with
    | zero =>
      intro hi
      have := h 0 hi
      simp [asc, wi, List.getD, hi] at this
      omega
    | succ i ih =>
      intro hi
      have h1 := ih (by omega)
      have := h (i + 1) hi
      have hi' : i < l.length := by omega
      simp [asc, wi, List.getD, hi, hi'] at this
      omega
  refine ⟨?_, fun x hx => ?_⟩
  · by_cases h0 : l.length = 0
    · omega
    · have := key (l.length - 1) (by omega)
      omega
  · obtain ⟨i, hi, rfl⟩ := List.getElem_of_mem hx
    have := key i hi
    omega

theorem VJ_of {j : ApiJob} {n m : Nat} (h : goodJob j n m = true) : VJ j n m := by
  simp only [goodJob, Bool.and_eq_true, range_all, decide_eq_true_eq, wi, Bool.not_eq_true', decide_eq_false_iff_not] at h
  obtain ⟨⟨⟨⟨⟨⟨h1, h2⟩, h3⟩, h4⟩, h5⟩, h6⟩, h7, h8⟩ := h
  obtain ⟨a1, a2⟩ := asc_len h6
  obtain ⟨b1, b2⟩ := asc_len h7
  exact ⟨h1, h2, h3, h4.1, h4.2, h5.1, h5.2, a2, fun x hx => ⟨(b2 x hx).1, (b2 x hx).2, fun e => h8 (e ▸ hx)⟩, a1, b1⟩
theorem VP.vj {p : ApiProgram} (h : VP p) {i : Nat} (hi : i < p.Jobs.length) : VJ p.Jobs[i] i p.Jobs.length := VJ_of (h.job i hi)
theorem VP.small {p : ApiProgram} (h : VP p) : smallP p := by
  have := h.nd
  have := h.nj
  have := h.nc3
  refine ⟨by omega, fun d hd => ?_, by omega, fun j hj => ?_⟩
  · obtain ⟨i, hi, rfl⟩ := List.getElem_of_mem hd
    have := h.nc i hi
    omega
  · obtain ⟨i, hi, rfl⟩ := List.getElem_of_mem hj
    have := (h.vj hi).alen
    have := (h.vj hi).wlen
    omega
end Go.Am
