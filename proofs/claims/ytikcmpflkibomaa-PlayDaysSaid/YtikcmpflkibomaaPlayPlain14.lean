/- Layer 8, plain: the program of the jobs that are due by a day. -/
import Derived.Test.YtikcmpflkibomaaPlayPlain13
namespace Go.Am

def markL (l : List Int) (s : List Bool) : List Bool := l.foldl (fun s a => s.set a.toNat true) s
theorem markL_len (l : List Int) : ∀ s, (markL l s).length = s.length := by
  unfold markL
  induction l with
  | nil => intro s; rfl
  | cons a l ih => intro s; rw [List.foldl_cons, ih]; simp
def markS (p : ApiProgram) (day : Int) (i : Nat) (s : List Bool) : List Bool := bif decide ((jobAt p i).Due ≤ day) then s.set i true else s
def markStep (p : ApiProgram) (day : Int) (i : Nat) (s : List Bool) : List Bool := bif (markS p day i s).getD i false then markL (jobAt p i).After (markS p day i s) else markS p day i s
theorem markS_len (p : ApiProgram) (day : Int) (i : Nat) (s : List Bool) : (markS p day i s).length = s.length := by
  unfold markS
  cases decide ((jobAt p i).Due ≤ day) <;> simp
theorem markStep_len (p : ApiProgram) (day : Int) (i : Nat) (s : List Bool) : (markStep p day i s).length = s.length := by
  unfold markStep
  cases (markS p day i s).getD i false <;> simp [markL_len, markS_len]
def marks (p : ApiProgram) (day : Int) : Nat → List Bool → List Bool
  | 0, s => s
  | i + 1, s => marks p day i (markStep p day i s)
theorem marks_len (p : ApiProgram) (day : Int) : ∀ n s, (marks p day n s).length = s.length
  | 0, s => rfl
  | n + 1, s => by rw [marks, marks_len p day n, markStep_len]
def needB (p : ApiProgram) (day : Int) : List Bool := marks p day p.Jobs.length (List.replicate p.Jobs.length false)
theorem needB_len (p : ApiProgram) (day : Int) : (needB p day).length = p.Jobs.length := by simp [needB, marks_len]
def ints (s : List Bool) : List Int := s.map fun b => bif b then 1 else 0
theorem ints_set (s : List Bool) (i : Nat) : (ints s).set i 1 = ints (s.set i true) := by simp [ints, List.map_set]
theorem ints_idx {s : List Bool} {i : Nat} (h : i < s.length) : idx (ints s) (i : Int) = some (bif s.getD i false then 1 else 0) := by
  rw [idx_nat (show i < (ints s).length by simpa [ints] using h)]
  rw [getD_get h]
  simp [ints]
theorem one_iff (b : Bool) : decide ((bif b then (1 : Int) else 0) = 1) = b := by cases b <;> rfl

variable {p : ApiProgram} (hp : VP p)
include hp

/-- The reference marks. -/
theorem ref_inner {i : Nat} (hi : i < p.Jobs.length) (day : Int) (again0 : Int → List Bool → Option (List Int)) (s : List Bool) (hs : s.length = p.Jobs.length) :
    deuceref08_needed_L2 again0 day i p BIG 0 s = again0 ((i : Int) - 1) (bif s.getD i false then markL (jobAt p i).After s else s) := by
  have hnj := hp.nj
  have hij : isJ p i := ⟨by omega, by simpa using hi⟩
  have vj := hij.vj hp
  have hal := (hij.small hp).1
  have hw : w64 ((i : Int) - 1) = (i : Int) - 1 := w64_ok (by omega) (by omega)
  cases hb : s.getD i false with
  | false =>
    rw [BIG_succ, deuceref08_needed_L2]
    rw [getD_get (by omega)] at hb
    simp only [hij.idx, Option.bind_some, show idx s (i : Int) = some s[i] from idx_nat (by omega), hb]
    cases decide ((0 : Int) < ((jobAt p i).After.length : Int)) <;> simp [deuceref08_needed_K2, deuceref08_needed_K1, hw]
  | true =>
    simp only [cond_true]
    rw [loop_st (fun k j s => deuceref08_needed_L2 again0 day i p k j s) (jobAt p i).After.length (fun j s => again0 ((i : Int) - 1) (markL ((jobAt p i).After.drop j) s)) (fun _ s => s.length = p.Jobs.length ∧ s.getD i false = true) ?_ ?_ BIG s (BIG_lt hal) ⟨hs, hb⟩]
    · simp
    · rintro k j s hj ⟨hs, hb⟩ ih
      have ha := vj.after _ (List.getElem_mem hj)
      have hix : idx s (jobAt p i).After[j] = some (s[((jobAt p i).After[j]).toNat]'(by omega)) := idx_int ha.1 (by omega)
      have hlt : decide ((j : Int) < ((jobAt p i).After.length : Int)) = true := decide_eq_true (by omega)
      have hb' := hb
      rw [getD_get (by omega)] at hb
      simp only [deuceref08_needed_L2, hij.idx, Option.bind_some, show idx s (i : Int) = some s[i] from idx_nat (by omega), hb, hlt, cond_true, idx_nat hj, hix, w64_succ (show j < 9223372036854775807 by omega)]
      rw [ih _ ⟨by simpa using hs, ?_⟩]
      · rw [List.drop_eq_getElem_cons hj]; rfl
      · have : ((jobAt p i).After[j]).toNat ≠ i := by have := ha.2; simp at this; omega
        simp only [List.getD_eq_getElem?_getD, List.getElem?_set_ne this] at hb' ⊢
        exact hb'
    · rintro k s ⟨hs, hb⟩
      have hlt : decide ((((jobAt p i).After.length : Nat) : Int) < ((jobAt p i).After.length : Int)) = false := decide_eq_false (by omega)
      simp only [deuceref08_needed_L2, hij.idx, Option.bind_some, hlt, cond_false, deuceref08_needed_K2, deuceref08_needed_K1, hw]
      simp [markL]

theorem ref_marks (day : Int) : ∀ (i k : Nat) (s : List Bool), i < k → i ≤ p.Jobs.length → s.length = p.Jobs.length →
    deuceref08_needed_L0 day p k ((i : Int) - 1) s = deuceref08_needed_K0 (marks p day i s) := by
  have hnj := hp.nj
  intro i
  induction i with
  | zero =>
    intro k s hk _ _
    obtain ⟨k, rfl⟩ : ∃ k', k = k' + 1 := ⟨k - 1, by omega⟩
    simp [deuceref08_needed_L0, marks]
  | succ i ih =>
    intro k s hk hi hs
    obtain ⟨k, rfl⟩ : ∃ k', k = k' + 1 := ⟨k - 1, by omega⟩
    have hij : isJ p i := ⟨by omega, by simp; omega⟩
    have e1 : ((i + 1 : Nat) : Int) - 1 = (i : Int) := by omega
    have e2 : decide ((0 : Int) ≤ (i : Int)) = true := decide_eq_true (by omega)
    rw [e1]
    simp only [deuceref08_needed_L0, e2, cond_true, show idx s (i : Int) = some s[i] from idx_nat (by omega), Option.bind_some, hij.idx, or_some]
    have e3 : s.set (i : Int).toNat (s[i] || decide ((jobAt p i).Due ≤ day)) = markS p day i s := by
      unfold markS
      rw [Int.toNat_natCast]
      cases decide ((jobAt p i).Due ≤ day) <;> simp
    rw [e3, ref_inner hp (by omega) day _ _ (by rw [markS_len]; exact hs), ih k _ (by omega) (by omega)]
    · rfl
    · have := markStep_len p day i s
      unfold markStep at this
      rw [this]; exact hs

theorem ref_needed_eq (day : Int) : deuceref08_needed p day = some ((leftB (needB p day) p.Jobs.length).map fun i : Nat => (i : Int)) := by
  have hnj := hp.nj
  have hl := needB_len p day
  unfold deuceref08_needed
  rw [mk_nat (by omega), Option.bind_some, w64_ok (by omega) (by omega), ref_marks hp day _ BIG _ (BIG_lt (by omega)) (Nat.le_refl _) (by simp)]
  unfold deuceref08_needed_K0
  change deuceref08_needed_L4 (needB p day) BIG 0 [] = _
  generalize needB p day = B at hl
  rw [loop_st (fun k i o => deuceref08_needed_L4 B k i o) B.length (fun _ _ => some ((leftB B B.length).map fun i : Nat => (i : Int))) (fun i o => o = (leftB B i).map fun i : Nat => (i : Int)) ?_ ?_ BIG [] (BIG_lt (by omega)) rfl]
  · rw [hl]
  · rintro k i o hi rfl ih
    have hll := leftB_len B i
    have hlt : decide ((i : Int) < (B.length : Int)) = true := decide_eq_true (by omega)
    simp only [deuceref08_needed_L4, hlt, cond_true, idx_nat hi, Option.bind_some, w64_succ (show i < 9223372036854775807 by omega)]
    cases hb : B[i] with
    | true =>
      rw [app_ok (by simp; omega)]
      simp only [cond_true, Option.bind_some]
      refine ih _ ?_
      rw [leftB_succ, getD_get hi, hb]; simp
    | false =>
      simp only [cond_false]
      refine ih _ ?_
      rw [leftB_succ, getD_get hi, hb]; simp
  · rintro k o rfl
    simp [deuceref08_needed_L4, deuceref08_needed_K4]

omit hp in
theorem ref_ren {B : List Bool} {n : Nat} (hn : n ≤ 6) {l : List Int} (h : ascL l) (hl : ∀ x ∈ l, 0 ≤ x ∧ x < n) (hll : l.length ≤ 9223372036854775807) :
    deuceref08_renumbered l ((leftB B n).map fun i : Nat => (i : Int)) = some (renB B l) := by
  have hln := leftB_len B n
  rw [← ren_eq (B := B) h hl]
  unfold deuceref08_renumbered
  rw [loop_st (fun k i o => deuceref08_renumbered_L0 l ((leftB B n).map fun i : Nat => (i : Int)) k i o) (leftB B n).length
    (fun _ _ => some (((List.range (leftB B n).length).filter fun i => decide (((leftB B n).getD i 0 : Int) ∈ l)).map (fun i : Nat => (i : Int))))
    (fun i o => i ≤ (leftB B n).length ∧ o = ((List.range i).filter fun i => decide (((leftB B n).getD i 0 : Int) ∈ l)).map (fun i : Nat => (i : Int))) ?_ ?_ BIG [] (BIG_lt (by omega)) ⟨by omega, rfl⟩]
  · rintro k i o hi ⟨_, rfl⟩ ih
    have hlt : decide ((i : Int) < (((leftB B n).map fun i : Nat => (i : Int)).length : Int)) = true := decide_eq_true (by simp; omega)
    have hf := List.length_filter_le (fun i => decide (((leftB B n).getD i 0 : Int) ∈ l)) (List.range i)
    simp only [List.length_range] at hf
    simp only [deuceref08_renumbered_L0, hlt, cond_true, show idx ((leftB B n).map fun i : Nat => (i : Int)) (i : Int) = some ((leftB B n)[i] : Int) by rw [idx_nat (by simpa using hi)]; simp, Option.bind_some, w64_succ (show i < 9223372036854775807 by omega), In_eq l hll]
    rw [app_ok (by simp only [List.length_map, List.length_cons, List.length_nil]; omega)]
    have es : (List.range (i + 1)).filter (fun i => decide (((leftB B n).getD i 0 : Int) ∈ l)) = (List.range i).filter (fun i => decide (((leftB B n).getD i 0 : Int) ∈ l)) ++ bif decide (((leftB B n)[i] : Int) ∈ l) then [i] else [] := by
      rw [List.range_succ, List.filter_append, List.filter_cons, getD_get hi]
      cases decide (((leftB B n)[i] : Int) ∈ l) <;> rfl
    cases hd : decide (((leftB B n)[i] : Int) ∈ l) with
    | true =>
      rw [hd] at es
      simp only [cond_true, Option.bind_some]
      exact ih _ ⟨by omega, by rw [es]; simp⟩
    | false =>
      rw [hd] at es
      simp only [cond_false]
      exact ih _ ⟨by omega, by rw [es]; simp⟩
  · rintro k o ⟨_, rfl⟩
    simp [deuceref08_renumbered_L0, deuceref08_renumbered_K0]

omit hp in
theorem sub_take (p : ApiProgram) (B : List Bool) (n : Nat) : (leftB B (n + 1)).map (fun i : Nat => subJob B (jobAt p i)) = (leftB B n).map (fun i : Nat => subJob B (jobAt p i)) ++ bif B.getD n false then [subJob B (jobAt p n)] else [] := by
  rw [leftB_succ]
  cases B.getD n false <;> simp

theorem job_asc {i : Nat} (hi : i < p.Jobs.length) : ascL (jobAt p i).After ∧ ascL (jobAt p i).With := by
  have hg := hp.job i hi
  have e : jobAt p i = p.Jobs[i] := by unfold jobAt; rw [Int.toNat_natCast, getD_get hi]
  rw [e]
  simp only [goodJob, Bool.and_eq_true, range_all] at hg
  exact ⟨asc_pw hg.1.2, asc_pw hg.2.1⟩

theorem ref_Only_eq (hn : notHuge p) (B : List Bool) : deuceref08_Only p ((leftB B p.Jobs.length).map fun i : Nat => (i : Int)) = some (subP p B) := by
  have hnj := hp.nj
  have hln := leftB_len B p.Jobs.length
  unfold deuceref08_Only
  rw [Copy_eq hn, Option.bind_some]
  generalize ApiProgram.mk ([] : List (List ApiSpan)) 0 ([] : List ApiJob) = o4
  rw [loop_st (fun k i o => deuceref08_Only_L0 ((leftB B p.Jobs.length).map fun i : Nat => (i : Int)) p o4 k i o p.Days p.Rest) (leftB B p.Jobs.length).length
    (fun _ _ => some (subP p B)) (fun i o => i ≤ (leftB B p.Jobs.length).length ∧ o = ((leftB B p.Jobs.length).take i).map (fun i : Nat => subJob B (jobAt p i))) ?_ ?_ BIG [] (BIG_lt (by omega)) ⟨by omega, by simp⟩]
  · rintro k i o hi ⟨_, rfl⟩ ih
    have hlt : decide ((i : Int) < (((leftB B p.Jobs.length).map fun i : Nat => (i : Int)).length : Int)) = true := decide_eq_true (by simp; omega)
    have hm := (leftB_mem hi).1
    have hij : isJ p ((leftB B p.Jobs.length)[i] : Nat) := ⟨by omega, by simpa using hm⟩
    have vj := hij.vj hp
    obtain ⟨a1, a2⟩ := job_asc hp hm
    have sm := hij.small hp
    have r1 := ref_ren (B := B) hnj a1 (fun x hx => ⟨(vj.after x hx).1, by have := vj.after x hx; simp at this; omega⟩) sm.1
    have r2 := ref_ren (B := B) hnj a2 (fun x hx => ⟨(vj.withh x hx).1, (vj.withh x hx).2.1⟩) sm.2
    simp only [deuceref08_Only_L0, hlt, cond_true, show idx ((leftB B p.Jobs.length).map fun i : Nat => (i : Int)) (i : Int) = some ((leftB B p.Jobs.length)[i] : Int) by rw [idx_nat (by simpa using hi)]; simp, Option.bind_some, w64_succ (show i < 9223372036854775807 by omega), hij.idx, r1, r2]
    rw [app_ok (by simp only [List.length_map, List.length_cons, List.length_nil, List.length_take]; omega)]
    simp only [Option.bind_some]
    refine ih _ ⟨by omega, ?_⟩
    rw [List.take_succ_eq_append_getElem hi, List.map_append]
    rfl
  · rintro k o ⟨_, rfl⟩
    simp [deuceref08_Only_L0, deuceref08_Only_K0, subP]

theorem ref_DueBy_eq (hn : notHuge p) (day : Int) : deuceref08_DueBy p day = some (subP p (needB p day)) := by
  unfold deuceref08_DueBy
  rw [ref_needed_eq hp, Option.bind_some, ref_Only_eq hp hn, Option.bind_some]
end Go.Am
