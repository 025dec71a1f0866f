/- Layer 8, plain: the program makes the same program of the jobs that are due. -/
import Derived.Test.YtikcmpflkibomaaPlayPlain14
namespace Go.Am

variable {p : ApiProgram} (hp : VP p)
include hp

omit hp in
theorem ints_len (s : List Bool) : (ints s).length = s.length := by simp [ints]

theorem play_inner {i : Nat} (hi : i < p.Jobs.length) (day : Int) (o4 : ApiProgram) (again0 : Int → List Int → Option ApiProgram) (s : List Bool) (hs : s.length = p.Jobs.length) :
    play_due_L2 again0 day i (jobAt p i).After ((jobAt p i).After.length : Int) p o4 BIG 0 (ints s) = again0 ((i : Int) - 1) (ints (markL (jobAt p i).After s)) := by
  have hnj := hp.nj
  have hij : isJ p i := ⟨by omega, by simpa using hi⟩
  have vj := hij.vj hp
  have hal := (hij.small hp).1
  have hw : w64 ((i : Int) - 1) = (i : Int) - 1 := w64_ok (by omega) (by omega)
  rw [loop_st (fun k j s => play_due_L2 again0 day i (jobAt p i).After ((jobAt p i).After.length : Int) p o4 k j s) (jobAt p i).After.length (fun _ _ => again0 ((i : Int) - 1) (ints (markL (jobAt p i).After s))) (fun j t => ∃ s', t = ints s' ∧ s'.length = p.Jobs.length ∧ markL ((jobAt p i).After.drop j) s' = markL (jobAt p i).After s) ?_ ?_ BIG (ints s) (BIG_lt hal) ⟨s, rfl, hs, by simp⟩]
  · rintro k j t hj ⟨s', rfl, hs', hm⟩ ih
    have ha := vj.after _ (List.getElem_mem hj)
    have hix : ∃ v, idx (ints s') (jobAt p i).After[j] = some v := ⟨_, idx_int ha.1 (by rw [ints_len]; omega)⟩
    obtain ⟨v, hix⟩ := hix
    have hlt : decide ((j : Int) < ((jobAt p i).After.length : Int)) = true := decide_eq_true (by omega)
    simp only [play_due_L2, hlt, cond_true, idx_nat hj, Option.bind_some, hix, w64_succ (show j < 9223372036854775807 by omega), ints_set]
    refine ih _ ⟨_, rfl, by simpa using hs', ?_⟩
    rw [← hm, List.drop_eq_getElem_cons hj]; rfl
  · rintro k t ⟨s', rfl, hs', hm⟩
    have hlt : decide ((((jobAt p i).After.length : Nat) : Int) < ((jobAt p i).After.length : Int)) = false := decide_eq_false (by omega)
    simp only [play_due_L2, hlt, cond_false, play_due_K2, play_due_K1, hw]
    rw [← hm]
    simp [markL]

theorem play_marks (day : Int) (o4 : ApiProgram) : ∀ (i k : Nat) (s : List Bool), i < k → i ≤ p.Jobs.length → s.length = p.Jobs.length →
    play_due_L0 day p o4 k ((i : Int) - 1) (ints s) = play_due_K0 p o4 (ints (marks p day i s)) := by
  have hnj := hp.nj
  intro i
  induction i with
  | zero =>
    intro k s hk _ _
    obtain ⟨k, rfl⟩ : ∃ k', k = k' + 1 := ⟨k - 1, by omega⟩
    simp [play_due_L0, marks]
  | succ i ih =>
    intro k s hk hi hs
    obtain ⟨k, rfl⟩ : ∃ k', k = k' + 1 := ⟨k - 1, by omega⟩
    have hij : isJ p i := ⟨by omega, by simp; omega⟩
    have e1 : ((i + 1 : Nat) : Int) - 1 = (i : Int) := by omega
    have e2 : decide ((0 : Int) ≤ (i : Int)) = true := decide_eq_true (by omega)
    have hw : w64 ((i : Int) - 1) = (i : Int) - 1 := w64_ok (by omega) (by omega)
    rw [e1]
    have main : play_due_L0 day p o4 (k + 1) (i : Int) (ints s) = play_due_L0 day p o4 k ((i : Int) - 1) (ints (markStep p day i s)) := by
      have hl : (markS p day i s).length = p.Jobs.length := by rw [markS_len]; exact hs
      simp only [play_due_L0, e2, cond_true, hij.idx, Option.bind_some, Int.toNat_natCast, ints_set, ints_idx (show i < s.length by omega), ints_idx (show i < (s.set i true).length by simp; omega), one_iff, play_inner hp (show i < p.Jobs.length by omega) day o4 _ s hs, play_inner hp (show i < p.Jobs.length by omega) day o4 _ (s.set i true) (by simpa using hs), play_due_K1, hw]
      unfold markStep markS
      cases decide ((jobAt p i).Due ≤ day) with
      | true => simp only [cond_true]; cases (s.set i true).getD i false <;> rfl
      | false => simp only [cond_false]; cases s.getD i false <;> rfl
    rw [main, ih k _ (by omega) (by omega) (by rw [markStep_len]; exact hs)]
    rfl

omit hp in
theorem play_left {B : List Bool} {R : List Int} (hR : ∀ a : Int, 0 ≤ a → a.toNat < B.length → idx R a = some (rankB B a)) {l : List Int} (hl : ∀ x ∈ l, 0 ≤ x ∧ x < B.length) (hll : l.length ≤ 1000000) :
    play_due_1 l (ints B) R = some (renB B l) := by
  unfold play_due_1
  rw [loop_st (fun k i o => play_due_1_L0 (ints B) R l l.length k i o) l.length (fun _ _ => some (renB B l)) (fun i o => i ≤ l.length ∧ o = renB B (l.take i)) ?_ ?_ BIG [] (BIG_lt (by omega)) ⟨by omega, by simp [renB]⟩]
  · rintro k i o hi ⟨_, rfl⟩ ih
    have hx := hl _ (List.getElem_mem hi)
    have hlt : decide ((i : Int) < (l.length : Int)) = true := decide_eq_true (by omega)
    have hb : idx (ints B) l[i] = some (bif B.getD l[i].toNat false then 1 else 0) := by
      have := ints_idx (s := B) (i := l[i].toNat) (by omega)
      rwa [Int.toNat_of_nonneg hx.1] at this
    have hf := List.length_filter_le (fun a : Int => B.getD a.toNat false) (l.take i)
    simp only [List.length_take] at hf
    simp only [play_due_1_L0, hlt, cond_true, idx_nat hi, Option.bind_some, hb, one_iff, hR _ hx.1 (show l[i].toNat < B.length by omega), w64_succ (show i < 9223372036854775807 by omega)]
    rw [app_ok (by simp only [renB, List.length_map, List.length_cons, List.length_nil]; omega)]
    have es : renB B (l.take (i + 1)) = renB B (l.take i) ++ bif B.getD l[i].toNat false then [rankB B l[i]] else [] := by
      unfold renB
      rw [List.take_succ_eq_append_getElem hi, List.filter_append, List.filter_cons]
      cases B.getD l[i].toNat false <;> simp
    cases hd : B.getD l[i].toNat false with
    | true =>
      rw [hd] at es
      simp only [cond_true, Option.bind_some]
      exact ih _ ⟨by omega, by rw [es]; rfl⟩
    | false =>
      rw [hd] at es
      simp only [cond_false]
      exact ih _ ⟨by omega, by rw [es]; simp⟩
  · rintro k o ⟨_, rfl⟩
    simp [play_due_1_L0, play_due_1_K0]

theorem play_end (o4 : ApiProgram) (B : List Bool) (hB : B.length = p.Jobs.length) : play_due_K0 p o4 (ints B) = some (subP p B) := by
  have hnj := hp.nj
  unfold play_due_K0
  rw [mk_nat (by omega), Option.bind_some]
  rw [loop_st (S := Int × List Int) (fun k i s => play_due_L4 ((ints B).length : Int) p o4 (ints B) k s.1 i s.2) (ints B).length (fun _ _ => some (subP p B))
    (fun i s => s.1 = ((leftB B i).length : Nat) ∧ s.2.length = p.Jobs.length ∧ ∀ k : Nat, k < i → k < p.Jobs.length → s.2.getD k 0 = rankB B k) ?_ ?_ BIG (0, List.replicate p.Jobs.length 0) (BIG_lt (by rw [ints_len]; omega)) ⟨rfl, by simp, fun k hk => by omega⟩]
  · rintro k i ⟨m, R⟩ hi ⟨hm, hRl, hR⟩ ih
    simp only at hm hRl hR ⊢
    subst hm
    rw [ints_len] at hi
    have hlb := leftB_len B i
    have hlt : decide ((i : Int) < ((ints B).length : Int)) = true := decide_eq_true (by rw [ints_len]; omega)
    simp only [play_due_L4, hlt, cond_true, ints_idx hi, show idx R (i : Int) = some (R[i]'(by omega)) from idx_nat _, Option.bind_some, w64_succ (show i < 9223372036854775807 by omega), Int.toNat_natCast]
    have := ih (w64 (((leftB B i).length : Nat) + bif B.getD i false then 1 else 0), R.set i ((leftB B i).length : Nat)) ⟨?_, by simpa using hRl, fun k hk hk2 => ?_⟩
    · exact this
    · rw [leftB_succ]
      cases B.getD i false with
      | true => simp only [cond_true]; rw [w64_succ (by omega)]; simp
      | false => simp only [cond_false]; rw [w64_ok (by omega) (by omega)]; simp
    · simp only
      by_cases e : k = i
      · subst e
        rw [getD_get (by simp; omega)]
        simp [rankB]
      · rw [← hR k (by omega) hk2]
        simp [List.getD_eq_getElem?_getD, List.getElem?_set_ne (show i ≠ k by omega)]
  · rintro k ⟨m, R⟩ ⟨hm, hRl, hR⟩
    simp only at hm hRl hR ⊢
    have hlt : decide (((ints B).length : Int) < ((ints B).length : Int)) = false := decide_eq_false (by omega)
    simp only [play_due_L4, hlt, cond_false, play_due_K4]
    rw [ints_len] at hR
    have hR' : ∀ a : Int, 0 ≤ a → a.toNat < B.length → idx R a = some (rankB B a) := by
      intro a h0 h1
      rw [idx_int h0 (by omega), ← getD_get (by omega) 0, hR a.toNat h1 (by omega), Int.toNat_of_nonneg h0]
    rw [loop_st (fun k i o => play_due_L6 (ints B) (ints B) R p.Jobs p.Jobs.length o4 k i o p.Days p.Rest) p.Jobs.length (fun _ _ => some (subP p B)) (fun i o => i ≤ p.Jobs.length ∧ o = (leftB B i).map fun i : Nat => subJob B (jobAt p i)) ?_ ?_ BIG [] (BIG_lt (by omega)) ⟨by omega, rfl⟩]
    · rintro k i o hi ⟨_, rfl⟩ ih
      have hlb := leftB_len B i
      have hlt : decide ((i : Int) < (p.Jobs.length : Int)) = true := decide_eq_true (by omega)
      have hij : isJ p i := ⟨by omega, by simpa using hi⟩
      have vj := hij.vj hp
      have a1 := vj.alen
      have a2 := vj.wlen
      rw [Int.toNat_natCast] at a1
      have r1 := play_left (B := B) hR' (l := (jobAt p i).After) (fun x hx => ⟨(vj.after x hx).1, by have := vj.after x hx; simp at this; omega⟩) (by omega)
      have r2 := play_left (B := B) hR' (l := (jobAt p i).With) (fun x hx => ⟨(vj.withh x hx).1, by have := vj.withh x hx; omega⟩) (by omega)
      simp only [play_due_L6, hlt, cond_true, hij.idx, ints_idx (show i < B.length by omega), one_iff, Option.bind_some, r1, r2, w64_succ (show i < 9223372036854775807 by omega)]
      rw [app_ok (by simp only [List.length_map, List.length_cons, List.length_nil]; omega)]
      have es := sub_take p B i
      cases hd : B.getD i false with
      | true =>
        rw [hd] at es
        simp only [cond_true, Option.bind_some]
        exact ih _ ⟨by omega, by rw [es]; rfl⟩
      | false =>
        rw [hd] at es
        simp only [cond_false]
        exact ih _ ⟨by omega, by rw [es]; simp⟩
    · rintro k o ⟨_, rfl⟩
      simp [play_due_L6, play_due_K6, subP]

theorem play_due_eq (day : Int) : play_due p day = some (subP p (needB p day)) := by
  have hnj := hp.nj
  unfold play_due
  rw [mk_nat (by omega), Option.bind_some, w64_ok (by omega) (by omega)]
  have e : (List.replicate p.Jobs.length (0 : Int)) = ints (List.replicate p.Jobs.length false) := by simp [ints]
  rw [e, play_marks hp day _ _ BIG _ (BIG_lt (by omega)) (Nat.le_refl _) (by simp)]
  exact play_end hp _ _ (needB_len p day)
end Go.Am
