/- Layer 8, plain: old orders, moves, and repairs. -/
import Derived.Test.YtikcmpflkibomaaPlayPlain11
namespace Go.Am

def goodOld (p : ApiProgram) (old : List ApiSeat) (i : Nat) : Bool :=
  !((old.take i).any fun o => decide (o.Job = (old.getD i default).Job)) && wi (old.getD i default).Job 0 (p.Jobs.length - 1) && wi (old.getD i default).Day 0 2 && wi (old.getD i default).Court 0 2
def isOldB (p : ApiProgram) (old : List ApiSeat) : Bool := (List.range old.length).all (goodOld p old) && decide (old.length = p.Jobs.length)

theorem ContainsFunc_seat_eq (l : List ApiSeat) (hl : l.length ≤ 9223372036854775807) (f : ApiSeat → Option Bool) (g : ApiSeat → Bool) (hf : ∀ x ∈ l, f x = some (g x)) : slices_ContainsFunc_api_Seat l f = some (l.any g) := by
  have key : slices_IndexFunc_api_Seat l f = some (match l.findIdx? g with | some i => (i : Int) | none => -1) := by
    unfold slices_IndexFunc_api_Seat
    rw [loop_st (S := Unit) (fun k i _ => slices_IndexFunc_api_Seat_L0 l f l.length k i) l.length (fun i _ => some (match (l.drop i).findIdx? g with | some j => ((i + j : Nat) : Int) | none => -1)) (fun _ _ => True) ?_ ?_ BIG () (BIG_lt hl) trivial]
    · simp
    · intro k i _ hi _ ih
      have := ih () trivial
      simp only [slices_IndexFunc_api_Seat_L0, idx_nat hi, Option.bind_some, w64_succ (show i < 9223372036854775807 by omega), Int.ofNat_lt, hi, decide_true, cond_true, this, hf _ (List.getElem_mem hi)]
      rw [List.drop_eq_getElem_cons hi, List.findIdx?_cons]
      cases h : g l[i] with
      | true => simp
      | false =>
        simp only [cond_false, Bool.false_eq_true, if_false]
        cases List.findIdx? g (List.drop (i + 1) l) with
        | none => rfl
        | some j => simp; omega
    · intro k _ _
      simp [slices_IndexFunc_api_Seat_L0, slices_IndexFunc_api_Seat_K0]
  unfold slices_ContainsFunc_api_Seat
  rw [key]
  cases h : List.findIdx? g l with
  | none =>
    simp at h
    have : l.any g = false := by simpa using h
    simp [this]
  | some j =>
    have : l.any g = true := by
      obtain ⟨h1, h2, _⟩ := List.findIdx?_eq_some_iff_getElem.1 h
      simp only [List.any_eq_true]
      exact ⟨_, List.getElem_mem h1, h2⟩
    simp [this]

theorem play_isOld_eq (p : ApiProgram) (hj : p.Jobs.length ≤ 1000000) (old : List ApiSeat) (hl : old.length ≤ 9223372036854775807) : play_isOld p old = some (isOldB p old) := by
  unfold play_isOld isOldB
  rw [loop_all (fun k i => play_isOld_L0 old old old.length p k i) old.length (goodOld p old) (some false) (some (decide (old.length = p.Jobs.length))) ?_ ?_ BIG (BIG_lt hl)]
  · cases (List.range old.length).all (goodOld p old) <;> rfl
  · intro k i hi
    have hlt : decide ((i : Int) < (old.length : Int)) = true := decide_eq_true (by omega)
    have hcf := ContainsFunc_seat_eq (old.take i) (by simp; omega) (fun y5 => play_isOld_1 y5 old[i]) (fun o => decide (o.Job = old[i].Job)) (fun _ _ => rfl)
    simp only [play_isOld_L0, hlt, cond_true, idx_nat hi, sub_nat (show i ≤ old.length by omega), Option.bind_some, hcf, play_within_eq, w64_ok (show -9223372036854775808 ≤ (p.Jobs.length : Int) - 1 by omega) (show (p.Jobs.length : Int) - 1 ≤ 9223372036854775807 by omega), or_some, w64_succ (show i < 9223372036854775807 by omega), goodOld, getD_get hi]
    generalize ((old.take i).any fun o => decide (o.Job = old[i].Job)) = b1
    generalize wi old[i].Job 0 (↑p.Jobs.length - 1) = b2
    generalize wi old[i].Day 0 2 = b3
    generalize wi old[i].Court 0 2 = b4
    generalize play_isOld_L0 old old old.length p k ((i + 1 : Nat) : Int) = X
    cases b1 <;> cases b2 <;> cases b3 <;> cases b4 <;> rfl
  · intro k
    have hlt : decide ((old.length : Int) < (old.length : Int)) = false := decide_eq_false (by omega)
    have e : decide ((old.length : Int) = (p.Jobs.length : Int)) = decide (old.length = p.Jobs.length) := by simp; omega
    simp only [play_isOld_L0, hlt, cond_false, play_isOld_K0, e]

theorem ref_IsOld_eq (p : ApiProgram) (hj : p.Jobs.length ≤ 1000000) (old : List ApiSeat) (hl : old.length ≤ 9223372036854775807) : deuceref08_IsOld p old = some (isOldB p old) := by
  unfold deuceref08_IsOld isOldB
  rw [loop_all (fun k i => deuceref08_IsOld_L0 old p k i) old.length (goodOld p old) (some false) (some (decide (old.length = p.Jobs.length))) ?_ ?_ BIG (BIG_lt hl)]
  · cases (List.range old.length).all (goodOld p old) <;> rfl
  · intro k i hi
    have hlt : decide ((i : Int) < (old.length : Int)) = true := decide_eq_true (by omega)
    simp only [deuceref08_IsOld_L0, hlt, cond_true, idx_nat hi, sub_nat (show i ≤ old.length by omega), Option.bind_some, has_eq (old.take i) (by simp; omega), ref_within_eq, w64_ok (show -9223372036854775808 ≤ (p.Jobs.length : Int) - 1 by omega) (show (p.Jobs.length : Int) - 1 ≤ 9223372036854775807 by omega), or_some, w64_succ (show i < 9223372036854775807 by omega), goodOld, getD_get hi]
    generalize ((old.take i).any fun o => decide (o.Job = old[i].Job)) = b1
    generalize wi old[i].Job 0 (↑p.Jobs.length - 1) = b2
    generalize wi old[i].Day 0 2 = b3
    generalize wi old[i].Court 0 2 = b4
    generalize deuceref08_IsOld_L0 old p k ((i + 1 : Nat) : Int) = X
    cases b1 <;> cases b2 <;> cases b3 <;> cases b4 <;> rfl
  · intro k
    have hlt : decide ((old.length : Int) < (old.length : Int)) = false := decide_eq_false (by omega)
    have e : decide ((old.length : Int) = (p.Jobs.length : Int)) = decide (old.length = p.Jobs.length) := by simp; omega
    simp only [deuceref08_IsOld_L0, hlt, cond_false, deuceref08_IsOld_K0, e]

/-- Another day or court in an old order. -/
def diff (s o : ApiSeat) : Bool := decide (o.Job = s.Job) && (!decide (o.Day = s.Day) || !decide (o.Court = s.Court))
def mvR (old : List ApiSeat) (s : ApiSeat) : Int := (old.countP (diff s) : Nat)

theorem countP_take {α : Type} (f : α → Bool) (l : List α) {i : Nat} (h : i < l.length) : (l.take (i + 1)).countP f = (l.take i).countP f + bif f l[i] then 1 else 0 := by
  rw [List.take_succ_eq_append_getElem h, List.countP_append, List.countP_singleton]
  cases f l[i] <;> simp

theorem moved_eq (order old : List ApiSeat) (h1 : order.length ≤ 1000) (h2 : old.length ≤ 1000) : deuceref08_moved order old = some ((order.map (mvR old)).sum) := by
  have sums : ∀ i, i ≤ order.length → 0 ≤ ((order.take i).map (mvR old)).sum ∧ ((order.take i).map (mvR old)).sum ≤ 1000 * i := by
    intro i
    induction i with
    | zero => simp
    | succ i ih =>
      intro hi
      have := ih (by omega)
      rw [List.take_succ_eq_append_getElem (show i < order.length by omega), List.map_append, List.sum_append]
      have hc : mvR old order[i] ≤ 1000 ∧ 0 ≤ mvR old order[i] := by
        unfold mvR
        have := List.countP_le_length (p := diff order[i]) (l := old)
        omega
      simp only [List.map_cons, List.map_nil, List.sum_cons, List.sum_nil]
      omega
  unfold deuceref08_moved
  have main := loop_all (fun k i => deuceref08_moved_L0 order old k ((order.take i.toNat).map (mvR old)).sum i) order.length (fun _ => true) none (some ((order.map (mvR old)).sum)) ?_ ?_ BIG (BIG_lt (by omega))
  · have e : (List.range order.length).all (fun _ => true) = true := by simp
    rw [e] at main
    simp only [Int.toNat_zero, List.take_zero, List.map_nil, List.sum_nil, cond_true] at main
    exact main
  · intro k i hi
    have hlt : decide ((i : Int) < (order.length : Int)) = true := decide_eq_true (by omega)
    have hsi := sums i (by omega)
    have inner : deuceref08_moved_L2 (deuceref08_moved_L0 order old k) order old (i : Int) BIG ((order.take i).map (mvR old)).sum 0 = deuceref08_moved_L0 order old k (((order.take (i + 1)).map (mvR old)).sum) ((i + 1 : Nat) : Int) := by
      have main2 := loop_all (fun k2 c => deuceref08_moved_L2 (deuceref08_moved_L0 order old k) order old (i : Int) k2 (((order.take i).map (mvR old)).sum + ((old.take c.toNat).countP (diff order[i]) : Nat)) c) old.length (fun _ => true) none
        (deuceref08_moved_L0 order old k (((order.take (i + 1)).map (mvR old)).sum) ((i + 1 : Nat) : Int)) ?_ ?_ BIG (BIG_lt (by omega))
      · have e : (List.range old.length).all (fun _ => true) = true := by simp
        rw [e] at main2
        simp only [Int.toNat_zero, List.take_zero, List.countP_nil, cond_true] at main2
        have e0 : ((order.take i).map (mvR old)).sum + ((0 : Nat) : Int) = ((order.take i).map (mvR old)).sum := by omega
        rw [e0] at main2
        exact main2
      · intro k2 c hc
        have hlt2 : decide ((c : Int) < (old.length : Int)) = true := decide_eq_true (by omega)
        have hcp := countP_take (diff order[i]) old hc
        have hcb := List.countP_le_length (p := diff order[i]) (l := old.take c)
        simp only [List.length_take] at hcb
        simp only [deuceref08_moved_L2, Int.toNat_natCast, hlt2, cond_true, idx_nat hc, idx_nat hi, Option.bind_some, w64_succ (show c < 9223372036854775807 by omega), hcp]
        rw [w64_ok (by omega) (by omega)]
        unfold diff
        by_cases j1 : old[c].Job = order[i].Job <;> by_cases j2 : old[c].Day = order[i].Day <;> by_cases j3 : old[c].Court = order[i].Court <;> simp [j1, j2, j3, Int.add_assoc]
      · intro k2
        have hlt2 : decide ((old.length : Int) < (old.length : Int)) = false := decide_eq_false (by omega)
        have e1 : ((order.take i).map (mvR old)).sum + (old.countP (diff order[i]) : Nat) = ((order.take (i + 1)).map (mvR old)).sum := by
          rw [List.take_succ_eq_append_getElem hi, List.map_append, List.sum_append]
          simp [mvR]
        simp only [deuceref08_moved_L2, Int.toNat_natCast, hlt2, cond_false, List.take_length, deuceref08_moved_K2, deuceref08_moved_K1, w64_succ (show i < 9223372036854775807 by omega), e1]
    simp only [deuceref08_moved_L0, Int.toNat_natCast, hlt, cond_true, inner]
  · intro k
    have hlt : decide ((order.length : Int) < (order.length : Int)) = false := decide_eq_false (by omega)
    simp only [deuceref08_moved_L0, Int.toNat_natCast, hlt, cond_false, List.take_length, deuceref08_moved_K0]

theorem diff_false {s o : ApiSeat} (hj : o.Job = s.Job) (h : diff s o = false) : o = s := by
  obtain ⟨a, b, c⟩ := s
  obtain ⟨a', b', c'⟩ := o
  simp only at hj
  subst hj
  simp only [diff, decide_true, Bool.true_and, Bool.or_eq_false_iff, Bool.not_eq_false', decide_eq_true_eq] at h
  rw [h.1, h.2]
theorem nodup_len : ∀ (n : Nat) (l : List Nat), l.Nodup → (∀ x ∈ l, x < n) → l.length ≤ n
  | 0, l, _, h => by
    cases l with
    | nil => simp
    | cons a l => have := h a (by simp); omega
  | n + 1, l, hn, h => by
    have h1 := nodup_len n (l.erase n) (hn.erase n) (fun x hx => by
      have h2 := (hn.mem_erase_iff).1 hx
      have := h x h2.2
      have := h2.1
      omega)
    have h2 := List.length_erase (a := n) (l := l)
    split at h2 <;> omega
/-- In an old order each job has one seat. -/
theorem mvR_eq {p : ApiProgram} {old : List ApiSeat} (ho : isOldB p old = true) {s : ApiSeat} (hs : isJ p s.Job) : mvR old s = mv (some old) s := by
  simp only [isOldB, Bool.and_eq_true, range_all, decide_eq_true_eq] at ho
  obtain ⟨hg, hlen⟩ := ho
  have uniq : ∀ i j (hi : i < old.length) (hj : j < old.length), old[i].Job = old[j].Job → i = j := by
    have key : ∀ i j (hi : i < old.length), j < i → ∀ hj : j < old.length, old[j].Job ≠ old[i].Job := by
      intro i j hi hji hj e
      have := hg i hi
      simp only [goodOld, Bool.and_eq_true, Bool.not_eq_true', List.any_eq_false, decide_eq_true_eq, getD_get hi] at this
      exact this.1.1.1 old[j] (by rw [List.mem_take_iff_getElem]; exact ⟨j, by omega, rfl⟩) e
    intro i j hi hj e
    rcases Nat.lt_trichotomy i j with h | h | h
    · exact absurd e (key j i hj h hi)
    · exact h
    · exact absurd e.symm (key i j hi h hj)
  have jobs : ∀ i (hi : i < old.length), old[i].Job.toNat < old.length ∧ 0 ≤ old[i].Job := by
    intro i hi
    have := hg i hi
    simp only [goodOld, Bool.and_eq_true, getD_get hi] at this
    have := wi_int this.1.1.2
    omega
  -- every job has a seat
  have surj : ∃ i, ∃ hi : i < old.length, old[i].Job = s.Job := by
    have hs2 : s.Job.toNat < old.length := by rw [hlen]; exact hs.2
    have inj : ∀ (n : Nat) (f : Nat → Nat), (∀ i, i < n → f i < n) → (∀ i j, i < n → j < n → f i = f j → i = j) → ∀ y, y < n → ∃ i, i < n ∧ f i = y := by
      intro n f hf hinj y hy
      have hnd : ((List.range n).map f).Nodup := by
        rw [List.nodup_iff_pairwise_ne, List.pairwise_map]
        refine List.Pairwise.imp_of_mem ?_ (List.nodup_range (n := n))
        intro a b ha hb hne e
        exact hne (hinj a b (by simpa using ha) (by simpa using hb) e)
      by_cases hy' : ∃ i, i < n ∧ f i = y
      · exact hy'
      · exfalso
        have hnd2 : (y :: (List.range n).map f).Nodup := by
          rw [List.nodup_cons]
          refine ⟨fun hm => ?_, hnd⟩
          obtain ⟨a, ha, e⟩ := List.mem_map.1 hm
          exact hy' ⟨a, by simpa using ha, e⟩
        have := nodup_len n _ hnd2 (fun x hx => by
          rcases List.mem_cons.1 hx with rfl | hx
          · exact hy
          · obtain ⟨a, ha, rfl⟩ := List.mem_map.1 hx
            exact hf a (by simpa using ha))
        simp at this; omega
    obtain ⟨i, hi, e⟩ := inj old.length (fun i => (old.getD i default).Job.toNat) (fun i hi => by rw [getD_get hi]; exact (jobs i hi).1) (fun i j hi hj e => by
      rw [getD_get hi, getD_get hj] at e
      have := (jobs i hi).2
      have := (jobs j hj).2
      exact uniq i j hi hj (by omega)) s.Job.toNat hs2
    refine ⟨i, hi, ?_⟩
    rw [getD_get hi] at e
    have := (jobs i hi).2
    have := hs.1
    omega
  obtain ⟨i, hi, e⟩ := surj
  have hsplit : old = old.take i ++ old[i] :: old.drop (i + 1) := by
    rw [← List.drop_eq_getElem_cons hi, List.take_append_drop]
  have zero : ∀ o ∈ old.take i ++ old.drop (i + 1), diff s o = false := by
    intro o ho
    have : o.Job ≠ s.Job := by
      intro e2
      rcases List.mem_append.1 ho with h | h
      · rw [List.mem_take_iff_getElem] at h
        obtain ⟨j, hj, rfl⟩ := h
        have := uniq j i (by omega) hi (by rw [e2, e])
        omega
      · rw [List.mem_drop_iff_getElem] at h
        obtain ⟨j, hj, rfl⟩ := h
        have := uniq (i + 1 + j) i (by omega) hi (by rw [e2, e])
        omega
    simp [diff, this]
  have hcount : old.countP (diff s) = bif diff s old[i] then 1 else 0 := by
    have c1 : (old.take i).countP (diff s) = 0 := by
      rw [List.countP_eq_zero]
      intro o ho
      simp [zero o (List.mem_append.2 (.inl ho))]
    have c2 : (old.drop (i + 1)).countP (diff s) = 0 := by
      rw [List.countP_eq_zero]
      intro o ho
      simp [zero o (List.mem_append.2 (.inr ho))]
    conv => lhs; rw [hsplit]
    rw [List.countP_append, List.countP_cons, c1, c2]
    cases diff s old[i] <;> rfl
  have hmem : decide (s ∈ old) = !diff s old[i] := by
    rw [Bool.eq_iff_iff]
    simp only [decide_eq_true_eq, Bool.not_eq_true']
    constructor
    · intro hm
      obtain ⟨j, hj, rfl⟩ := List.getElem_of_mem hm
      have := uniq j i hj hi e.symm
      subst this
      simp [diff]
    · intro hd
      rw [← diff_false e hd]
      exact List.getElem_mem hi
  unfold mvR mv
  rw [hcount]
  simp only [hmem]
  cases diff s old[i] <;> rfl

theorem moved_sum {p : ApiProgram} {old l : List ApiSeat} (ho : isOldB p old = true) (hl : ∀ s ∈ l, isJ p s.Job) : (l.map (mvR old)).sum = (l.map (mv (some old))).sum := by
  induction l with
  | nil => rfl
  | cons s l ih =>
    simp only [List.map_cons, List.sum_cons]
    rw [mvR_eq ho (hl s (by simp)), ih fun s hs => hl s (List.mem_cons_of_mem _ hs)]

/-- No order that fits moves fewer. -/
def NoMoves (p : ApiProgram) (old : List ApiSeat) (n : Int) : Prop := ∀ m : Int, 0 ≤ m → m < n → ∀ l, ¬ Full p p.Days.length (some old) m l
def repPost (p : ApiProgram) (old : List ApiSeat) (r : Option (Int × List ApiSeat × Int)) : Prop :=
  (∃ n l, r = some (n, l, 0) ∧ l.length ≤ 6 ∧ 0 ≤ n ∧ n ≤ (p.Jobs.length : Int) ∧ Full p p.Days.length (some old) n l ∧ NoMoves p old n) ∨ (r = some (0, [], 3) ∧ NoMoves p old ((p.Jobs.length : Int) + 1))
theorem repair_spec {p : ApiProgram} (hp : VP p) (hv : valid p = true) {old : List ApiSeat} (ho : isOldB p old = true) : repPost p old (play_repair p old) := by
  have hnj := hp.nj
  have hnd := hp.nd
  have hlen : old.length = p.Jobs.length := by
    simp only [isOldB, Bool.and_eq_true, decide_eq_true_eq] at ho
    exact ho.2
  have e1 : play_Check p = some 0 := by rw [play_Check_eq p hp.small, hv]; rfl
  have main : repPost p old (play_repair_L0 old ((p.Jobs.length + 1 : Nat) : Int) p BIG 0) := by
    refine loop_pred (S := Unit) (fun k i _ => play_repair_L0 old ((p.Jobs.length + 1 : Nat) : Int) p k i) (p.Jobs.length + 1) (repPost p old) (fun i _ => i ≤ p.Jobs.length + 1 ∧ NoMoves p old i) ?_ ?_ BIG 0 () (BIG_lt (by omega)) ⟨by omega, fun m h0 hm => by simp at hm; omega⟩
    · rintro k i _ hi ⟨_, hno⟩ ih
      have hlt : decide ((i : Int) < ((p.Jobs.length + 1 : Nat) : Int)) = true := decide_eq_true (by omega)
      obtain ⟨l, b, hr, hl, ht, hf⟩ := order_spec hp (days := p.Days.length) (by omega) (by omega) (old := some old) (fun l h => by cases h; omega) (moves := i) (by omega) (by omega)
      have happ : app 24 ([] : List ApiSeat) old = some old := by rw [app_ok (by simp; omega)]; rfl
      simp only [play_repair_L0, hlt, cond_true, happ, hr, Option.bind_some, w64_succ (show i < 9223372036854775807 by omega)]
      cases b with
      | true => exact .inl ⟨i, l, rfl, hl, by omega, by omega, ht rfl, hno⟩
      | false =>
        refine ih () ⟨by omega, fun m h0 hm => ?_⟩
        by_cases hmi : m = i
        · subst hmi; exact (hf rfl).2
        · exact hno m h0 (by omega)
    · rintro k i _ hi ⟨hi2, hno⟩
      have hlt : decide ((i : Int) < ((p.Jobs.length + 1 : Nat) : Int)) = false := decide_eq_false (by omega)
      simp only [play_repair_L0, hlt, cond_false, play_repair_K0]
      have hi3 : (i : Int) = (p.Jobs.length : Int) + 1 := by omega
      exact .inr ⟨rfl, hi3 ▸ hno⟩
  revert main
  unfold play_repair
  have e3 : w64 ((p.Jobs.length : Int) + 1) = ((p.Jobs.length + 1 : Nat) : Int) := w64_succ (by omega)
  rw [e1, play_isOld_eq p (by omega) old (by omega), ho, e3]
  generalize play_repair_L0 old ((p.Jobs.length + 1 : Nat) : Int) p BIG 0 = X
  intro main
  exact main
end Go.Am
