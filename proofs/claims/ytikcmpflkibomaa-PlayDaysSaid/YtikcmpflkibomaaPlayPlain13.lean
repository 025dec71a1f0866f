/- Layer 8, plain: a program with some jobs alone. -/
import Derived.Test.YtikcmpflkibomaaPlayPlain12
namespace Go.Am

/-- The numbers of the jobs that stay, below a bound. -/
def leftB (B : List Bool) (n : Nat) : List Nat := (List.range n).filter fun i => B.getD i false
def rankB (B : List Bool) (a : Int) : Int := ((leftB B a.toNat).length : Nat)
def renB (B : List Bool) (l : List Int) : List Int := (l.filter fun a => B.getD a.toNat false).map (rankB B)
def subJob (B : List Bool) (j : ApiJob) : ApiJob := ⟨j.Length, renB B j.After, renB B j.With, j.Due, j.Earliest⟩
def subP (p : ApiProgram) (B : List Bool) : ApiProgram := ⟨p.Days, p.Rest, (leftB B p.Jobs.length).map fun i => subJob B (jobAt p (i : Nat))⟩

theorem leftB_succ (B : List Bool) (n : Nat) : leftB B (n + 1) = bif B.getD n false then leftB B n ++ [n] else leftB B n := by
  unfold leftB
  rw [List.range_succ, List.filter_append]
  cases h : B.getD n false
  · have : ([n].filter fun i => B.getD i false) = [] := by rw [List.filter_cons, h]; rfl
    rw [this]; simp
  · have : ([n].filter fun i => B.getD i false) = [n] := by rw [List.filter_cons, h]; rfl
    rw [this]; rfl
theorem leftB_split (B : List Bool) {a : Nat} (ha : B.getD a false = true) : ∀ n, a < n → ∃ r, leftB B n = leftB B a ++ a :: r
  | 0, h => by omega
  | n + 1, h => by
    rw [leftB_succ]
    by_cases e : a = n
    · subst e
      exact ⟨[], by rw [ha]; rfl⟩
    · obtain ⟨r, hr⟩ := leftB_split B ha n (by omega)
      rw [hr]
      cases B.getD n false
      · exact ⟨r, rfl⟩
      · exact ⟨r ++ [n], by simp⟩
theorem leftB_rank (B : List Bool) {a : Nat} (ha : B.getD a false = true) {n : Nat} (h : a < n) : ∃ h : (leftB B a).length < (leftB B n).length, (leftB B n)[(leftB B a).length] = a := by
  obtain ⟨r, hr⟩ := leftB_split B ha n h
  refine ⟨by rw [hr]; simp, ?_⟩
  simp [hr]
theorem leftB_mem {B : List Bool} {n i : Nat} (h : i < (leftB B n).length) : (leftB B n)[i] < n ∧ B.getD (leftB B n)[i] false = true := by
  have := List.mem_filter.1 (show (leftB B n)[i] ∈ (List.range n).filter fun i => B.getD i false from List.getElem_mem h)
  exact ⟨List.mem_range.1 this.1, this.2⟩
theorem leftB_pw (B : List Bool) (n : Nat) : (leftB B n).Pairwise (· < ·) := List.Pairwise.filter _ (List.pairwise_lt_range (n := n))
theorem leftB_lt {B : List Bool} {n i j : Nat} (hj : j < (leftB B n).length) (hij : i < j) : (leftB B n)[i] < (leftB B n)[j] := List.pairwise_iff_getElem.1 (leftB_pw B n) i j (by omega) hj hij
theorem rank_left {B : List Bool} {n i : Nat} (h : i < (leftB B n).length) : (leftB B (leftB B n)[i]).length = i := by
  obtain ⟨h1, h2⟩ := leftB_mem h
  obtain ⟨h3, h4⟩ := leftB_rank B h2 h1
  rcases Nat.lt_trichotomy (leftB B (leftB B n)[i]).length i with h5 | h5 | h5
  · have := leftB_lt h h5; omega
  · exact h5
  · have := leftB_lt h3 h5; omega
theorem rank_lt {B : List Bool} {a b : Nat} (ha : B.getD a false = true) (h : a < b) : (leftB B a).length < (leftB B b).length := (leftB_rank B ha h).1
theorem rank_le {B : List Bool} {a b : Nat} (h : a ≤ b) : (leftB B a).length ≤ (leftB B b).length := by
  induction b with
  | zero => have : a = 0 := by omega
            subst this; exact Nat.le_refl _
  | succ b ih =>
    by_cases e : a = b + 1
    · subst e; exact Nat.le_refl _
    · have := ih (by omega)
      rw [leftB_succ]
      cases B.getD b false <;> simp <;> omega
theorem leftB_len (B : List Bool) (n : Nat) : (leftB B n).length ≤ n := by
  have := List.length_filter_le (fun i => B.getD i false) (List.range n)
  simpa [leftB] using this

theorem sorted_ext : ∀ {l m : List Int}, l.Pairwise (· < ·) → m.Pairwise (· < ·) → (∀ x, x ∈ l ↔ x ∈ m) → l = m
  | [], [], _, _, _ => rfl
  | [], b :: m, _, _, h => by have := (h b).2 (by simp); simp at this
  | a :: l, [], _, _, h => by have := (h a).1 (by simp); simp at this
  | a :: l, b :: m, hl, hm, h => by
    rw [List.pairwise_cons] at hl hm
    have e : a = b := by
      have h1 := (h a).1 (by simp)
      have h2 := (h b).2 (by simp)
      rcases List.mem_cons.1 h1 with h1 | h1
      · exact h1
      · rcases List.mem_cons.1 h2 with h2 | h2
        · exact h2.symm
        · have := hl.1 b h2; have := hm.1 a h1; omega
    subst e
    rw [sorted_ext hl.2 hm.2]
    intro x
    constructor
    · intro hx
      rcases List.mem_cons.1 ((h x).1 (List.mem_cons_of_mem _ hx)) with e | h1
      · have := hl.1 x hx; omega
      · exact h1
    · intro hx
      rcases List.mem_cons.1 ((h x).2 (List.mem_cons_of_mem _ hx)) with e | h1
      · have := hm.1 x hx; omega
      · exact h1

def ascL (l : List Int) : Prop := l.Pairwise (· < ·)
theorem asc_pw {l : List Int} {b : Int} (h : ∀ i, i < l.length → asc l b i = true) : ascL l := by
  unfold ascL
  have key : ∀ d i (hi : i + d + 1 < l.length), l[i] < l[i + d + 1] := by
    intro d
    induction d with
    | zero =>
      intro i hi
      have := h (i + 1) hi
      have hi' : i < l.length := by omega
      simp [asc, wi, List.getD, hi'] at this
      have := this.2
      simpa [getD_get hi, show i + 1 < l.length from hi] using this
    | succ d ih =>
      intro i hi
      have h1 := ih i (by omega)
      have := h (i + d + 1 + 1) hi
      have hi' : i + d + 1 < l.length := by omega
      simp only [asc, Bool.and_eq_true, Bool.or_eq_true, decide_eq_true_eq] at this
      rw [show i + d + 1 + 1 - 1 = i + d + 1 by omega, getD_get hi', getD_get (show i + d + 1 + 1 < l.length from hi)] at this
      have h3 : l[i + d + 1] < l[i + d + 1 + 1] := by
        rcases this.2 with h3 | h3
        · omega
        · exact h3
      have h4 : l[i + (d + 1) + 1] = l[i + d + 1 + 1] := rfl
      rw [h4]; omega
  rw [List.pairwise_iff_getElem]
  intro i j hi hj hij
  have := key (j - i - 1) i (by omega)
  have e : i + (j - i - 1) + 1 = j := by omega
  simpa only [e] using this
theorem asc_of {l : List Int} {b : Int} (hpw : ascL l) (h : ∀ x ∈ l, 0 ≤ x ∧ x < b) : ∀ i, i < l.length → asc l b i = true := by
  intro i hi
  have h1 := h _ (List.getElem_mem hi)
  simp only [asc, wi, Bool.and_eq_true, Bool.or_eq_true, decide_eq_true_eq, getD_get hi]
  refine ⟨⟨h1.1, by omega⟩, ?_⟩
  by_cases h0 : i = 0
  · exact .inl h0
  · right
    rw [getD_get (show i - 1 < l.length by omega)]
    exact List.pairwise_iff_getElem.1 hpw (i - 1) i (by omega) hi (by omega)

theorem renB_asc {B : List Bool} {l : List Int} (h : ascL l) (h0 : ∀ x ∈ l, 0 ≤ x) : ascL (renB B l) := by
  unfold renB ascL
  rw [List.pairwise_map]
  refine List.Pairwise.imp_of_mem ?_ (List.Pairwise.filter _ h)
  intro a b ha hb hab
  rw [List.mem_filter] at ha hb
  have := h0 a ha.1
  have := rank_lt (B := B) (a := a.toNat) (b := b.toNat) ha.2 (by omega)
  unfold rankB
  omega

/-- The new numbers, as the reference finds them. -/
theorem ren_eq {B : List Bool} {n : Nat} {l : List Int} (h : ascL l) (hl : ∀ x ∈ l, 0 ≤ x ∧ x < n) :
    ((List.range (leftB B n).length).filter fun i => decide (((leftB B n).getD i 0 : Int) ∈ l)).map (fun i : Nat => (i : Int)) = renB B l := by
  refine sorted_ext ?_ (renB_asc h fun x hx => (hl x hx).1) fun x => ?_
  · rw [List.pairwise_map]
    exact List.Pairwise.imp (fun h => by omega) (List.Pairwise.filter _ (List.pairwise_lt_range (n := (leftB B n).length)))
  · simp only [List.mem_map, List.mem_filter, List.mem_range, decide_eq_true_eq, renB]
    constructor
    · rintro ⟨i, ⟨hi, hm⟩, rfl⟩
      rw [getD_get hi] at hm
      refine ⟨_, ⟨hm, ?_⟩, ?_⟩
      · simpa using (leftB_mem hi).2
      · simp [rankB, rank_left hi]
    · rintro ⟨a, ⟨ha, hb⟩, rfl⟩
      obtain ⟨h1, h2⟩ := leftB_rank B (n := n) hb (by have := hl a ha; omega)
      refine ⟨(leftB B a.toNat).length, ⟨h1, ?_⟩, rfl⟩
      rw [getD_get h1, h2, Int.toNat_of_nonneg (hl a ha).1]
      exact ha

/-- With some jobs alone a valid program stays valid. -/
theorem sub_jobs {p : ApiProgram} {B : List Bool} : (subP p B).Jobs.length = (leftB B p.Jobs.length).length := by simp [subP]
theorem sub_jobAt {p : ApiProgram} {B : List Bool} {a : Nat} (ha : B.getD a false = true) (hn : a < p.Jobs.length) : jobAt (subP p B) (rankB B a) = subJob B (jobAt p a) := by
  obtain ⟨h1, h2⟩ := leftB_rank B ha hn
  unfold jobAt rankB
  rw [Int.toNat_natCast, Int.toNat_natCast, getD_get (by rw [sub_jobs]; exact h1)]
  simp [subP, h2, jobAt]
theorem sub_valid {p : ApiProgram} (hv : valid p = true) (B : List Bool) : valid (subP p B) = true := by
  have hp := VP_of hv
  simp only [valid, Bool.and_eq_true, range_all] at hv ⊢
  obtain ⟨⟨⟨⟨h1, h2⟩, h3⟩, h4⟩, h5⟩ := hv
  refine ⟨⟨⟨⟨h1, h2⟩, ?_⟩, h4⟩, ?_⟩
  · have := of_decide_eq_true h3
    have h := leftB_len B p.Jobs.length
    rw [sub_jobs]
    exact decide_eq_true (by omega)
  · intro i hi
    rw [sub_jobs] at hi
    have e : (subP p B).Jobs.getD i default = subJob B (jobAt p ((leftB B p.Jobs.length)[i] : Nat)) := by
      rw [getD_get (show i < (subP p B).Jobs.length by rw [sub_jobs]; exact hi)]
      simp [subP]
    rw [e, sub_jobs]
    obtain ⟨hm1, hm2⟩ := leftB_mem hi
    have hg := hp.job _ hm1
    have ej : jobAt p ((leftB B p.Jobs.length)[i] : Nat) = p.Jobs[(leftB B p.Jobs.length)[i]] := by unfold jobAt; rw [Int.toNat_natCast, getD_get hm1]
    rw [ej]
    have vj := VJ_of hg
    simp only [goodJob, Bool.and_eq_true, range_all, Bool.not_eq_true', decide_eq_false_iff_not] at hg ⊢
    obtain ⟨⟨g1, g2⟩, g3, g4⟩ := hg
    refine ⟨⟨g1, ?_⟩, ?_, ?_⟩
    · refine asc_of (renB_asc (asc_pw g2) fun x hx => (vj.after x hx).1) fun x hx => ?_
      simp only [subJob, renB, List.mem_map, List.mem_filter] at hx
      obtain ⟨a, ⟨ha, hb⟩, rfl⟩ := hx
      have hv := vj.after a ha
      have := rank_lt (B := B) (a := a.toNat) (b := (leftB B p.Jobs.length)[i]) hb (by omega)
      rw [rank_left hi] at this
      unfold rankB
      omega
    · refine asc_of (renB_asc (asc_pw g3) fun x hx => (vj.withh x hx).1) fun x hx => ?_
      simp only [subJob, renB, List.mem_map, List.mem_filter] at hx
      obtain ⟨a, ⟨ha, hb⟩, rfl⟩ := hx
      have hv := vj.withh a ha
      have := rank_lt (B := B) (a := a.toNat) (b := p.Jobs.length) hb (by omega)
      unfold rankB
      omega
    · intro hx
      simp only [subJob, renB, List.mem_map, List.mem_filter] at hx
      obtain ⟨a, ⟨ha, hb⟩, e2⟩ := hx
      have hv := vj.withh a ha
      obtain ⟨h6, h7⟩ := leftB_rank B (n := p.Jobs.length) hb (by omega)
      unfold rankB at e2
      have e3 : (leftB B a.toNat).length = i := by omega
      simp only [e3] at h7
      omega
end Go.Am
