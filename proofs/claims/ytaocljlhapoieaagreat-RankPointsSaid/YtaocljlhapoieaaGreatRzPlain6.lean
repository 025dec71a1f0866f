/- The sort of the lines; the reports, each once. -/
import Derived.Test.YtaocljlhapoieaaGreatRzPlain5
namespace Go.Am

section line
variable {cmp : bJ → bJ → Option Int} {ok : bJ → Prop} {le : bJ → bJ → Prop}
end line

/-- What is left of a row when equal neighbours are one. -/
def oN (p : aD) : List aD → List aD
  | [] => []
  | y :: t => if y = p then oN p t else y :: oN y t
def hO : List aD → List aD
  | [] => []
  | x :: t => x :: oN x t
theorem aDx (again : Int → List aD → Option (List aD)) {k0 : Nat} : ∀ (t : List aD) (p : aD) (W X : List aD) (k2 k : Nat), 1 ≤ k2 → W.length + X.length + 1 = k0 + k2 → k0 ≤ W.length → (W ++ X ++ p :: t).length < 4611686018427387904 → t.length < k →
    eD again (k0 : Nat) k (W.length : Nat) (k2 : Nat) (W ++ X ++ p :: t) = some (W ++ oN p t) := by
  intro t
  induction t with
  | nil =>
    intro p W X k2 k h1 h2 h3 hb hk
    obtain ⟨k, rfl⟩ : ∃ q, k = q + 1 := ⟨k - 1, by omega⟩
    simp only [List.length_append, List.length_cons, List.length_nil] at hb
    have t0 : ((k0 : Nat) : Int).toNat = k0 := rfl
    have t1 : ((W.length : Nat) : Int).toNat = W.length := rfl
    have hlt : decide ((k2 : Int) < (((W ++ X ++ [p]).drop k0).length : Int)) = false := decide_eq_false (by simp; omega)
    have c1 : (decide ((0 : Int) ≤ (W.length : Int)) && decide ((W.length : Int) ≤ ((W ++ X ++ [p]).length : Int))) = true := by simp; omega
    have c2 : decide (W.length ≤ (W ++ X ++ [p]).length) = true := by simp
    have c3 : decide ((0 : Int) ≤ (W.length : Int)) = true := by simp
    simp only [eD, t0, hlt, cond_false, kR]
    rw [c1, t1, c2, c3]
    simp [chk, oN]
  | cons y t ih =>
    intro p W X k2 k h1 h2 h3 hb hk
    obtain ⟨k, rfl⟩ : ∃ q, k = q + 1 := ⟨k - 1, by omega⟩
    simp only [List.length_append, List.length_cons] at hb hk
    have t0 : ((k0 : Nat) : Int).toNat = k0 := rfl
    have t1 : ((W.length : Nat) : Int).toNat = W.length := rfl
    have hlt : decide ((k2 : Int) < (((W ++ X ++ p :: y :: t).drop k0).length : Int)) = true := decide_eq_true (by simp; omega)
    have ed : (W ++ X ++ p :: y :: t).drop k0 = (W ++ X).drop k0 ++ p :: y :: t := by rw [List.drop_append_of_le_length (by simp; omega)]
    have hdl : ((W ++ X).drop k0).length = k2 - 1 := by simp; omega
    have i1 : idx ((W ++ X ++ p :: y :: t).drop k0) (k2 : Nat) = some y := by rw [ed]; exact rY (by rw [hdl]; omega)
    have i2 : idx ((W ++ X ++ p :: y :: t).drop k0) (w64 ((k2 : Int) - 1)) = some p := by rw [aCn (by omega) (by omega), ed]; exact lZ (by rw [hdl])
    simp only [eD, t0, hlt, cond_true, i1, i2, Option.bind_some, cU (show k2 < 9223372036854775807 by omega)]
    by_cases hyp : y = p
    · subst hyp
      have := ih y W (X ++ [y]) (k2 + 1) k (by omega) (by simp; omega) h3 (by simp only [List.length_append, List.length_cons, List.length_nil]; omega) (by omega)
      have e1 : W ++ (X ++ [y]) ++ y :: t = W ++ X ++ y :: y :: t := by simp
      rw [e1] at this
      rw [decide_eq_true rfl, Bool.not_true, cond_false, this]
      simp [oN]
    · have hd : (!decide (y = p)) = true := by rw [decide_eq_false hyp]; rfl
      have i3 : ∃ z, idx (W ++ X ++ p :: y :: t) (W.length : Nat) = some z := ⟨_, dD (by simp; omega)⟩
      obtain ⟨z, i3⟩ := i3
      rw [hd, cond_true, i3, Option.bind_some, t1, cU (by omega)]
      obtain ⟨X', e2⟩ : ∃ X', (W ++ X ++ p :: y :: t).set W.length y = (W ++ [y]) ++ X' ++ y :: t ∧ X'.length = X.length := by
        cases X with
        | nil => exact ⟨[], by simp, rfl⟩
        | cons x X => exact ⟨X ++ [p], by simp, by simp⟩
      rw [e2.1]
      have := ih y (W ++ [y]) X' (k2 + 1) k (by omega) (by rw [List.length_append, e2.2]; simp; omega) (by simp; omega) (by simp only [List.length_append, List.length_cons, List.length_nil, e2.2]; omega) (by omega)
      have e3 : (W ++ [y]).length = W.length + 1 := by simp
      rw [e3] at this
      rw [this]
      simp [oN, hyp]
theorem aBp (s : List aD) (hb : s.length < 4611686018427387904) : gY s = some (hO s) := by
  have main : ∀ (t A : List aD) (p : aD) (k : Nat), t.length < k → (A ++ p :: t).length < 4611686018427387904 → dF k ((A.length + 1 : Nat) : Int) (A ++ p :: t) = some (A ++ p :: oN p t) := by
    intro t
    induction t with
    | nil =>
      intro A p k hk hb
      obtain ⟨k, rfl⟩ : ∃ q, k = q + 1 := ⟨k - 1, by omega⟩
      have hlt : decide (((A.length + 1 : Nat) : Int) < ((A ++ [p]).length : Int)) = false := decide_eq_false (by simp)
      simp only [dF, hlt, cond_false, kP, oN]
    | cons y t ih =>
      intro A p k hk hb
      obtain ⟨k, rfl⟩ : ∃ q, k = q + 1 := ⟨k - 1, by omega⟩
      simp only [List.length_append, List.length_cons] at hb hk
      have hlt : decide (((A.length + 1 : Nat) : Int) < ((A ++ p :: y :: t).length : Int)) = true := decide_eq_true (by simp; omega)
      have i2 : w64 (((A.length + 1 : Nat) : Int) - 1) = (A.length : Int) := by rw [dC (by omega) (by omega)]; omega
      simp only [dF, hlt, cond_true, rY rfl, i2, lZ rfl, Option.bind_some]
      by_cases hyp : y = p
      · subst hyp
        have c1 : (decide ((0 : Int) ≤ ((A.length + 1 : Nat) : Int)) && decide (((A.length + 1 : Nat) : Int) ≤ ((A ++ y :: y :: t).length : Int))) = true := by simp; omega
        rw [decide_eq_true rfl, cond_true, c1]
        simp only [chk, cond_true, Option.bind_some]
        have := aDx (dF k) (k0 := A.length + 1) t y (A ++ [y]) [] 1 BIG (Nat.le_refl _) (by simp) (by simp) (by simp only [List.length_append, List.length_cons, List.length_nil]; omega) (dO (by omega))
        have e3 : (A ++ [y]).length = A.length + 1 := by simp
        have e4 : A ++ [y] ++ [] ++ y :: t = A ++ y :: y :: t := by simp
        rw [e3, e4] at this
        have e5 : ((1 : Nat) : Int) = 1 := rfl
        rw [e5] at this
        rw [this]
        simp [oN]
      · rw [decide_eq_false hyp, cond_false]
        unfold kQ
        rw [cU (by omega)]
        have := ih (A ++ [p]) y k (by omega) (by simp only [List.length_append, List.length_cons, List.length_nil]; omega)
        have e3 : (A ++ [p]).length = A.length + 1 := by simp
        have e4 : A ++ [p] ++ y :: t = A ++ p :: y :: t := by simp
        rw [e3, e4] at this
        rw [this]
        simp [oN, hyp]
  unfold gY
  match s, hb with
  | [], _ => simp [hO]
  | x :: t, hb =>
    by_cases ht : t = []
    · subst ht; simp [hO, oN]
    · have hl : 0 < t.length := List.length_pos_iff.2 ht
      have hd : decide (((x :: t).length : Int) < 2) = false := decide_eq_false (by simp; omega)
      rw [hd, cond_false]
      have := main t [] x BIG (dO (by simp at hb; omega)) (by simpa using hb)
      simp only [List.length_nil, List.nil_append, Nat.zero_add] at this
      have e5 : ((1 : Nat) : Int) = 1 := rfl
      rw [e5] at this
      rw [this]; rfl
theorem aGc (p x : aD) (t : List aD) : (x = p ∨ x ∈ oN p t) ↔ (x = p ∨ x ∈ t) := by
  induction t generalizing p with
  | nil => rfl
  | cons y t ih =>
    simp only [oN, List.mem_cons]
    by_cases h : y = p
    · subst h
      rw [if_pos rfl]
      have := ih y
      constructor
      · rintro (h | h)
        · exact .inl h
        · rcases this.1 (.inr h) with h | h
          · exact .inl h
          · exact .inr (.inr h)
      · rintro (h | h | h)
        · exact .inl h
        · exact .inl h
        · exact this.2 (.inr h)
    · rw [if_neg h, List.mem_cons]
      have := ih y
      constructor
      · rintro (h | h)
        · exact .inl h
        · exact .inr (this.1 h)
      · rintro (h | h)
        · exact .inl h
        · exact .inr (this.2 h)
theorem aCo (x : aD) (s : List aD) : x ∈ hO s ↔ x ∈ s := by
  cases s with
  | nil => rfl
  | cons p t => simp only [hO, List.mem_cons]; exact aGc p x t
theorem aBy (p : aD) (t : List aD) : (oN p t).Sublist t := by
  induction t generalizing p with
  | nil => exact .slnil
  | cons y t ih =>
    simp only [oN]
    split
    · exact (ih p).cons _
    · exact (ih y).cons_cons _
/-- In a weakly ordered row without a clash, what is left is strictly ordered. -/
theorem yC (p : aD) (t : List aD) (hs : (p :: t).Pairwise fun x y => x.Id ≤ y.Id) (hcl : ∀ x ∈ p :: t, ∀ y ∈ p :: t, x.Id = y.Id → x = y) : (p :: oN p t).Pairwise fun x y => x.Id < y.Id := by
  induction t generalizing p with
  | nil => exact List.pairwise_singleton _ _
  | cons y t ih =>
    have h1 := List.pairwise_cons.1 hs
    have h2 := List.pairwise_cons.1 h1.2
    simp only [oN]
    by_cases h : y = p
    · subst h
      rw [if_pos rfl]
      exact ih y h1.2 (fun a ha b hb => hcl a (List.mem_cons_of_mem _ ha) b (List.mem_cons_of_mem _ hb))
    · rw [if_neg h]
      have h3 := ih y h1.2 (fun a ha b hb => hcl a (List.mem_cons_of_mem _ ha) b (List.mem_cons_of_mem _ hb))
      refine List.pairwise_cons.2 ⟨fun z hz => ?_, h3⟩
      have hpy : p.Id < y.Id := by
        have := h1.1 y (by simp)
        rcases Int.lt_or_eq_of_le this with h4 | h4
        · exact h4
        · exact absurd (hcl p (by simp) y (by simp) h4).symm h
      rcases List.mem_cons.1 hz with rfl | hz
      · exact hpy
      · exact Int.lt_trans hpy ((List.pairwise_cons.1 h3).1 z hz)
theorem sX {α : Type} {key : α → Int} : ∀ {xs ys : List α}, xs.Pairwise (fun x y => key x < key y) → ys.Pairwise (fun x y => key x < key y) → (∀ x, x ∈ xs ↔ x ∈ ys) → xs = ys
  | [], [], _, _, _ => rfl
  | [], y :: ys, _, _, h => by have := (h y).2 (by simp); simp at this
  | x :: xs, [], _, _, h => by have := (h x).1 (by simp); simp at this
  | x :: xs, y :: ys, h1, h2, h => by
    have a1 := List.pairwise_cons.1 h1
    have a2 := List.pairwise_cons.1 h2
    have hxy : x = y := by
      rcases List.mem_cons.1 ((h x).1 (by simp)) with e | e
      · exact e
      · rcases List.mem_cons.1 ((h y).2 (by simp)) with e2 | e2
        · exact e2.symm
        · have := a2.1 x e; have := a1.1 y e2; omega
    subst hxy
    have := sX a1.2 a2.2 fun z => by
      have hz := h z
      simp only [List.mem_cons] at hz
      constructor
      · intro hm
        rcases hz.1 (.inr hm) with e | e
        · have := a1.1 z hm; rw [e] at this; omega
        · exact e
      · intro hm
        rcases hz.2 (.inr hm) with e | e
        · have := a2.1 z hm; rw [e] at this; omega
        · exact e
    rw [this]

/-- The order of the Ids. -/
theorem aIi : oP (fun x y => oH x y) (fun x => 0 ≤ x.Id ∧ x.Id ≤ 99) (fun x y => x.Id ≤ y.Id) where
  run x y hx hy := ⟨x.Id - y.Id, by unfold oH; rw [dC (by omega) (by omega)], by omega⟩
  tot x y _ _ := by omega
  tr x y z _ _ _ h1 h2 := by omega
def rU (xs : List aD) : Prop := ∃ x ∈ xs, ∃ y ∈ xs, x.Id = y.Id ∧ x ≠ y
theorem aFf (zs : List aD) (hb : zs.length < 4611686018427387904) : ∀ (d i k : Nat), zs.length - i = d → d < k → 1 ≤ i → (∃ j, i ≤ j ∧ ∃ (h : j < zs.length), (zs[j]).Id = (zs[j - 1]'(by omega)).Id) ∧ gN zs k (i : Nat) = some ([], false) ∨
    (∀ j, i ≤ j → ∀ (h : j < zs.length), (zs[j]).Id ≠ (zs[j - 1]'(by omega)).Id) ∧ gN zs k (i : Nat) = some (zs, true) := by
  intro d
  induction d with
  | zero =>
    intro i k hd hk hi
    obtain ⟨k, rfl⟩ : ∃ q, k = q + 1 := ⟨k - 1, by omega⟩
    have hlt : decide ((i : Int) < (zs.length : Int)) = false := decide_eq_false (by omega)
    exact .inr ⟨fun j h1 h => by omega, by simp only [gN, hlt, cond_false, uB]⟩
  | succ d ih =>
    intro i k hd hk hi
    obtain ⟨k, rfl⟩ : ∃ q, k = q + 1 := ⟨k - 1, by omega⟩
    have hlt : decide ((i : Int) < (zs.length : Int)) = true := decide_eq_true (by omega)
    have hil : i < zs.length := by omega
    have i1 := dD (xs := zs) hil
    have i2 : idx zs (w64 ((i : Int) - 1)) = some (zs[i - 1]'(by omega)) := by rw [aCn (by omega) (by omega)]; exact dD (by omega)
    by_cases h : (zs[i]).Id = (zs[i - 1]'(by omega)).Id
    · refine .inl ⟨⟨i, Nat.le_refl _, hil, h⟩, ?_⟩
      simp only [gN, hlt, cond_true, i1, i2, Option.bind_some, decide_eq_true h]
    · have e : gN zs (k + 1) (i : Nat) = gN zs k ((i + 1 : Nat) : Int) := by
        simp only [gN, hlt, cond_true, i1, i2, Option.bind_some, decide_eq_false h, cond_false, cU (show i < 9223372036854775807 by omega)]
      rw [e]
      rcases ih (i + 1) k (by omega) (by omega) (by omega) with ⟨⟨j, h1, h2, h3⟩, h4⟩ | ⟨h1, h2⟩
      · exact .inl ⟨⟨j, by omega, h2, h3⟩, h4⟩
      · refine .inr ⟨fun j hj hjl => ?_, h2⟩
        rcases Nat.eq_or_lt_of_le hj with rfl | hj
        · exact h
        · exact h1 j hj hjl
theorem aAu (xs : List aD) (hid : ∀ x ∈ xs, 0 ≤ x.Id ∧ x.Id ≤ 99) (hb : xs.length ≤ 1000000) :
    (rU xs ∧ mN xs = some ([], false)) ∨ (¬ rU xs ∧ ∃ zs, mN xs = some (zs, true) ∧ zs.Pairwise (fun x y => x.Id < y.Id) ∧ (∀ x, x ∈ zs ↔ x ∈ xs) ∧ zs.length ≤ xs.length) := by
  obtain ⟨ys, hp, hs, hr⟩ := yJ aIi xs hid (by omega)
  have hyl : ys.length = xs.length := hp.length_eq
  have hcl : fB xs = some xs := by
    unfold fB
    rw [nL (by simp; omega)]; rfl
  have hmem : ∀ x, x ∈ hO ys ↔ x ∈ xs := fun x => (aCo x ys).trans hp.mem_iff
  have hlen : (hO ys).length ≤ ys.length := by
    cases ys with
    | nil => exact Nat.le_refl _
    | cons p t => simp only [hO, List.length_cons]; have := (aBy p t).length_le; omega
  have hws : (hO ys).Pairwise fun x y => x.Id ≤ y.Id := by
    cases ys with
    | nil => exact .nil
    | cons p t =>
      refine List.Pairwise.sublist ?_ hs
      exact (aBy p t).cons_cons _
  have e : mN xs = gN (hO ys) BIG 1 := by
    unfold mN
    rw [hcl, Option.bind_some, hr, Option.bind_some, aBp ys (by omega), Option.bind_some]
  rw [e]
  have e1 : ((1 : Nat) : Int) = 1 := rfl
  rcases aFf (hO ys) (by omega) _ 1 BIG rfl (dO (by omega)) (Nat.le_refl _) with ⟨⟨j, h1, h2, h3⟩, h4⟩ | ⟨h1, h2⟩
  · left
    refine ⟨Classical.byContradiction fun hn => ?_, by rw [← e1]; exact h4⟩
    have hcl2 : ∀ x ∈ ys, ∀ y ∈ ys, x.Id = y.Id → x = y := fun x hx y hy hxy => Classical.byContradiction fun hne => hn ⟨x, hp.mem_iff.1 hx, y, hp.mem_iff.1 hy, hxy, hne⟩
    cases ys with
    | nil => simp [hO] at h2
    | cons p t =>
      have hst := yC p t hs hcl2
      have := List.pairwise_iff_getElem.1 hst (j - 1) j (by simp only [hO] at h2; omega) (by simpa only [hO] using h2) (by omega)
      simp only [hO] at h3
      omega
  · by_cases hn : rU xs
    · exfalso
      obtain ⟨x, hx, y, hy, hxy, hne⟩ := hn
      have hst : (hO ys).Pairwise fun x y => x.Id < y.Id := by
        refine List.pairwise_iff_getElem.2 fun i j hi hj hij => ?_
        have a1 := List.pairwise_iff_getElem.1 hws
        have a2 := h1 j (by omega) hj
        have a3 := a1 (j - 1) j (by omega) hj (by omega)
        rcases Nat.eq_or_lt_of_le (show i ≤ j - 1 by omega) with rfl | h
        · omega
        · have := a1 i (j - 1) hi (by omega) h; omega
      obtain ⟨i, hi, rfl⟩ := List.getElem_of_mem ((hmem x).2 hx)
      obtain ⟨j, hj, rfl⟩ := List.getElem_of_mem ((hmem y).2 hy)
      have a1 := List.pairwise_iff_getElem.1 hst
      rcases Nat.lt_trichotomy i j with h | h | h
      · have := a1 i j hi hj h; omega
      · subst h; exact hne rfl
      · have := a1 j i hj hi h; omega
    · right
      refine ⟨hn, hO ys, by rw [← e1]; exact h2, ?_, hmem, by omega⟩
      have hcl2 : ∀ x ∈ ys, ∀ y ∈ ys, x.Id = y.Id → x = y := fun x hx y hy hxy => Classical.byContradiction fun hne => hn ⟨x, hp.mem_iff.1 hx, y, hp.mem_iff.1 hy, hxy, hne⟩
      cases ys with
      | nil => exact .nil
      | cons p t => exact yC p t hs hcl2
end Go.Am
