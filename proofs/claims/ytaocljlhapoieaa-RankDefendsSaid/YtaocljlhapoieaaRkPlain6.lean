/- The sort of the lines; the reports, each once. -/
import Derived.Test.YtaocljlhapoieaaRkPlain5
namespace Go.Am

section line
variable {cmp : aZ → aZ → Option Int} {ok : aZ → Prop} {le : aZ → aZ → Prop}
theorem aBy (hc : lS cmp ok le) (again : Int → List aZ → Option (List aZ)) {a b i : Int} {P : List aZ} (ha : a = P.length) (x : aZ) (hx : ok x) :
    ∀ (n : Nat) (L R : List aZ) (k : Nat), L.length = n → (∀ y ∈ L, ok y) → n < k → (P ++ L).length < 4611686018427387904 →
      ∃ L1 L2, L = L1 ++ L2 ∧ (∀ y ∈ L2, ¬ le y x) ∧ (∀ y, L1.getLast? = some y → le y x) ∧
        cT again a b cmp i k ((P ++ L).length : Nat) (P ++ L ++ x :: R) = again (w64 (i + 1)) (P ++ (L1 ++ x :: L2) ++ R) := by
  intro n
  induction n with
  | zero =>
    intro L R k hl hok hk hb
    have : L = [] := List.length_eq_zero_iff.1 hl
    subst this
    obtain ⟨k, rfl⟩ : ∃ q, k = q + 1 := ⟨k - 1, by omega⟩
    refine ⟨[], [], rfl, by simp, by simp, ?_⟩
    simp only [cT, ha, List.append_nil, Int.lt_irrefl, decide_false, cond_false, Option.bind_some, fB, fA, List.nil_append]
    simp
  | succ n ih =>
    intro L R k hl hok hk hb
    obtain ⟨k, rfl⟩ : ∃ q, k = q + 1 := ⟨k - 1, by omega⟩
    rcases sM L with rfl | ⟨L', y, rfl⟩
    · simp at hl
    simp only [List.length_append, List.length_singleton] at hl hb
    have hoy : ok y := hok y (by simp)
    have hA : P ++ (L' ++ [y]) ++ x :: R = (P ++ L') ++ y :: x :: R := by simp
    have hj : ((P ++ (L' ++ [y])).length : Nat) = (P ++ L').length + 1 := by simp [Nat.add_assoc]
    have hAl : (P ++ L').length = P.length + L'.length := by simp
    have hlt : decide (a < (((P ++ L').length + 1 : Nat) : Int)) = true := decide_eq_true (by omega)
    have hw : w64 ((((P ++ L').length + 1 : Nat) : Int) - 1) = ((P ++ L').length : Int) := by rw [cR (by omega) (by omega)]; omega
    obtain ⟨r, hr, hlr⟩ := hc.run x y hx hoy
    rw [hA, hj]
    by_cases h : r < 0
    · obtain ⟨L1, L2, rfl, h2, h1, he⟩ := ih L' (y :: R) k (by omega) (fun z hz => hok z (by simp [hz])) (by omega) (by omega)
      refine ⟨L1, L2 ++ [y], by simp, fun z hz => ?_, h1, ?_⟩
      · rcases List.mem_append.1 hz with hz | hz
        · exact h2 z hz
        · simp at hz; subst hz; exact hlr.1 h
      · simp only [cT, hlt, cond_true, oF rfl, hw, iX rfl, Option.bind_some, hr, decide_eq_true h]
        have hn : (((P ++ (L1 ++ L2)).length + 1 : Nat) : Int).toNat = (P ++ (L1 ++ L2)).length + 1 := rfl
        have hn2 : (((P ++ (L1 ++ L2)).length : Nat) : Int).toNat = (P ++ (L1 ++ L2)).length := rfl
        rw [hn, hn2, vK rfl, iX rfl, Option.bind_some, pZ rfl, he]
        simp
    · refine ⟨L' ++ [y], [], by simp, by simp, fun z hz => ?_, ?_⟩
      · simp at hz; subst hz; exact Classical.byContradiction fun hn => h (hlr.2 hn)
      · simp only [cT, hlt, cond_true, oF rfl, hw, iX rfl, Option.bind_some, hr, decide_eq_false h, cond_false, fB, fA]
        simp

theorem yE (hc : lS cmp ok le) (P M S : List aZ) (hok : ∀ y ∈ M, ok y) (hb : (P ++ M).length < 4611686018427387904) :
    ∃ M', M'.Perm M ∧ M'.Pairwise le ∧ dG (P ++ M ++ S) (P.length : Nat) ((P ++ M).length : Nat) cmp = some (P ++ M' ++ S) := by
  have main : ∀ (n : Nat) (L R : List aZ) (k : Nat), R.length = n → n < k → (∀ y ∈ L ++ R, ok y) → (P ++ L ++ R).length < 4611686018427387904 → L.Pairwise le →
      ∃ M', M'.Perm (L ++ R) ∧ M'.Pairwise le ∧ cG (P.length : Nat) ((P ++ L ++ R).length : Nat) cmp k ((P ++ L).length : Nat) (P ++ L ++ R ++ S) = some (P ++ M' ++ S) := by
    intro n
    induction n with
    | zero =>
      intro L R k hl hk hok hb hs
      have : R = [] := List.length_eq_zero_iff.1 hl
      subst this
      obtain ⟨k, rfl⟩ : ∃ q, k = q + 1 := ⟨k - 1, by omega⟩
      refine ⟨L, by simp, hs, ?_⟩
      simp [cG, eZ]
    | succ n ih =>
      intro L R k hl hk hok hb hs
      obtain ⟨k, rfl⟩ : ∃ q, k = q + 1 := ⟨k - 1, by omega⟩
      match R, hl with
      | x :: R, hl =>
        simp only [List.length_cons] at hl
        have hbl : (P ++ L ++ x :: R).length = P.length + L.length + (R.length + 1) := by simp [Nat.add_assoc]
        have hox : ok x := hok x (by simp)
        obtain ⟨L1, L2, rfl, h2, h1, he⟩ := aBy hc (cG (P.length : Nat) ((P ++ L ++ x :: R).length : Nat) cmp k) (b := ((P ++ L ++ x :: R).length : Nat)) (i := ((P ++ L).length : Nat)) (a := (P.length : Nat)) rfl x hox L.length L (R ++ S) BIG rfl
          (fun y hy => hok y (by simp [hy])) (dB (by omega)) (by simp only [List.length_append]; omega)
        have hlt : decide (((P ++ (L1 ++ L2)).length : Int) < ((P ++ (L1 ++ L2) ++ x :: R).length : Int)) = true := decide_eq_true (by simp only [List.length_append, List.length_cons]; omega)
        obtain ⟨M', hp, hss, hr⟩ := ih (L1 ++ x :: L2) R k (by omega) (by omega) (fun y hy => hok y (by
            simp only [List.mem_append, List.mem_cons] at hy ⊢
            rcases hy with (h | h | h) | h <;> simp [h])) (by simp only [List.length_append, List.length_cons] at hb ⊢; omega)
            (zB hc hox hs (fun y hy => hok y (by simp only [List.mem_append] at hy ⊢; exact .inl hy)) h2 h1)
        refine ⟨M', hp.trans ?_, hss, ?_⟩
        · have : ((L1 ++ x :: L2) ++ R).Perm (L1 ++ L2 ++ x :: R) := by
            rw [List.append_assoc, List.append_assoc, List.cons_append]
            exact List.Perm.append_left _ (List.perm_middle.symm)
          exact this
        · simp only [cG, hlt, cond_true]
          have e1 : P ++ (L1 ++ L2) ++ x :: R ++ S = P ++ (L1 ++ L2) ++ x :: (R ++ S) := by simp
          rw [e1, he, cE (by simp only [List.length_append, List.length_cons] at hb ⊢; omega)]
          have e2 : ((P ++ (L1 ++ L2) ++ x :: R).length : Nat) = (P ++ (L1 ++ x :: L2) ++ R).length := by simp only [List.length_append, List.length_cons]; omega
          have e3 : ((P ++ (L1 ++ L2)).length + 1 : Nat) = (P ++ (L1 ++ x :: L2)).length := by simp only [List.length_append, List.length_cons]; omega
          rw [e2, e3]
          have e4 : P ++ (L1 ++ x :: L2) ++ (R ++ S) = P ++ (L1 ++ x :: L2) ++ R ++ S := by simp
          rw [e4]
          exact hr
  match M, hok, hb with
  | [], hok, hb =>
    refine ⟨[], .refl _, .nil, ?_⟩
    have hlt : decide (((P.length + 1 : Nat) : Int) < (P.length : Int)) = false := decide_eq_false (by omega)
    unfold dG
    simp only [List.append_nil] at hb ⊢
    rw [xX, cE (by omega)]
    generalize 18446744073709551615 = kk
    simp only [cG, hlt, cond_false, eZ]
  | x :: M, hok, hb =>
    simp only [List.length_append, List.length_cons] at hb
    obtain ⟨M', h1, h2, h3⟩ := main M.length [x] M BIG rfl (dB (by omega)) (fun y hy => hok y (by simpa using hy)) (by simp only [List.length_append, List.length_cons, List.length_nil]; omega) (List.pairwise_singleton _ _)
    refine ⟨M', by simpa using h1, h2, ?_⟩
    unfold dG
    rw [cE (by omega)]
    have e1 : (P ++ [x]).length = P.length + 1 := by simp
    have e2 : P ++ [x] ++ M = P ++ x :: M := by simp
    rw [e1, e2] at h3
    exact h3
theorem aAm (hc : lS cmp ok le) (xs : List aZ) (hok : ∀ y ∈ xs, ok y) (hb : xs.length ≤ 12) : ∃ ys, ys.Perm xs ∧ ys.Pairwise le ∧ gU xs cmp = some ys := by
  obtain ⟨M', h1, h2, h3⟩ := yE hc [] xs [] hok (by simp; omega)
  simp only [List.nil_append, List.append_nil, List.length_nil] at h3
  refine ⟨M', h1, h2, ?_⟩
  have e1 : IntKind.u64.wrap (xs.length : Int) = (xs.length : Int) := by
    simp only [IntKind.wrap, IntKind.signed, IntKind.bits]
    simp
    omega
  have e2 : pK (xs.length : Int) = some ((Lib.bitLen (xs.length : Int).toNat : Nat) : Int) := by
    unfold pK xH
    rw [if_pos ⟨by omega, by omega⟩]
  have e3 : w64 ((xs.length : Int) - 0) = (xs.length : Int) := by rw [cR (by omega) (by omega)]; omega
  have hd : decide ((xs.length : Int) ≤ 12) = true := decide_eq_true (by omega)
  have h3' : dG xs 0 (xs.length : Int) cmp = some M' := h3
  unfold gU gI
  rw [e1, e2, Option.bind_some, xX]
  generalize 18446744073709551615 = kk
  simp only [fV, e3, hd, cond_true, h3', Option.bind_some]
end line

/-- What is left of a row when equal neighbours are one. -/
def nV (p : aB) : List aB → List aB
  | [] => []
  | y :: t => if y = p then nV p t else y :: nV y t
def gX : List aB → List aB
  | [] => []
  | x :: t => x :: nV x t
theorem aDe (again : Int → List aB → Option (List aB)) {k0 : Nat} : ∀ (t : List aB) (p : aB) (W X : List aB) (k2 k : Nat), 1 ≤ k2 → W.length + X.length + 1 = k0 + k2 → k0 ≤ W.length → (W ++ X ++ p :: t).length < 4611686018427387904 → t.length < k →
    dX again (k0 : Nat) k (W.length : Nat) (k2 : Nat) (W ++ X ++ p :: t) = some (W ++ nV p t) := by
  intro t
  induction t with
  | nil =>
    intro p W X k2 k h1 h2 h3 hb hk
    obtain ⟨k, rfl⟩ : ∃ q, k = q + 1 := ⟨k - 1, by omega⟩
    simp only [List.length_append, List.length_cons, List.length_nil] at hb
    have t0 : ((k0 : Nat) : Int).toNat = k0 := rfl
    have t1 : ((W.length : Nat) : Int).toNat = W.length := rfl
    have hlt : decide ((k2 : Int) < (((W ++ X ++ [p]).drop k0).length : Int)) = false := decide_eq_false (by simp; omega)
    have c1 : (decide ((0 : Int) ≤ (W.length : Int)) && decide ((W.length : Int) ≤ ((W ++ X ++ [p]).length : Int))) = true := by simp; omega
    have c2 : decide (W.length ≤ (W ++ X ++ [p]).length) = true := by simp
    have c3 : decide ((0 : Int) ≤ (W.length : Int)) = true := by simp
    simp only [dX, t0, hlt, cond_false, kA]
    rw [c1, t1, c2, c3]
    simp [chk, nV]
  | cons y t ih =>
    intro p W X k2 k h1 h2 h3 hb hk
    obtain ⟨k, rfl⟩ : ∃ q, k = q + 1 := ⟨k - 1, by omega⟩
    simp only [List.length_append, List.length_cons] at hb hk
    have t0 : ((k0 : Nat) : Int).toNat = k0 := rfl
    have t1 : ((W.length : Nat) : Int).toNat = W.length := rfl
    have hlt : decide ((k2 : Int) < (((W ++ X ++ p :: y :: t).drop k0).length : Int)) = true := decide_eq_true (by simp; omega)
    have ed : (W ++ X ++ p :: y :: t).drop k0 = (W ++ X).drop k0 ++ p :: y :: t := by rw [List.drop_append_of_le_length (by simp; omega)]
    have hdl : ((W ++ X).drop k0).length = k2 - 1 := by simp; omega
    have i1 : idx ((W ++ X ++ p :: y :: t).drop k0) (k2 : Nat) = some y := by rw [ed]; exact oF (by rw [hdl]; omega)
    have i2 : idx ((W ++ X ++ p :: y :: t).drop k0) (w64 ((k2 : Int) - 1)) = some p := by rw [aBv (by omega) (by omega), ed]; exact iX (by rw [hdl])
    simp only [dX, t0, hlt, cond_true, i1, i2, Option.bind_some, cE (show k2 < 9223372036854775807 by omega)]
    by_cases hyp : y = p
    · subst hyp
      have := ih y W (X ++ [y]) (k2 + 1) k (by omega) (by simp; omega) h3 (by simp only [List.length_append, List.length_cons, List.length_nil]; omega) (by omega)
      have e1 : W ++ (X ++ [y]) ++ y :: t = W ++ X ++ y :: y :: t := by simp
      rw [e1] at this
      rw [decide_eq_true rfl, Bool.not_true, cond_false, this]
      simp [nV]
    · have hd : (!decide (y = p)) = true := by rw [decide_eq_false hyp]; rfl
      have i3 : ∃ z, idx (W ++ X ++ p :: y :: t) (W.length : Nat) = some z := ⟨_, dK (by simp; omega)⟩
      obtain ⟨z, i3⟩ := i3
      rw [hd, cond_true, i3, Option.bind_some, t1, cE (by omega)]
      obtain ⟨X', e2⟩ : ∃ X', (W ++ X ++ p :: y :: t).set W.length y = (W ++ [y]) ++ X' ++ y :: t ∧ X'.length = X.length := by
        cases X with
        | nil => exact ⟨[], by simp, rfl⟩
        | cons x X => exact ⟨X ++ [p], by simp, by simp⟩
      rw [e2.1]
      have := ih y (W ++ [y]) X' (k2 + 1) k (by omega) (by rw [List.length_append, e2.2]; simp; omega) (by simp; omega) (by simp only [List.length_append, List.length_cons, List.length_nil, e2.2]; omega) (by omega)
      have e3 : (W ++ [y]).length = W.length + 1 := by simp
      rw [e3] at this
      rw [this]
      simp [nV, hyp]
theorem aAy (s : List aB) (hb : s.length < 4611686018427387904) : gT s = some (gX s) := by
  have main : ∀ (t A : List aB) (p : aB) (k : Nat), t.length < k → (A ++ p :: t).length < 4611686018427387904 → dD k ((A.length + 1 : Nat) : Int) (A ++ p :: t) = some (A ++ p :: nV p t) := by
    intro t
    induction t with
    | nil =>
      intro A p k hk hb
      obtain ⟨k, rfl⟩ : ∃ q, k = q + 1 := ⟨k - 1, by omega⟩
      have hlt : decide (((A.length + 1 : Nat) : Int) < ((A ++ [p]).length : Int)) = false := decide_eq_false (by simp)
      simp only [dD, hlt, cond_false, jY, nV]
    | cons y t ih =>
      intro A p k hk hb
      obtain ⟨k, rfl⟩ : ∃ q, k = q + 1 := ⟨k - 1, by omega⟩
      simp only [List.length_append, List.length_cons] at hb hk
      have hlt : decide (((A.length + 1 : Nat) : Int) < ((A ++ p :: y :: t).length : Int)) = true := decide_eq_true (by simp; omega)
      have i2 : w64 (((A.length + 1 : Nat) : Int) - 1) = (A.length : Int) := by rw [cR (by omega) (by omega)]; omega
      simp only [dD, hlt, cond_true, oF rfl, i2, iX rfl, Option.bind_some]
      by_cases hyp : y = p
      · subst hyp
        have c1 : (decide ((0 : Int) ≤ ((A.length + 1 : Nat) : Int)) && decide (((A.length + 1 : Nat) : Int) ≤ ((A ++ y :: y :: t).length : Int))) = true := by simp; omega
        rw [decide_eq_true rfl, cond_true, c1]
        simp only [chk, cond_true, Option.bind_some]
        have := aDe (dD k) (k0 := A.length + 1) t y (A ++ [y]) [] 1 BIG (Nat.le_refl _) (by simp) (by simp) (by simp only [List.length_append, List.length_cons, List.length_nil]; omega) (dB (by omega))
        have e3 : (A ++ [y]).length = A.length + 1 := by simp
        have e4 : A ++ [y] ++ [] ++ y :: t = A ++ y :: y :: t := by simp
        rw [e3, e4] at this
        have e5 : ((1 : Nat) : Int) = 1 := rfl
        rw [e5] at this
        rw [this]
        simp [nV]
      · rw [decide_eq_false hyp, cond_false]
        unfold jZ
        rw [cE (by omega)]
        have := ih (A ++ [p]) y k (by omega) (by simp only [List.length_append, List.length_cons, List.length_nil]; omega)
        have e3 : (A ++ [p]).length = A.length + 1 := by simp
        have e4 : A ++ [p] ++ y :: t = A ++ p :: y :: t := by simp
        rw [e3, e4] at this
        rw [this]
        simp [nV, hyp]
  unfold gT
  match s, hb with
  | [], _ => simp [gX]
  | x :: t, hb =>
    by_cases ht : t = []
    · subst ht; simp [gX, nV]
    · have hl : 0 < t.length := List.length_pos_iff.2 ht
      have hd : decide (((x :: t).length : Int) < 2) = false := decide_eq_false (by simp; omega)
      rw [hd, cond_false]
      have := main t [] x BIG (dB (by simp at hb; omega)) (by simpa using hb)
      simp only [List.length_nil, List.nil_append, Nat.zero_add] at this
      have e5 : ((1 : Nat) : Int) = 1 := rfl
      rw [e5] at this
      rw [this]; rfl
theorem aEz (p x : aB) (t : List aB) : (x = p ∨ x ∈ nV p t) ↔ (x = p ∨ x ∈ t) := by
  induction t generalizing p with
  | nil => rfl
  | cons y t ih =>
    simp only [nV, List.mem_cons]
    by_cases h : y = p
    · subst h
      rw [if_pos rfl]
      have := ih y
      constructor
      · rintro (h | h)
        · exact .inl h
        · rcases this.1 (.inr h) with h | h
          · exact .inl h
          · exact .inr (.inr h)
      · rintro (h | h | h)
        · exact .inl h
        · exact .inl h
        · exact this.2 (.inr h)
    · rw [if_neg h, List.mem_cons]
      have := ih y
      constructor
      · rintro (h | h)
        · exact .inl h
        · exact .inr (this.1 h)
      · rintro (h | h)
        · exact .inl h
        · exact .inr (this.2 h)
theorem aBw (x : aB) (s : List aB) : x ∈ gX s ↔ x ∈ s := by
  cases s with
  | nil => rfl
  | cons p t => simp only [gX, List.mem_cons]; exact aEz p x t
theorem aBf (p : aB) (t : List aB) : (nV p t).Sublist t := by
  induction t generalizing p with
  | nil => exact .slnil
  | cons y t ih =>
    simp only [nV]
    split
    · exact (ih p).cons _
    · exact (ih y).cons_cons _
/-- In a weakly ordered row without a clash, what is left is strictly ordered. -/
theorem xO (p : aB) (t : List aB) (hs : (p :: t).Pairwise fun x y => x.Id ≤ y.Id) (hcl : ∀ x ∈ p :: t, ∀ y ∈ p :: t, x.Id = y.Id → x = y) : (p :: nV p t).Pairwise fun x y => x.Id < y.Id := by
  induction t generalizing p with
  | nil => exact List.pairwise_singleton _ _
  | cons y t ih =>
    have h1 := List.pairwise_cons.1 hs
    have h2 := List.pairwise_cons.1 h1.2
    simp only [nV]
    by_cases h : y = p
    · subst h
      rw [if_pos rfl]
      exact ih y h1.2 (fun a ha b hb => hcl a (List.mem_cons_of_mem _ ha) b (List.mem_cons_of_mem _ hb))
    · rw [if_neg h]
      have h3 := ih y h1.2 (fun a ha b hb => hcl a (List.mem_cons_of_mem _ ha) b (List.mem_cons_of_mem _ hb))
      refine List.pairwise_cons.2 ⟨fun z hz => ?_, h3⟩
      have hpy : p.Id < y.Id := by
        have := h1.1 y (by simp)
        rcases Int.lt_or_eq_of_le this with h4 | h4
        · exact h4
        · exact absurd (hcl p (by simp) y (by simp) h4).symm h
      rcases List.mem_cons.1 hz with rfl | hz
      · exact hpy
      · exact Int.lt_trans hpy ((List.pairwise_cons.1 h3).1 z hz)
theorem vU {α : Type} {key : α → Int} : ∀ {xs ys : List α}, xs.Pairwise (fun x y => key x < key y) → ys.Pairwise (fun x y => key x < key y) → (∀ x, x ∈ xs ↔ x ∈ ys) → xs = ys
  | [], [], _, _, _ => rfl
  | [], y :: ys, _, _, h => by have := (h y).2 (by simp); simp at this
  | x :: xs, [], _, _, h => by have := (h x).1 (by simp); simp at this
  | x :: xs, y :: ys, h1, h2, h => by
    have a1 := List.pairwise_cons.1 h1
    have a2 := List.pairwise_cons.1 h2
    have hxy : x = y := by
      rcases List.mem_cons.1 ((h x).1 (by simp)) with e | e
      · exact e
      · rcases List.mem_cons.1 ((h y).2 (by simp)) with e2 | e2
        · exact e2.symm
        · have := a2.1 x e; have := a1.1 y e2; omega
    subst hxy
    have := vU a1.2 a2.2 fun z => by
      have hz := h z
      simp only [List.mem_cons] at hz
      constructor
      · intro hm
        rcases hz.1 (.inr hm) with e | e
        · have := a1.1 z hm; rw [e] at this; omega
        · exact e
      · intro hm
        rcases hz.2 (.inr hm) with e | e
        · have := a2.1 z hm; rw [e] at this; omega
        · exact e
    rw [this]

/-- The order of the Ids. -/
theorem aHd : lS (fun x y => nN x y) (fun x => 0 ≤ x.Id ∧ x.Id ≤ 99) (fun x y => x.Id ≤ y.Id) where
  run x y hx hy := ⟨x.Id - y.Id, by unfold nN; rw [cR (by omega) (by omega)], by omega⟩
  tot x y _ _ := by omega
  tr x y z _ _ _ h1 h2 := by omega
def rB (xs : List aB) : Prop := ∃ x ∈ xs, ∃ y ∈ xs, x.Id = y.Id ∧ x ≠ y
theorem aEf (zs : List aB) (hb : zs.length < 4611686018427387904) : ∀ (d i k : Nat), zs.length - i = d → d < k → 1 ≤ i → (∃ j, i ≤ j ∧ ∃ (h : j < zs.length), (zs[j]).Id = (zs[j - 1]'(by omega)).Id) ∧ gH zs k (i : Nat) = some ([], false) ∨
    (∀ j, i ≤ j → ∀ (h : j < zs.length), (zs[j]).Id ≠ (zs[j - 1]'(by omega)).Id) ∧ gH zs k (i : Nat) = some (zs, true) := by
  intro d
  induction d with
  | zero =>
    intro i k hd hk hi
    obtain ⟨k, rfl⟩ : ∃ q, k = q + 1 := ⟨k - 1, by omega⟩
    have hlt : decide ((i : Int) < (zs.length : Int)) = false := decide_eq_false (by omega)
    exact .inr ⟨fun j h1 h => by omega, by simp only [gH, hlt, cond_false, tJ]⟩
  | succ d ih =>
    intro i k hd hk hi
    obtain ⟨k, rfl⟩ : ∃ q, k = q + 1 := ⟨k - 1, by omega⟩
    have hlt : decide ((i : Int) < (zs.length : Int)) = true := decide_eq_true (by omega)
    have hil : i < zs.length := by omega
    have i1 := dK (xs := zs) hil
    have i2 : idx zs (w64 ((i : Int) - 1)) = some (zs[i - 1]'(by omega)) := by rw [aBv (by omega) (by omega)]; exact dK (by omega)
    by_cases h : (zs[i]).Id = (zs[i - 1]'(by omega)).Id
    · refine .inl ⟨⟨i, Nat.le_refl _, hil, h⟩, ?_⟩
      simp only [gH, hlt, cond_true, i1, i2, Option.bind_some, decide_eq_true h]
    · have e : gH zs (k + 1) (i : Nat) = gH zs k ((i + 1 : Nat) : Int) := by
        simp only [gH, hlt, cond_true, i1, i2, Option.bind_some, decide_eq_false h, cond_false, cE (show i < 9223372036854775807 by omega)]
      rw [e]
      rcases ih (i + 1) k (by omega) (by omega) (by omega) with ⟨⟨j, h1, h2, h3⟩, h4⟩ | ⟨h1, h2⟩
      · exact .inl ⟨⟨j, by omega, h2, h3⟩, h4⟩
      · refine .inr ⟨fun j hj hjl => ?_, h2⟩
        rcases Nat.eq_or_lt_of_le hj with rfl | hj
        · exact h
        · exact h1 j hj hjl
theorem aAd (xs : List aB) (hid : ∀ x ∈ xs, 0 ≤ x.Id ∧ x.Id ≤ 99) (hb : xs.length ≤ 1000000) :
    (rB xs ∧ mE xs = some ([], false)) ∨ (¬ rB xs ∧ ∃ zs, mE xs = some (zs, true) ∧ zs.Pairwise (fun x y => x.Id < y.Id) ∧ (∀ x, x ∈ zs ↔ x ∈ xs) ∧ zs.length ≤ xs.length) := by
  obtain ⟨ys, hp, hs, hr⟩ := uK aHd xs hid (by omega)
  have hyl : ys.length = xs.length := hp.length_eq
  have hcl : eQ xs = some xs := by
    unfold eQ
    rw [kX (by simp; omega)]; rfl
  have hmem : ∀ x, x ∈ gX ys ↔ x ∈ xs := fun x => (aBw x ys).trans hp.mem_iff
  have hlen : (gX ys).length ≤ ys.length := by
    cases ys with
    | nil => exact Nat.le_refl _
    | cons p t => simp only [gX, List.length_cons]; have := (aBf p t).length_le; omega
  have hws : (gX ys).Pairwise fun x y => x.Id ≤ y.Id := by
    cases ys with
    | nil => exact .nil
    | cons p t =>
      refine List.Pairwise.sublist ?_ hs
      exact (aBf p t).cons_cons _
  have e : mE xs = gH (gX ys) BIG 1 := by
    unfold mE
    rw [hcl, Option.bind_some, hr, Option.bind_some, aAy ys (by omega), Option.bind_some]
  rw [e]
  have e1 : ((1 : Nat) : Int) = 1 := rfl
  rcases aEf (gX ys) (by omega) _ 1 BIG rfl (dB (by omega)) (Nat.le_refl _) with ⟨⟨j, h1, h2, h3⟩, h4⟩ | ⟨h1, h2⟩
  · left
    refine ⟨Classical.byContradiction fun hn => ?_, by rw [← e1]; exact h4⟩
    have hcl2 : ∀ x ∈ ys, ∀ y ∈ ys, x.Id = y.Id → x = y := fun x hx y hy hxy => Classical.byContradiction fun hne => hn ⟨x, hp.mem_iff.1 hx, y, hp.mem_iff.1 hy, hxy, hne⟩
    cases ys with
    | nil => simp [gX] at h2
    | cons p t =>
      have hst := xO p t hs hcl2
      have := List.pairwise_iff_getElem.1 hst (j - 1) j (by simp only [gX] at h2; omega) (by simpa only [gX] using h2) (by omega)
      simp only [gX] at h3
      omega
  · by_cases hn : rB xs
    · exfalso
      obtain ⟨x, hx, y, hy, hxy, hne⟩ := hn
      have hst : (gX ys).Pairwise fun x y => x.Id < y.Id := by
        refine List.pairwise_iff_getElem.2 fun i j hi hj hij => ?_
        have a1 := List.pairwise_iff_getElem.1 hws
        have a2 := h1 j (by omega) hj
        have a3 := a1 (j - 1) j (by omega) hj (by omega)
        rcases Nat.eq_or_lt_of_le (show i ≤ j - 1 by omega) with rfl | h
        · omega
        · have := a1 i (j - 1) hi (by omega) h; omega
      obtain ⟨i, hi, rfl⟩ := List.getElem_of_mem ((hmem x).2 hx)
      obtain ⟨j, hj, rfl⟩ := List.getElem_of_mem ((hmem y).2 hy)
      have a1 := List.pairwise_iff_getElem.1 hst
      rcases Nat.lt_trichotomy i j with h | h | h
      · have := a1 i j hi hj h; omega
      · subst h; exact hne rfl
      · have := a1 j i hj hi h; omega
    · right
      refine ⟨hn, gX ys, by rw [← e1]; exact h2, ?_, hmem, by omega⟩
      have hcl2 : ∀ x ∈ ys, ∀ y ∈ ys, x.Id = y.Id → x = y := fun x hx y hy hxy => Classical.byContradiction fun hne => hn ⟨x, hp.mem_iff.1 hx, y, hp.mem_iff.1 hy, hxy, hne⟩
      cases ys with
      | nil => exact .nil
      | cons p t => exact xO p t hs hcl2
end Go.Am
