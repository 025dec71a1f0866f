/- The sort of the lines; the reports, each once. -/
import Derived.Test.YtaocljlhapoieaaRkPlain5
namespace Go.Am

section line
variable {cmp : bD → bD → Option Int} {ok : bD → Prop} {le : bD → bD → Prop}
theorem aCx (hc : mH cmp ok le) (again : Int → List bD → Option (List bD)) {a b i : Int} {P : List bD} (ha : a = P.length) (x : bD) (hx : ok x) :
    ∀ (n : Nat) (L R : List bD) (k : Nat), L.length = n → (∀ y ∈ L, ok y) → n < k → (P ++ L).length < 4611686018427387904 →
      ∃ L1 L2, L = L1 ++ L2 ∧ (∀ y ∈ L2, ¬ le y x) ∧ (∀ y, L1.getLast? = some y → le y x) ∧
        cX again a b cmp i k ((P ++ L).length : Nat) (P ++ L ++ x :: R) = again (w64 (i + 1)) (P ++ (L1 ++ x :: L2) ++ R) := by
  intro n
  induction n with
  | zero =>
    intro L R k hl hok hk hb
    have : L = [] := List.length_eq_zero_iff.1 hl
    subst this
    obtain ⟨k, rfl⟩ : ∃ q, k = q + 1 := ⟨k - 1, by omega⟩
    refine ⟨[], [], rfl, by simp, by simp, ?_⟩
    simp only [cX, ha, List.append_nil, Int.lt_irrefl, decide_false, cond_false, Option.bind_some, fF, fE, List.nil_append]
    simp
  | succ n ih =>
    intro L R k hl hok hk hb
    obtain ⟨k, rfl⟩ : ∃ q, k = q + 1 := ⟨k - 1, by omega⟩
    rcases tG L with rfl | ⟨L', y, rfl⟩
    · simp at hl
    simp only [List.length_append, List.length_singleton] at hl hb
    have hoy : ok y := hok y (by simp)
    have hA : P ++ (L' ++ [y]) ++ x :: R = (P ++ L') ++ y :: x :: R := by simp
    have hj : ((P ++ (L' ++ [y])).length : Nat) = (P ++ L').length + 1 := by simp [Nat.add_assoc]
    have hAl : (P ++ L').length = P.length + L'.length := by simp
    have hlt : decide (a < (((P ++ L').length + 1 : Nat) : Int)) = true := decide_eq_true (by omega)
    have hw : w64 ((((P ++ L').length + 1 : Nat) : Int) - 1) = ((P ++ L').length : Int) := by rw [cW (by omega) (by omega)]; omega
    obtain ⟨r, hr, hlr⟩ := hc.run x y hx hoy
    rw [hA, hj]
    by_cases h : r < 0
    · obtain ⟨L1, L2, rfl, h2, h1, he⟩ := ih L' (y :: R) k (by omega) (fun z hz => hok z (by simp [hz])) (by omega) (by omega)
      refine ⟨L1, L2 ++ [y], by simp, fun z hz => ?_, h1, ?_⟩
      · rcases List.mem_append.1 hz with hz | hz
        · exact h2 z hz
        · simp at hz; subst hz; exact hlr.1 h
      · simp only [cX, hlt, cond_true, pB rfl, hw, kO rfl, Option.bind_some, hr, decide_eq_true h]
        have hn : (((P ++ (L1 ++ L2)).length + 1 : Nat) : Int).toNat = (P ++ (L1 ++ L2)).length + 1 := rfl
        have hn2 : (((P ++ (L1 ++ L2)).length : Nat) : Int).toNat = (P ++ (L1 ++ L2)).length := rfl
        rw [hn, hn2, wI rfl, kO rfl, Option.bind_some, sB rfl, he]
        simp
    · refine ⟨L' ++ [y], [], by simp, by simp, fun z hz => ?_, ?_⟩
      · simp at hz; subst hz; exact Classical.byContradiction fun hn => h (hlr.2 hn)
      · simp only [cX, hlt, cond_true, pB rfl, hw, kO rfl, Option.bind_some, hr, decide_eq_false h, cond_false, fF, fE]
        simp

theorem zB (hc : mH cmp ok le) (P M S : List bD) (hok : ∀ y ∈ M, ok y) (hb : (P ++ M).length < 4611686018427387904) :
    ∃ M', M'.Perm M ∧ M'.Pairwise le ∧ dI (P ++ M ++ S) (P.length : Nat) ((P ++ M).length : Nat) cmp = some (P ++ M' ++ S) := by
  have main : ∀ (n : Nat) (L R : List bD) (k : Nat), R.length = n → n < k → (∀ y ∈ L ++ R, ok y) → (P ++ L ++ R).length < 4611686018427387904 → L.Pairwise le →
      ∃ M', M'.Perm (L ++ R) ∧ M'.Pairwise le ∧ cM (P.length : Nat) ((P ++ L ++ R).length : Nat) cmp k ((P ++ L).length : Nat) (P ++ L ++ R ++ S) = some (P ++ M' ++ S) := by
    intro n
    induction n with
    | zero =>
      intro L R k hl hk hok hb hs
      have : R = [] := List.length_eq_zero_iff.1 hl
      subst this
      obtain ⟨k, rfl⟩ : ∃ q, k = q + 1 := ⟨k - 1, by omega⟩
      refine ⟨L, by simp, hs, ?_⟩
      simp [cM, fD]
    | succ n ih =>
      intro L R k hl hk hok hb hs
      obtain ⟨k, rfl⟩ : ∃ q, k = q + 1 := ⟨k - 1, by omega⟩
      match R, hl with
      | x :: R, hl =>
        simp only [List.length_cons] at hl
        have hbl : (P ++ L ++ x :: R).length = P.length + L.length + (R.length + 1) := by simp [Nat.add_assoc]
        have hox : ok x := hok x (by simp)
        obtain ⟨L1, L2, rfl, h2, h1, he⟩ := aCx hc (cM (P.length : Nat) ((P ++ L ++ x :: R).length : Nat) cmp k) (b := ((P ++ L ++ x :: R).length : Nat)) (i := ((P ++ L).length : Nat)) (a := (P.length : Nat)) rfl x hox L.length L (R ++ S) BIG rfl
          (fun y hy => hok y (by simp [hy])) (dD (by omega)) (by simp only [List.length_append]; omega)
        have hlt : decide (((P ++ (L1 ++ L2)).length : Int) < ((P ++ (L1 ++ L2) ++ x :: R).length : Int)) = true := decide_eq_true (by simp only [List.length_append, List.length_cons]; omega)
        obtain ⟨M', hp, hss, hr⟩ := ih (L1 ++ x :: L2) R k (by omega) (by omega) (fun y hy => hok y (by
            simp only [List.mem_append, List.mem_cons] at hy ⊢
            rcases hy with (h | h | h) | h <;> simp [h])) (by simp only [List.length_append, List.length_cons] at hb ⊢; omega)
            (aAc hc hox hs (fun y hy => hok y (by simp only [List.mem_append] at hy ⊢; exact .inl hy)) h2 h1)
        refine ⟨M', hp.trans ?_, hss, ?_⟩
        · have : ((L1 ++ x :: L2) ++ R).Perm (L1 ++ L2 ++ x :: R) := by
            rw [List.append_assoc, List.append_assoc, List.cons_append]
            exact List.Perm.append_left _ (List.perm_middle.symm)
          exact this
        · simp only [cM, hlt, cond_true]
          have e1 : P ++ (L1 ++ L2) ++ x :: R ++ S = P ++ (L1 ++ L2) ++ x :: (R ++ S) := by simp
          rw [e1, he, cP (by simp only [List.length_append, List.length_cons] at hb ⊢; omega)]
          have e2 : ((P ++ (L1 ++ L2) ++ x :: R).length : Nat) = (P ++ (L1 ++ x :: L2) ++ R).length := by simp only [List.length_append, List.length_cons]; omega
          have e3 : ((P ++ (L1 ++ L2)).length + 1 : Nat) = (P ++ (L1 ++ x :: L2)).length := by simp only [List.length_append, List.length_cons]; omega
          rw [e2, e3]
          have e4 : P ++ (L1 ++ x :: L2) ++ (R ++ S) = P ++ (L1 ++ x :: L2) ++ R ++ S := by simp
          rw [e4]
          exact hr
  match M, hok, hb with
  | [], hok, hb =>
    refine ⟨[], .refl _, .nil, ?_⟩
    have hlt : decide (((P.length + 1 : Nat) : Int) < (P.length : Int)) = false := decide_eq_false (by omega)
    unfold dI
    simp only [List.append_nil] at hb ⊢
    rw [yS, cP (by omega)]
    generalize 18446744073709551615 = kk
    simp only [cM, hlt, cond_false, fD]
  | x :: M, hok, hb =>
    simp only [List.length_append, List.length_cons] at hb
    obtain ⟨M', h1, h2, h3⟩ := main M.length [x] M BIG rfl (dD (by omega)) (fun y hy => hok y (by simpa using hy)) (by simp only [List.length_append, List.length_cons, List.length_nil]; omega) (List.pairwise_singleton _ _)
    refine ⟨M', by simpa using h1, h2, ?_⟩
    unfold dI
    rw [cP (by omega)]
    have e1 : (P ++ [x]).length = P.length + 1 := by simp
    have e2 : P ++ [x] ++ M = P ++ x :: M := by simp
    rw [e1, e2] at h3
    exact h3
theorem aBp (hc : mH cmp ok le) (xs : List bD) (hok : ∀ y ∈ xs, ok y) (hb : xs.length ≤ 12) : ∃ ys, ys.Perm xs ∧ ys.Pairwise le ∧ hG xs cmp = some ys := by
  obtain ⟨M', h1, h2, h3⟩ := zB hc [] xs [] hok (by simp; omega)
  simp only [List.nil_append, List.append_nil, List.length_nil] at h3
  refine ⟨M', h1, h2, ?_⟩
  have e1 : IntKind.u64.wrap (xs.length : Int) = (xs.length : Int) := by
    simp only [IntKind.wrap, IntKind.signed, IntKind.bits]
    simp
    omega
  have e2 : qG (xs.length : Int) = some ((Lib.bitLen (xs.length : Int).toNat : Nat) : Int) := by
    unfold qG yA
    rw [if_pos ⟨by omega, by omega⟩]
  have e3 : w64 ((xs.length : Int) - 0) = (xs.length : Int) := by rw [cW (by omega) (by omega)]; omega
  have hd : decide ((xs.length : Int) ≤ 12) = true := decide_eq_true (by omega)
  have h3' : dI xs 0 (xs.length : Int) cmp = some M' := h3
  unfold hG gM
  rw [e1, e2, Option.bind_some, yS]
  generalize 18446744073709551615 = kk
  simp only [gB, e3, hd, cond_true, h3', Option.bind_some]
end line

/-- What is left of a row when equal neighbours are one. -/
def oO (p : aC) : List aC → List aC
  | [] => []
  | y :: t => if y = p then oO p t else y :: oO y t
def hO : List aC → List aC
  | [] => []
  | x :: t => x :: oO x t
theorem aEf (again : Int → List aC → Option (List aC)) {k0 : Nat} : ∀ (t : List aC) (p : aC) (W X : List aC) (k2 k : Nat), 1 ≤ k2 → W.length + X.length + 1 = k0 + k2 → k0 ≤ W.length → (W ++ X ++ p :: t).length < 4611686018427387904 → t.length < k →
    eB again (k0 : Nat) k (W.length : Nat) (k2 : Nat) (W ++ X ++ p :: t) = some (W ++ oO p t) := by
  intro t
  induction t with
  | nil =>
    intro p W X k2 k h1 h2 h3 hb hk
    obtain ⟨k, rfl⟩ : ∃ q, k = q + 1 := ⟨k - 1, by omega⟩
    simp only [List.length_append, List.length_cons, List.length_nil] at hb
    have t0 : ((k0 : Nat) : Int).toNat = k0 := rfl
    have t1 : ((W.length : Nat) : Int).toNat = W.length := rfl
    have hlt : decide ((k2 : Int) < (((W ++ X ++ [p]).drop k0).length : Int)) = false := decide_eq_false (by simp; omega)
    have c1 : (decide ((0 : Int) ≤ (W.length : Int)) && decide ((W.length : Int) ≤ ((W ++ X ++ [p]).length : Int))) = true := by simp; omega
    have c2 : decide (W.length ≤ (W ++ X ++ [p]).length) = true := by simp
    have c3 : decide ((0 : Int) ≤ (W.length : Int)) = true := by simp
    simp only [eB, t0, hlt, cond_false, kR]
    rw [c1, t1, c2, c3]
    simp [chk, oO]
  | cons y t ih =>
    intro p W X k2 k h1 h2 h3 hb hk
    obtain ⟨k, rfl⟩ : ∃ q, k = q + 1 := ⟨k - 1, by omega⟩
    simp only [List.length_append, List.length_cons] at hb hk
    have t0 : ((k0 : Nat) : Int).toNat = k0 := rfl
    have t1 : ((W.length : Nat) : Int).toNat = W.length := rfl
    have hlt : decide ((k2 : Int) < (((W ++ X ++ p :: y :: t).drop k0).length : Int)) = true := decide_eq_true (by simp; omega)
    have ed : (W ++ X ++ p :: y :: t).drop k0 = (W ++ X).drop k0 ++ p :: y :: t := by rw [List.drop_append_of_le_length (by simp; omega)]
    have hdl : ((W ++ X).drop k0).length = k2 - 1 := by simp; omega
    have i1 : idx ((W ++ X ++ p :: y :: t).drop k0) (k2 : Nat) = some y := by rw [ed]; exact pB (by rw [hdl]; omega)
    have i2 : idx ((W ++ X ++ p :: y :: t).drop k0) (w64 ((k2 : Int) - 1)) = some p := by rw [aCu (by omega) (by omega), ed]; exact kO (by rw [hdl])
    simp only [eB, t0, hlt, cond_true, i1, i2, Option.bind_some, cP (show k2 < 9223372036854775807 by omega)]
    by_cases hyp : y = p
    · subst hyp
      have := ih y W (X ++ [y]) (k2 + 1) k (by omega) (by simp; omega) h3 (by simp only [List.length_append, List.length_cons, List.length_nil]; omega) (by omega)
      have e1 : W ++ (X ++ [y]) ++ y :: t = W ++ X ++ y :: y :: t := by simp
      rw [e1] at this
      rw [decide_eq_true rfl, Bool.not_true, cond_false, this]
      simp [oO]
    · have hd : (!decide (y = p)) = true := by rw [decide_eq_false hyp]; rfl
      have i3 : ∃ z, idx (W ++ X ++ p :: y :: t) (W.length : Nat) = some z := ⟨_, dK (by simp; omega)⟩
      obtain ⟨z, i3⟩ := i3
      rw [hd, cond_true, i3, Option.bind_some, t1, cP (by omega)]
      obtain ⟨X', e2⟩ : ∃ X', (W ++ X ++ p :: y :: t).set W.length y = (W ++ [y]) ++ X' ++ y :: t ∧ X'.length = X.length := by
        cases X with
        | nil => exact ⟨[], by simp, rfl⟩
        | cons x X => exact ⟨X ++ [p], by simp, by simp⟩
      rw [e2.1]
      have := ih y (W ++ [y]) X' (k2 + 1) k (by omega) (by rw [List.length_append, e2.2]; simp; omega) (by simp; omega) (by simp only [List.length_append, List.length_cons, List.length_nil, e2.2]; omega) (by omega)
      have e3 : (W ++ [y]).length = W.length + 1 := by simp
      rw [e3] at this
      rw [this]
      simp [oO, hyp]
theorem aCb (s : List aC) (hb : s.length < 4611686018427387904) : gY s = some (hO s) := by
  have main : ∀ (t A : List aC) (p : aC) (k : Nat), t.length < k → (A ++ p :: t).length < 4611686018427387904 → dF k ((A.length + 1 : Nat) : Int) (A ++ p :: t) = some (A ++ p :: oO p t) := by
    intro t
    induction t with
    | nil =>
      intro A p k hk hb
      obtain ⟨k, rfl⟩ : ∃ q, k = q + 1 := ⟨k - 1, by omega⟩
      have hlt : decide (((A.length + 1 : Nat) : Int) < ((A ++ [p]).length : Int)) = false := decide_eq_false (by simp)
      simp only [dF, hlt, cond_false, kP, oO]
    | cons y t ih =>
      intro A p k hk hb
      obtain ⟨k, rfl⟩ : ∃ q, k = q + 1 := ⟨k - 1, by omega⟩
      simp only [List.length_append, List.length_cons] at hb hk
      have hlt : decide (((A.length + 1 : Nat) : Int) < ((A ++ p :: y :: t).length : Int)) = true := decide_eq_true (by simp; omega)
      have i2 : w64 (((A.length + 1 : Nat) : Int) - 1) = (A.length : Int) := by rw [cW (by omega) (by omega)]; omega
      simp only [dF, hlt, cond_true, pB rfl, i2, kO rfl, Option.bind_some]
      by_cases hyp : y = p
      · subst hyp
        have c1 : (decide ((0 : Int) ≤ ((A.length + 1 : Nat) : Int)) && decide (((A.length + 1 : Nat) : Int) ≤ ((A ++ y :: y :: t).length : Int))) = true := by simp; omega
        rw [decide_eq_true rfl, cond_true, c1]
        simp only [chk, cond_true, Option.bind_some]
        have := aEf (dF k) (k0 := A.length + 1) t y (A ++ [y]) [] 1 BIG (Nat.le_refl _) (by simp) (by simp) (by simp only [List.length_append, List.length_cons, List.length_nil]; omega) (dD (by omega))
        have e3 : (A ++ [y]).length = A.length + 1 := by simp
        have e4 : A ++ [y] ++ [] ++ y :: t = A ++ y :: y :: t := by simp
        rw [e3, e4] at this
        have e5 : ((1 : Nat) : Int) = 1 := rfl
        rw [e5] at this
        rw [this]
        simp [oO]
      · rw [decide_eq_false hyp, cond_false]
        unfold kQ
        rw [cP (by omega)]
        have := ih (A ++ [p]) y k (by omega) (by simp only [List.length_append, List.length_cons, List.length_nil]; omega)
        have e3 : (A ++ [p]).length = A.length + 1 := by simp
        have e4 : A ++ [p] ++ y :: t = A ++ p :: y :: t := by simp
        rw [e3, e4] at this
        rw [this]
        simp [oO, hyp]
  unfold gY
  match s, hb with
  | [], _ => simp [hO]
  | x :: t, hb =>
    by_cases ht : t = []
    · subst ht; simp [hO, oO]
    · have hl : 0 < t.length := List.length_pos_iff.2 ht
      have hd : decide (((x :: t).length : Int) < 2) = false := decide_eq_false (by simp; omega)
      rw [hd, cond_false]
      have := main t [] x BIG (dD (by simp at hb; omega)) (by simpa using hb)
      simp only [List.length_nil, List.nil_append, Nat.zero_add] at this
      have e5 : ((1 : Nat) : Int) = 1 := rfl
      rw [e5] at this
      rw [this]; rfl
theorem aGb (p x : aC) (t : List aC) : (x = p ∨ x ∈ oO p t) ↔ (x = p ∨ x ∈ t) := by
  induction t generalizing p with
  | nil => rfl
  | cons y t ih =>
    simp only [oO, List.mem_cons]
    by_cases h : y = p
    · subst h
      rw [if_pos rfl]
      have := ih y
      constructor
      · rintro (h | h)
        · exact .inl h
        · rcases this.1 (.inr h) with h | h
          · exact .inl h
          · exact .inr (.inr h)
      · rintro (h | h | h)
        · exact .inl h
        · exact .inl h
        · exact this.2 (.inr h)
    · rw [if_neg h, List.mem_cons]
      have := ih y
      constructor
      · rintro (h | h)
        · exact .inl h
        · exact .inr (this.1 h)
      · rintro (h | h)
        · exact .inl h
        · exact .inr (this.2 h)
theorem aCv (x : aC) (s : List aC) : x ∈ hO s ↔ x ∈ s := by
  cases s with
  | nil => rfl
  | cons p t => simp only [hO, List.mem_cons]; exact aGb p x t
theorem aCf (p : aC) (t : List aC) : (oO p t).Sublist t := by
  induction t generalizing p with
  | nil => exact .slnil
  | cons y t ih =>
    simp only [oO]
    split
    · exact (ih p).cons _
    · exact (ih y).cons_cons _
/-- In a weakly ordered row without a clash, what is left is strictly ordered. -/
theorem yJ (p : aC) (t : List aC) (hs : (p :: t).Pairwise fun x y => x.Id ≤ y.Id) (hcl : ∀ x ∈ p :: t, ∀ y ∈ p :: t, x.Id = y.Id → x = y) : (p :: oO p t).Pairwise fun x y => x.Id < y.Id := by
  induction t generalizing p with
  | nil => exact List.pairwise_singleton _ _
  | cons y t ih =>
    have h1 := List.pairwise_cons.1 hs
    have h2 := List.pairwise_cons.1 h1.2
    simp only [oO]
    by_cases h : y = p
    · subst h
      rw [if_pos rfl]
      exact ih y h1.2 (fun a ha b hb => hcl a (List.mem_cons_of_mem _ ha) b (List.mem_cons_of_mem _ hb))
    · rw [if_neg h]
      have h3 := ih y h1.2 (fun a ha b hb => hcl a (List.mem_cons_of_mem _ ha) b (List.mem_cons_of_mem _ hb))
      refine List.pairwise_cons.2 ⟨fun z hz => ?_, h3⟩
      have hpy : p.Id < y.Id := by
        have := h1.1 y (by simp)
        rcases Int.lt_or_eq_of_le this with h4 | h4
        · exact h4
        · exact absurd (hcl p (by simp) y (by simp) h4).symm h
      rcases List.mem_cons.1 hz with rfl | hz
      · exact hpy
      · exact Int.lt_trans hpy ((List.pairwise_cons.1 h3).1 z hz)
theorem sZ {α : Type} {key : α → Int} : ∀ {xs ys : List α}, xs.Pairwise (fun x y => key x < key y) → ys.Pairwise (fun x y => key x < key y) → (∀ x, x ∈ xs ↔ x ∈ ys) → xs = ys
  | [], [], _, _, _ => rfl
  | [], y :: ys, _, _, h => by have := (h y).2 (by simp); simp at this
  | x :: xs, [], _, _, h => by have := (h x).1 (by simp); simp at this
  | x :: xs, y :: ys, h1, h2, h => by
    have a1 := List.pairwise_cons.1 h1
    have a2 := List.pairwise_cons.1 h2
    have hxy : x = y := by
      rcases List.mem_cons.1 ((h x).1 (by simp)) with e | e
      · exact e
      · rcases List.mem_cons.1 ((h y).2 (by simp)) with e2 | e2
        · exact e2.symm
        · have := a2.1 x e; have := a1.1 y e2; omega
    subst hxy
    have := sZ a1.2 a2.2 fun z => by
      have hz := h z
      simp only [List.mem_cons] at hz
      constructor
      · intro hm
        rcases hz.1 (.inr hm) with e | e
        · have := a1.1 z hm; rw [e] at this; omega
        · exact e
      · intro hm
        rcases hz.2 (.inr hm) with e | e
        · have := a2.1 z hm; rw [e] at this; omega
        · exact e
    rw [this]

/-- The order of the Ids. -/
theorem aIk : mH (fun x y => oG x y) (fun x => 0 ≤ x.Id ∧ x.Id ≤ 99) (fun x y => x.Id ≤ y.Id) where
  run x y hx hy := ⟨x.Id - y.Id, by unfold oG; rw [cW (by omega) (by omega)], by omega⟩
  tot x y _ _ := by omega
  tr x y z _ _ _ h1 h2 := by omega
def rR (xs : List aC) : Prop := ∃ x ∈ xs, ∃ y ∈ xs, x.Id = y.Id ∧ x ≠ y
theorem aFj (zs : List aC) (hb : zs.length < 4611686018427387904) : ∀ (d i k : Nat), zs.length - i = d → d < k → 1 ≤ i → (∃ j, i ≤ j ∧ ∃ (h : j < zs.length), (zs[j]).Id = (zs[j - 1]'(by omega)).Id) ∧ gL zs k (i : Nat) = some ([], false) ∨
    (∀ j, i ≤ j → ∀ (h : j < zs.length), (zs[j]).Id ≠ (zs[j - 1]'(by omega)).Id) ∧ gL zs k (i : Nat) = some (zs, true) := by
  intro d
  induction d with
  | zero =>
    intro i k hd hk hi
    obtain ⟨k, rfl⟩ : ∃ q, k = q + 1 := ⟨k - 1, by omega⟩
    have hlt : decide ((i : Int) < (zs.length : Int)) = false := decide_eq_false (by omega)
    exact .inr ⟨fun j h1 h => by omega, by simp only [gL, hlt, cond_false, uF]⟩
  | succ d ih =>
    intro i k hd hk hi
    obtain ⟨k, rfl⟩ : ∃ q, k = q + 1 := ⟨k - 1, by omega⟩
    have hlt : decide ((i : Int) < (zs.length : Int)) = true := decide_eq_true (by omega)
    have hil : i < zs.length := by omega
    have i1 := dK (xs := zs) hil
    have i2 : idx zs (w64 ((i : Int) - 1)) = some (zs[i - 1]'(by omega)) := by rw [aCu (by omega) (by omega)]; exact dK (by omega)
    by_cases h : (zs[i]).Id = (zs[i - 1]'(by omega)).Id
    · refine .inl ⟨⟨i, Nat.le_refl _, hil, h⟩, ?_⟩
      simp only [gL, hlt, cond_true, i1, i2, Option.bind_some, decide_eq_true h]
    · have e : gL zs (k + 1) (i : Nat) = gL zs k ((i + 1 : Nat) : Int) := by
        simp only [gL, hlt, cond_true, i1, i2, Option.bind_some, decide_eq_false h, cond_false, cP (show i < 9223372036854775807 by omega)]
      rw [e]
      rcases ih (i + 1) k (by omega) (by omega) (by omega) with ⟨⟨j, h1, h2, h3⟩, h4⟩ | ⟨h1, h2⟩
      · exact .inl ⟨⟨j, by omega, h2, h3⟩, h4⟩
      · refine .inr ⟨fun j hj hjl => ?_, h2⟩
        rcases Nat.eq_or_lt_of_le hj with rfl | hj
        · exact h
        · exact h1 j hj hjl
theorem aBf (xs : List aC) (hid : ∀ x ∈ xs, 0 ≤ x.Id ∧ x.Id ≤ 99) (hb : xs.length ≤ 1000000) :
    (rR xs ∧ mU xs = some ([], false)) ∨ (¬ rR xs ∧ ∃ zs, mU xs = some (zs, true) ∧ zs.Pairwise (fun x y => x.Id < y.Id) ∧ (∀ x, x ∈ zs ↔ x ∈ xs) ∧ zs.length ≤ xs.length) := by
  obtain ⟨ys, hp, hs, hr⟩ := vE aIk xs hid (by omega)
  have hyl : ys.length = xs.length := hp.length_eq
  have hcl : eW xs = some xs := by
    unfold eW
    rw [jL (by simp; omega)]; rfl
  have hmem : ∀ x, x ∈ hO ys ↔ x ∈ xs := fun x => (aCv x ys).trans hp.mem_iff
  have hlen : (hO ys).length ≤ ys.length := by
    cases ys with
    | nil => exact Nat.le_refl _
    | cons p t => simp only [hO, List.length_cons]; have := (aCf p t).length_le; omega
  have hws : (hO ys).Pairwise fun x y => x.Id ≤ y.Id := by
    cases ys with
    | nil => exact .nil
    | cons p t =>
      refine List.Pairwise.sublist ?_ hs
      exact (aCf p t).cons_cons _
  have e : mU xs = gL (hO ys) BIG 1 := by
    unfold mU
    rw [hcl, Option.bind_some, hr, Option.bind_some, aCb ys (by omega), Option.bind_some]
  rw [e]
  have e1 : ((1 : Nat) : Int) = 1 := rfl
  rcases aFj (hO ys) (by omega) _ 1 BIG rfl (dD (by omega)) (Nat.le_refl _) with ⟨⟨j, h1, h2, h3⟩, h4⟩ | ⟨h1, h2⟩
  · left
    refine ⟨Classical.byContradiction fun hn => ?_, by rw [← e1]; exact h4⟩
    have hcl2 : ∀ x ∈ ys, ∀ y ∈ ys, x.Id = y.Id → x = y := fun x hx y hy hxy => Classical.byContradiction fun hne => hn ⟨x, hp.mem_iff.1 hx, y, hp.mem_iff.1 hy, hxy, hne⟩
    cases ys with
    | nil => simp [hO] at h2
    | cons p t =>
      have hst := yJ p t hs hcl2
      have := List.pairwise_iff_getElem.1 hst (j - 1) j (by simp only [hO] at h2; omega) (by simpa only [hO] using h2) (by omega)
      simp only [hO] at h3
      omega
  · by_cases hn : rR xs
    · exfalso
      obtain ⟨x, hx, y, hy, hxy, hne⟩ := hn
      have hst : (hO ys).Pairwise fun x y => x.Id < y.Id := by
        refine List.pairwise_iff_getElem.2 fun i j hi hj hij => ?_
        have a1 := List.pairwise_iff_getElem.1 hws
        have a2 := h1 j (by omega) hj
        have a3 := a1 (j - 1) j (by omega) hj (by omega)
        rcases Nat.eq_or_lt_of_le (show i ≤ j - 1 by omega) with rfl | h
        · omega
        · have := a1 i (j - 1) hi (by omega) h; omega
      obtain ⟨i, hi, rfl⟩ := List.getElem_of_mem ((hmem x).2 hx)
      obtain ⟨j, hj, rfl⟩ := List.getElem_of_mem ((hmem y).2 hy)
      have a1 := List.pairwise_iff_getElem.1 hst
      rcases Nat.lt_trichotomy i j with h | h | h
      · have := a1 i j hi hj h; omega
      · subst h; exact hne rfl
      · have := a1 j i hj hi h; omega
    · right
      refine ⟨hn, hO ys, by rw [← e1]; exact h2, ?_, hmem, by omega⟩
      have hcl2 : ∀ x ∈ ys, ∀ y ∈ ys, x.Id = y.Id → x = y := fun x hx y hy hxy => Classical.byContradiction fun hne => hn ⟨x, hp.mem_iff.1 hx, y, hp.mem_iff.1 hy, hxy, hne⟩
      cases ys with
      | nil => exact .nil
      | cons p t => exact yJ p t hs hcl2
end Go.Am
