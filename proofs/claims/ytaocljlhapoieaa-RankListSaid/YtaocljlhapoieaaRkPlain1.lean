/- The library's sorts: insertion. -/
import Derived.Test.YtaocljlhapoieaaRkSh
import Derived.Test.YtaocljlhapoieaaAmPlain
namespace Go.Am

section lists
variable {α : Type}
theorem kO {A : List α} {x : α} {B : List α} {p : Int} (h : p = (A.length : Int)) : idx (A ++ x :: B) p = some x := by
  subst h; rw [dK (by simp)]; simp
theorem sB {A : List α} {x y : α} {B : List α} {p : Nat} (h : p = A.length) : (A ++ x :: B).set p y = A ++ y :: B := by
  subst h; simp
theorem pB {A : List α} {x y : α} {B : List α} {p : Int} (h : p = ((A.length + 1 : Nat) : Int)) : idx (A ++ x :: y :: B) p = some y := by
  have : A ++ x :: y :: B = (A ++ [x]) ++ y :: B := by simp
  rw [this, kO (by simp [h])]
theorem wI {A : List α} {x y z : α} {B : List α} {p : Nat} (h : p = A.length + 1) : (A ++ x :: y :: B).set p z = A ++ x :: z :: B := by
  have : A ++ x :: y :: B = (A ++ [x]) ++ y :: B := by simp
  rw [this, sB (by simp [h])]; simp
theorem tG (L : List α) : L = [] ∨ ∃ A x, L = A ++ [x] := by
  rcases List.eq_nil_or_concat L with h | ⟨A, x, h⟩
  · exact .inl h
  · exact .inr ⟨A, x, by simpa using h⟩
end lists

/-- A comparison orders some elements. -/
structure mH {α : Type} (cmp : α → α → Option Int) (ok : α → Prop) (le : α → α → Prop) : Prop where
  run : ∀ x y, ok x → ok y → ∃ n, cmp x y = some n ∧ (n < 0 ↔ ¬ le y x)
  tot : ∀ x y, ok x → ok y → le x y ∨ le y x
  tr : ∀ x y z, ok x → ok y → ok z → le x y → le y z → le x z

section sorted
variable {α : Type} {ok : α → Prop} {le : α → α → Prop} {cmp : α → α → Option Int}
theorem aAc (hc : mH cmp ok le) {x : α} (hx : ok x) {L1 L2 : List α} (hs : (L1 ++ L2).Pairwise le) (hok : ∀ y ∈ L1 ++ L2, ok y) (h2 : ∀ y ∈ L2, ¬ le y x) (h1 : ∀ y, L1.getLast? = some y → le y x) : (L1 ++ x :: L2).Pairwise le := by
  have hp := List.pairwise_append.1 hs
  refine List.pairwise_append.2 ⟨hp.1, List.pairwise_cons.2 ⟨fun y hy => ?_, hp.2.1⟩, fun y hy z hz => ?_⟩
  · exact (hc.tot x y hx (hok y (by simp [hy]))).resolve_right (h2 y hy)
  · rcases List.mem_cons.1 hz with rfl | hz
    · rcases tG L1 with rfl | ⟨A, q, rfl⟩
      · cases hy
      · have hq := h1 q (by simp)
        rcases List.mem_append.1 hy with h | h
        · have := (List.pairwise_append.1 hp.1).2.2 y h q (by simp)
          exact hc.tr y q _ (hok y (by simp [h])) (hok q (by simp)) hx this hq
        · simp at h; subst h; exact hq
    · exact hp.2.2 y hy z hz
end sorted

section insertion
variable {cmp : aC → aC → Option Int} {ok : aC → Prop} {le : aC → aC → Prop}
theorem aFh (hc : mH cmp ok le) (again : Int → List aC → Option (List aC)) {a b i : Int} {P : List aC} (ha : a = P.length) (x : aC) (hx : ok x) :
    ∀ (n : Nat) (L R : List aC) (k : Nat), L.length = n → (∀ y ∈ L, ok y) → n < k → (P ++ L).length < 4611686018427387904 →
      ∃ L1 L2, L = L1 ++ L2 ∧ (∀ y ∈ L2, ¬ le y x) ∧ (∀ y, L1.getLast? = some y → le y x) ∧
        cV again a b cmp i k ((P ++ L).length : Nat) (P ++ L ++ x :: R) = again (w64 (i + 1)) (P ++ (L1 ++ x :: L2) ++ R) := by
  intro n
  induction n with
  | zero =>
    intro L R k hl hok hk hb
    have : L = [] := List.length_eq_zero_iff.1 hl
    subst this
    obtain ⟨k, rfl⟩ : ∃ q, k = q + 1 := ⟨k - 1, by omega⟩
    refine ⟨[], [], rfl, by simp, by simp, ?_⟩
    simp only [cV, ha, List.append_nil, Int.lt_irrefl, decide_false, cond_false, Option.bind_some, fA, eZ, List.nil_append]
    simp
  | succ n ih =>
    intro L R k hl hok hk hb
    obtain ⟨k, rfl⟩ : ∃ q, k = q + 1 := ⟨k - 1, by omega⟩
    rcases tG L with rfl | ⟨L', y, rfl⟩
    · simp at hl
    simp only [List.length_append, List.length_singleton] at hl hb
    have hoy : ok y := hok y (by simp)
    have hA : P ++ (L' ++ [y]) ++ x :: R = (P ++ L') ++ y :: x :: R := by simp
    have hj : ((P ++ (L' ++ [y])).length : Nat) = (P ++ L').length + 1 := by simp [Nat.add_assoc]
    have hAl : (P ++ L').length = P.length + L'.length := by simp
    have hlt : decide (a < (((P ++ L').length + 1 : Nat) : Int)) = true := decide_eq_true (by omega)
    have hw : w64 ((((P ++ L').length + 1 : Nat) : Int) - 1) = ((P ++ L').length : Int) := by rw [cW (by omega) (by omega)]; omega
    obtain ⟨r, hr, hlr⟩ := hc.run x y hx hoy
    rw [hA, hj]
    by_cases h : r < 0
    · obtain ⟨L1, L2, rfl, h2, h1, he⟩ := ih L' (y :: R) k (by omega) (fun z hz => hok z (by simp [hz])) (by omega) (by omega)
      refine ⟨L1, L2 ++ [y], by simp, fun z hz => ?_, h1, ?_⟩
      · rcases List.mem_append.1 hz with hz | hz
        · exact h2 z hz
        · simp at hz; subst hz; exact hlr.1 h
      · simp only [cV, hlt, cond_true, pB rfl, hw, kO rfl, Option.bind_some, hr, decide_eq_true h]
        have hn : (((P ++ (L1 ++ L2)).length + 1 : Nat) : Int).toNat = (P ++ (L1 ++ L2)).length + 1 := rfl
        have hn2 : (((P ++ (L1 ++ L2)).length : Nat) : Int).toNat = (P ++ (L1 ++ L2)).length := rfl
        rw [hn, hn2, wI rfl, kO rfl, Option.bind_some, sB rfl, he]
        simp
    · refine ⟨L' ++ [y], [], by simp, by simp, fun z hz => ?_, ?_⟩
      · simp at hz; subst hz; exact Classical.byContradiction fun hn => h (hlr.2 hn)
      · simp only [cV, hlt, cond_true, pB rfl, hw, kO rfl, Option.bind_some, hr, decide_eq_false h, cond_false, fA, eZ]
        simp

theorem vN (hc : mH cmp ok le) (P M S : List aC) (hok : ∀ y ∈ M, ok y) (hb : (P ++ M).length < 4611686018427387904) :
    ∃ M', M'.Perm M ∧ M'.Pairwise le ∧ dG (P ++ M ++ S) (P.length : Nat) ((P ++ M).length : Nat) cmp = some (P ++ M' ++ S) := by
  have main : ∀ (n : Nat) (L R : List aC) (k : Nat), R.length = n → n < k → (∀ y ∈ L ++ R, ok y) → (P ++ L ++ R).length < 4611686018427387904 → L.Pairwise le →
      ∃ M', M'.Perm (L ++ R) ∧ M'.Pairwise le ∧ cJ (P.length : Nat) ((P ++ L ++ R).length : Nat) cmp k ((P ++ L).length : Nat) (P ++ L ++ R ++ S) = some (P ++ M' ++ S) := by
    intro n
    induction n with
    | zero =>
      intro L R k hl hk hok hb hs
      have : R = [] := List.length_eq_zero_iff.1 hl
      subst this
      obtain ⟨k, rfl⟩ : ∃ q, k = q + 1 := ⟨k - 1, by omega⟩
      refine ⟨L, by simp, hs, ?_⟩
      simp [cJ, eY]
    | succ n ih =>
      intro L R k hl hk hok hb hs
      obtain ⟨k, rfl⟩ : ∃ q, k = q + 1 := ⟨k - 1, by omega⟩
      match R, hl with
      | x :: R, hl =>
        simp only [List.length_cons] at hl
        have hbl : (P ++ L ++ x :: R).length = P.length + L.length + (R.length + 1) := by simp [Nat.add_assoc]
        have hox : ok x := hok x (by simp)
        obtain ⟨L1, L2, rfl, h2, h1, he⟩ := aFh hc (cJ (P.length : Nat) ((P ++ L ++ x :: R).length : Nat) cmp k) (b := ((P ++ L ++ x :: R).length : Nat)) (i := ((P ++ L).length : Nat)) (a := (P.length : Nat)) rfl x hox L.length L (R ++ S) BIG rfl
          (fun y hy => hok y (by simp [hy])) (dD (by omega)) (by simp only [List.length_append]; omega)
        have hlt : decide (((P ++ (L1 ++ L2)).length : Int) < ((P ++ (L1 ++ L2) ++ x :: R).length : Int)) = true := decide_eq_true (by simp only [List.length_append, List.length_cons]; omega)
        obtain ⟨M', hp, hss, hr⟩ := ih (L1 ++ x :: L2) R k (by omega) (by omega) (fun y hy => hok y (by
            simp only [List.mem_append, List.mem_cons] at hy ⊢
            rcases hy with (h | h | h) | h <;> simp [h])) (by simp only [List.length_append, List.length_cons] at hb ⊢; omega)
            (aAc hc hox hs (fun y hy => hok y (by simp only [List.mem_append] at hy ⊢; exact .inl hy)) h2 h1)
        refine ⟨M', hp.trans ?_, hss, ?_⟩
        · have : ((L1 ++ x :: L2) ++ R).Perm (L1 ++ L2 ++ x :: R) := by
            rw [List.append_assoc, List.append_assoc, List.cons_append]
            exact List.Perm.append_left _ (List.perm_middle.symm)
          exact this
        · simp only [cJ, hlt, cond_true]
          have e1 : P ++ (L1 ++ L2) ++ x :: R ++ S = P ++ (L1 ++ L2) ++ x :: (R ++ S) := by simp
          rw [e1, he, cP (by simp only [List.length_append, List.length_cons] at hb ⊢; omega)]
          have e2 : ((P ++ (L1 ++ L2) ++ x :: R).length : Nat) = (P ++ (L1 ++ x :: L2) ++ R).length := by simp only [List.length_append, List.length_cons]; omega
          have e3 : ((P ++ (L1 ++ L2)).length + 1 : Nat) = (P ++ (L1 ++ x :: L2)).length := by simp only [List.length_append, List.length_cons]; omega
          rw [e2, e3]
          have e4 : P ++ (L1 ++ x :: L2) ++ (R ++ S) = P ++ (L1 ++ x :: L2) ++ R ++ S := by simp
          rw [e4]
          exact hr
  match M, hok, hb with
  | [], hok, hb =>
    refine ⟨[], .refl _, .nil, ?_⟩
    have hlt : decide (((P.length + 1 : Nat) : Int) < (P.length : Int)) = false := decide_eq_false (by omega)
    unfold dG
    simp only [List.append_nil] at hb ⊢
    rw [yS, cP (by omega)]
    generalize 18446744073709551615 = kk
    simp only [cJ, hlt, cond_false, eY]
  | x :: M, hok, hb =>
    simp only [List.length_append, List.length_cons] at hb
    obtain ⟨M', h1, h2, h3⟩ := main M.length [x] M BIG rfl (dD (by omega)) (fun y hy => hok y (by simpa using hy)) (by simp only [List.length_append, List.length_cons, List.length_nil]; omega) (List.pairwise_singleton _ _)
    refine ⟨M', by simpa using h1, h2, ?_⟩
    unfold dG
    rw [cP (by omega)]
    have e1 : (P ++ [x]).length = P.length + 1 := by simp
    have e2 : P ++ [x] ++ M = P ++ x :: M := by simp
    rw [e1, e2] at h3
    exact h3
end insertion
end Go.Am
