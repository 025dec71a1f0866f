/- Plain laws, one behind the other. -/
import Derived.Test.YtaocljlhapoieaaRkSh
import Derived.Test.YtaocljlhapoieaaAmPlain
section
namespace Go.Am

section lists
variable {α : Type}
theorem kC {A : List α} {x : α} {B : List α} {p : Int} (h : p = (A.length : Int)) : idx (A ++ x :: B) p = some x := by
  subst h; rw [cE (by simp)]; simp
theorem sJ {A : List α} {x y : α} {B : List α} {p : Nat} (h : p = A.length) : (A ++ x :: B).set p y = A ++ y :: B := by
  subst h; simp
theorem oW {A : List α} {x y : α} {B : List α} {p : Int} (h : p = ((A.length + 1 : Nat) : Int)) : idx (A ++ x :: y :: B) p = some y := by
  have : A ++ x :: y :: B = (A ++ [x]) ++ y :: B := by simp
  rw [this, kC (by simp [h])]
theorem xE {A : List α} {x y z : α} {B : List α} {p : Nat} (h : p = A.length + 1) : (A ++ x :: y :: B).set p z = A ++ x :: z :: B := by
  have : A ++ x :: y :: B = (A ++ [x]) ++ y :: B := by simp
  rw [this, sJ (by simp [h])]; simp
theorem tQ (L : List α) : L = [] ∨ ∃ A x, L = A ++ [x] := by
  rcases List.eq_nil_or_concat L with h | ⟨A, x, h⟩
  · exact .inl h
  · exact .inr ⟨A, x, by simpa using h⟩
end lists

/-- A comparison orders some elements. -/
structure mC {α : Type} (cmp : α → α → Option Int) (ok : α → Prop) (le : α → α → Prop) : Prop where
  run : ∀ x y, ok x → ok y → ∃ n, cmp x y = some n ∧ (n < 0 ↔ ¬ le y x)
  tot : ∀ x y, ok x → ok y → le x y ∨ le y x
  tr : ∀ x y z, ok x → ok y → ok z → le x y → le y z → le x z

section sorted
variable {α : Type} {ok : α → Prop} {le : α → α → Prop} {cmp : α → α → Option Int}
theorem aBf (hc : mC cmp ok le) {x : α} (hx : ok x) {L1 L2 : List α} (hs : (L1 ++ L2).Pairwise le) (hok : ∀ y ∈ L1 ++ L2, ok y) (h2 : ∀ y ∈ L2, ¬ le y x) (h1 : ∀ y, L1.getLast? = some y → le y x) : (L1 ++ x :: L2).Pairwise le := by
  have hp := List.pairwise_append.1 hs
  refine List.pairwise_append.2 ⟨hp.1, List.pairwise_cons.2 ⟨fun y hy => ?_, hp.2.1⟩, fun y hy z hz => ?_⟩
  · exact (hc.tot x y hx (hok y (by simp [hy]))).resolve_right (h2 y hy)
  · rcases List.mem_cons.1 hz with rfl | hz
    · rcases tQ L1 with rfl | ⟨A, q, rfl⟩
      · cases hy
      · have hq := h1 q (by simp)
        rcases List.mem_append.1 hy with h | h
        · have := (List.pairwise_append.1 hp.1).2.2 y h q (by simp)
          exact hc.tr y q _ (hok y (by simp [h])) (hok q (by simp)) hx this hq
        · simp at h; subst h; exact hq
    · exact hp.2.2 y hy z hz
end sorted

section insertion
variable {cmp : aB → aB → Option Int} {ok : aB → Prop} {le : aB → aB → Prop}
theorem aGr (hc : mC cmp ok le) (again : Int → List aB → Option (List aB)) {a b i : Int} {P : List aB} (ha : a = P.length) (x : aB) (hx : ok x) :
    ∀ (n : Nat) (L R : List aB) (k : Nat), L.length = n → (∀ y ∈ L, ok y) → n < k → (P ++ L).length < 4611686018427387904 →
      ∃ L1 L2, L = L1 ++ L2 ∧ (∀ y ∈ L2, ¬ le y x) ∧ (∀ y, L1.getLast? = some y → le y x) ∧
        cA again a b cmp i k ((P ++ L).length : Nat) (P ++ L ++ x :: R) = again (w64 (i + 1)) (P ++ (L1 ++ x :: L2) ++ R) := by
  intro n
  induction n with
  | zero =>
    intro L R k hl hok hk hb
    have : L = [] := List.length_eq_zero_iff.1 hl
    subst this
    obtain ⟨k, rfl⟩ : ∃ q, k = q + 1 := ⟨k - 1, by omega⟩
    refine ⟨[], [], rfl, by simp, by simp, ?_⟩
    simp only [cA, ha, List.append_nil, Int.lt_irrefl, decide_false, cond_false, Option.bind_some, eC, eB, List.nil_append]
    simp
  | succ n ih =>
    intro L R k hl hok hk hb
    obtain ⟨k, rfl⟩ : ∃ q, k = q + 1 := ⟨k - 1, by omega⟩
    rcases tQ L with rfl | ⟨L', y, rfl⟩
    · simp at hl
    simp only [List.length_append, List.length_singleton] at hl hb
    have hoy : ok y := hok y (by simp)
    have hA : P ++ (L' ++ [y]) ++ x :: R = (P ++ L') ++ y :: x :: R := by simp
    have hj : ((P ++ (L' ++ [y])).length : Nat) = (P ++ L').length + 1 := by simp [Nat.add_assoc]
    have hAl : (P ++ L').length = P.length + L'.length := by simp
    have hlt : decide (a < (((P ++ L').length + 1 : Nat) : Int)) = true := decide_eq_true (by omega)
    have hw : w64 ((((P ++ L').length + 1 : Nat) : Int) - 1) = ((P ++ L').length : Int) := by rw [bY (by omega) (by omega)]; omega
    obtain ⟨r, hr, hlr⟩ := hc.run x y hx hoy
    rw [hA, hj]
    by_cases h : r < 0
    · obtain ⟨L1, L2, rfl, h2, h1, he⟩ := ih L' (y :: R) k (by omega) (fun z hz => hok z (by simp [hz])) (by omega) (by omega)
      refine ⟨L1, L2 ++ [y], by simp, fun z hz => ?_, h1, ?_⟩
      · rcases List.mem_append.1 hz with hz | hz
        · exact h2 z hz
        · simp at hz; subst hz; exact hlr.1 h
      · simp only [cA, hlt, cond_true, oW rfl, hw, kC rfl, Option.bind_some, hr, decide_eq_true h]
        have hn : (((P ++ (L1 ++ L2)).length + 1 : Nat) : Int).toNat = (P ++ (L1 ++ L2)).length + 1 := rfl
        have hn2 : (((P ++ (L1 ++ L2)).length : Nat) : Int).toNat = (P ++ (L1 ++ L2)).length := rfl
        rw [hn, hn2, xE rfl, kC rfl, Option.bind_some, sJ rfl, he]
        simp
    · refine ⟨L' ++ [y], [], by simp, by simp, fun z hz => ?_, ?_⟩
      · simp at hz; subst hz; exact Classical.byContradiction fun hn => h (hlr.2 hn)
      · simp only [cA, hlt, cond_true, oW rfl, hw, kC rfl, Option.bind_some, hr, decide_eq_false h, cond_false, eC, eB]
        simp

theorem wL (hc : mC cmp ok le) (P M S : List aB) (hok : ∀ y ∈ M, ok y) (hb : (P ++ M).length < 4611686018427387904) :
    ∃ M', M'.Perm M ∧ M'.Pairwise le ∧ cL (P ++ M ++ S) (P.length : Nat) ((P ++ M).length : Nat) cmp = some (P ++ M' ++ S) := by
  have main : ∀ (n : Nat) (L R : List aB) (k : Nat), R.length = n → n < k → (∀ y ∈ L ++ R, ok y) → (P ++ L ++ R).length < 4611686018427387904 → L.Pairwise le →
      ∃ M', M'.Perm (L ++ R) ∧ M'.Pairwise le ∧ bJ (P.length : Nat) ((P ++ L ++ R).length : Nat) cmp k ((P ++ L).length : Nat) (P ++ L ++ R ++ S) = some (P ++ M' ++ S) := by
    intro n
    induction n with
    | zero =>
      intro L R k hl hk hok hb hs
      have : R = [] := List.length_eq_zero_iff.1 hl
      subst this
      obtain ⟨k, rfl⟩ : ∃ q, k = q + 1 := ⟨k - 1, by omega⟩
      refine ⟨L, by simp, hs, ?_⟩
      simp [bJ, eA]
    | succ n ih =>
      intro L R k hl hk hok hb hs
      obtain ⟨k, rfl⟩ : ∃ q, k = q + 1 := ⟨k - 1, by omega⟩
      match R, hl with
      | x :: R, hl =>
        simp only [List.length_cons] at hl
        have hbl : (P ++ L ++ x :: R).length = P.length + L.length + (R.length + 1) := by simp [Nat.add_assoc]
        have hox : ok x := hok x (by simp)
        obtain ⟨L1, L2, rfl, h2, h1, he⟩ := aGr hc (bJ (P.length : Nat) ((P ++ L ++ x :: R).length : Nat) cmp k) (b := ((P ++ L ++ x :: R).length : Nat)) (i := ((P ++ L).length : Nat)) (a := (P.length : Nat)) rfl x hox L.length L (R ++ S) BIG rfl
          (fun y hy => hok y (by simp [hy])) (cG (by omega)) (by simp only [List.length_append]; omega)
        have hlt : decide (((P ++ (L1 ++ L2)).length : Int) < ((P ++ (L1 ++ L2) ++ x :: R).length : Int)) = true := decide_eq_true (by simp only [List.length_append, List.length_cons]; omega)
        obtain ⟨M', hp, hss, hr⟩ := ih (L1 ++ x :: L2) R k (by omega) (by omega) (fun y hy => hok y (by
            simp only [List.mem_append, List.mem_cons] at hy ⊢
            rcases hy with (h | h | h) | h <;> simp [h])) (by simp only [List.length_append, List.length_cons] at hb ⊢; omega)
            (aBf hc hox hs (fun y hy => hok y (by simp only [List.mem_append] at hy ⊢; exact .inl hy)) h2 h1)
        refine ⟨M', hp.trans ?_, hss, ?_⟩
        · have : ((L1 ++ x :: L2) ++ R).Perm (L1 ++ L2 ++ x :: R) := by
            rw [List.append_assoc, List.append_assoc, List.cons_append]
            exact List.Perm.append_left _ (List.perm_middle.symm)
          exact this
        · simp only [bJ, hlt, cond_true]
          have e1 : P ++ (L1 ++ L2) ++ x :: R ++ S = P ++ (L1 ++ L2) ++ x :: (R ++ S) := by simp
          rw [e1, he, bI (by simp only [List.length_append, List.length_cons] at hb ⊢; omega)]
          have e2 : ((P ++ (L1 ++ L2) ++ x :: R).length : Nat) = (P ++ (L1 ++ x :: L2) ++ R).length := by simp only [List.length_append, List.length_cons]; omega
          have e3 : ((P ++ (L1 ++ L2)).length + 1 : Nat) = (P ++ (L1 ++ x :: L2)).length := by simp only [List.length_append, List.length_cons]; omega
          rw [e2, e3]
          have e4 : P ++ (L1 ++ x :: L2) ++ (R ++ S) = P ++ (L1 ++ x :: L2) ++ R ++ S := by simp
          rw [e4]
          exact hr
  match M, hok, hb with
  | [], hok, hb =>
    refine ⟨[], .refl _, .nil, ?_⟩
    have hlt : decide (((P.length + 1 : Nat) : Int) < (P.length : Int)) = false := decide_eq_false (by omega)
    unfold cL
    simp only [List.append_nil] at hb ⊢
    rw [zQ, bI (by omega)]
    generalize 18446744073709551615 = kk
    simp only [bJ, hlt, cond_false, eA]
  | x :: M, hok, hb =>
    simp only [List.length_append, List.length_cons] at hb
    obtain ⟨M', h1, h2, h3⟩ := main M.length [x] M BIG rfl (cG (by omega)) (fun y hy => hok y (by simpa using hy)) (by simp only [List.length_append, List.length_cons, List.length_nil]; omega) (List.pairwise_singleton _ _)
    refine ⟨M', by simpa using h1, h2, ?_⟩
    unfold cL
    rw [bI (by omega)]
    have e1 : (P ++ [x]).length = P.length + 1 := by simp
    have e2 : P ++ [x] ++ M = P ++ x :: M := by simp
    rw [e1, e2] at h3
    exact h3
end insertion
end Go.Am

end
section
namespace Go.Am

section lists
variable {α : Type}
theorem aFg {A : List α} {u : α} {B : List α} {v : α} {C : List α} {p : Int} (h : p = ((A.length + 1 + B.length : Nat) : Int)) : idx (A ++ u :: (B ++ v :: C)) p = some v := by
  have : A ++ u :: (B ++ v :: C) = (A ++ u :: B) ++ v :: C := by simp
  rw [this, kC (by rw [h]; simp; omega)]
theorem aJp {A : List α} {u : α} {B : List α} {v w : α} {C : List α} {p : Nat} (h : p = A.length + 1 + B.length) : (A ++ u :: (B ++ v :: C)).set p w = A ++ u :: (B ++ w :: C) := by
  have : A ++ u :: (B ++ v :: C) = (A ++ u :: B) ++ v :: C := by simp
  rw [this, sJ (by rw [h]; simp; omega)]; simp
theorem sE {i j : Nat} (h : i + j < 4611686018427387904) : w64 ((IntKind.u64.wrap (w64 ((i : Int) + (j : Int)))).fdiv (2 ^ (min (1 : Int).toNat 64))) = (((i + j) / 2 : Nat) : Int) := by
  have e1 : w64 ((i : Int) + (j : Int)) = ((i + j : Nat) : Int) := by rw [bY (by omega) (by omega)]; omega
  have e2 : IntKind.u64.wrap ((i + j : Nat) : Int) = ((i + j : Nat) : Int) := by
    simp only [IntKind.wrap, IntKind.signed, IntKind.bits]
    simp
    omega
  have e3 : (2 : Int) ^ (min (1 : Int).toNat 64) = 2 := by decide
  rw [e1, e2, e3, Int.fdiv_eq_ediv_of_nonneg _ (by omega), bY (by omega) (by omega)]
  omega
/-- A search by halves. -/
theorem aBk {T : Type} (F : Nat → Int → Int → T) (K : Int → T) (good : Nat → Prop) (lo hi : Nat) (hstep : ∀ k (i j : Nat), lo ≤ i → i < j → j ≤ hi → (good ((i + j) / 2) ∧ F (k + 1) i j = F k (((i + j) / 2 + 1 : Nat) : Int) j) ∨ (¬ good ((i + j) / 2) ∧ F (k + 1) i j = F k i (((i + j) / 2 : Nat) : Int)))
    (hstop : ∀ k (i : Nat), F (k + 1) i i = K i) (mono : ∀ x y, lo ≤ x → x ≤ y → y < hi → good y → good x) (hlh : lo ≤ hi) {k : Nat} (hk : hi - lo < k) :
    ∃ r : Nat, lo ≤ r ∧ r ≤ hi ∧ F k lo hi = K r ∧ (∀ x, lo ≤ x → x < r → good x) ∧ (∀ x, r ≤ x → x < hi → ¬ good x) := by
  have main : ∀ (d : Nat) (i j : Nat) (k : Nat), j - i = d → d < k → lo ≤ i → i ≤ j → j ≤ hi → (∀ x, lo ≤ x → x < i → good x) → (∀ x, j ≤ x → x < hi → ¬ good x) →
      ∃ r : Nat, lo ≤ r ∧ r ≤ hi ∧ F k i j = K r ∧ (∀ x, lo ≤ x → x < r → good x) ∧ (∀ x, r ≤ x → x < hi → ¬ good x) := by
    intro d
    induction d using Nat.strongRecOn with
    | _ d ih =>
      intro i j k hd hk h1 h2 h3 h4 h5
      obtain ⟨k, rfl⟩ : ∃ q, k = q + 1 := ⟨k - 1, by omega⟩
      rcases Nat.eq_or_lt_of_le h2 with rfl | hlt
      · exact ⟨i, h1, h3, hstop k i, h4, h5⟩
      · rcases hstep k i j h1 hlt h3 with ⟨hg, he⟩ | ⟨hg, he⟩
        · rw [he]
          refine ih (j - ((i + j) / 2 + 1)) (by omega) _ j k rfl (by omega) (by omega) (by omega) h3 (fun x hx hxr => ?_) h5
          exact mono x ((i + j) / 2) hx (by omega) (by omega) hg
        · rw [he]
          refine ih ((i + j) / 2 - i) (by omega) i _ k rfl (by omega) h1 (by omega) (by omega) h4 fun x hx hxr hgx => ?_
          exact hg (mono _ x (by omega) hx hxr hgx)
  exact main _ lo hi k rfl hk (Nat.le_refl _) hlh (Nat.le_refl _) (fun x h1 h2 => by omega) (fun x h1 h2 => by omega)
end lists

section rotate
variable {cmp : aB → aB → Option Int}
theorem sL (P U Q V S : List aB) (hl : U.length = V.length) (hb : (P ++ U ++ Q ++ V ++ S).length < 4611686018427387904) :
    cV (P ++ U ++ Q ++ V ++ S) (P.length : Nat) ((P ++ U ++ Q).length : Nat) (U.length : Nat) cmp = some (P ++ V ++ Q ++ U ++ S) := by
  have main : ∀ (n : Nat) (U1 U2 V1 V2 : List aB) (k : Nat), U2.length = n → V2.length = n → U1.length = V1.length → n < k → (P ++ U1 ++ U2 ++ Q ++ V1 ++ V2).length < 4611686018427387904 →
      cO (P.length : Nat) ((P.length + (U1.length + U2.length) + Q.length : Nat) : Int) ((U1.length + U2.length : Nat) : Int) k (U1.length : Nat) (P ++ V1 ++ U2 ++ Q ++ U1 ++ V2 ++ S) = some (P ++ (V1 ++ V2) ++ Q ++ (U1 ++ U2) ++ S) := by
    intro n
    induction n with
    | zero =>
      intro U1 U2 V1 V2 k h1 h2 h3 hk hb
      have : U2 = [] := List.length_eq_zero_iff.1 h1
      subst this
      have : V2 = [] := List.length_eq_zero_iff.1 h2
      subst this
      obtain ⟨k, rfl⟩ : ∃ q, k = q + 1 := ⟨k - 1, by omega⟩
      simp [cO, gV]
    | succ n ih =>
      intro U1 U2 V1 V2 k h1 h2 h3 hk hb
      obtain ⟨k, rfl⟩ : ∃ q, k = q + 1 := ⟨k - 1, by omega⟩
      match U2, h1, V2, h2 with
      | u :: U2, h1, v :: V2, h2 =>
        simp only [List.length_cons] at h1 h2
        simp only [List.length_append, List.length_cons] at hb
        have hlt : decide ((U1.length : Int) < ((U1.length + (u :: U2).length : Nat) : Int)) = true := decide_eq_true (by simp only [List.length_cons]; omega)
        have ea : w64 ((P.length : Int) + (U1.length : Int)) = (((P ++ V1).length : Nat) : Int) := by rw [bY (by omega) (by omega)]; simp only [List.length_append]; omega
        have eb : w64 (((P.length + (U1.length + (u :: U2).length) + Q.length : Nat) : Int) + (U1.length : Int)) = (((P ++ V1).length + 1 + (U2 ++ Q ++ U1).length : Nat) : Int) := by
          rw [bY (by omega) (by simp only [List.length_cons]; omega)]; simp only [List.length_append, List.length_cons]; omega
        have ed : P ++ V1 ++ u :: U2 ++ Q ++ U1 ++ v :: V2 ++ S = (P ++ V1) ++ u :: ((U2 ++ Q ++ U1) ++ v :: (V2 ++ S)) := by simp
        rw [ed]
        simp only [cO, hlt, cond_true, ea, eb, aFg rfl, kC rfl, Option.bind_some]
        have t1 : (((P ++ V1).length : Nat) : Int).toNat = (P ++ V1).length := rfl
        have t2 : (((P ++ V1).length + 1 + (U2 ++ Q ++ U1).length : Nat) : Int).toNat = (P ++ V1).length + 1 + (U2 ++ Q ++ U1).length := rfl
        rw [t1, t2, sJ rfl, aFg rfl, Option.bind_some, aJp rfl, bI (by omega)]
        have := ih (U1 ++ [u]) U2 (V1 ++ [v]) V2 k (by omega) (by omega) (by simp [h3]) (by omega) (by simp only [List.length_append, List.length_cons, List.length_nil]; omega)
        have e1 : (U1 ++ [u]).length + U2.length = U1.length + (u :: U2).length := by simp; omega
        have e2 : (U1 ++ [u]).length = U1.length + 1 := by simp
        rw [e1, e2] at this
        have e3 : P ++ (V1 ++ [v]) ++ U2 ++ Q ++ (U1 ++ [u]) ++ V2 ++ S = (P ++ V1) ++ v :: ((U2 ++ Q ++ U1) ++ u :: (V2 ++ S)) := by simp
        rw [e3] at this
        rw [this]
        simp
  unfold cV
  simp only [List.length_append] at hb
  have := main U.length [] U [] V BIG rfl hl.symm rfl (cG (by omega)) (by simp only [List.length_append, List.length_nil]; omega)
  simp only [List.append_nil, List.nil_append, List.length_nil, Nat.zero_add] at this
  simp only [List.length_append]
  exact this

theorem aEs (P U V S : List aB) (hu : U ≠ []) (hv : V ≠ []) (hb : (P ++ U ++ V ++ S).length < 4611686018427387904) :
    dQ (P ++ U ++ V ++ S) (P.length : Nat) ((P ++ U).length : Nat) ((P ++ U ++ V).length : Nat) cmp = some (P ++ V ++ U ++ S) := by
  have main : ∀ (d : Nat) (P U V S : List aB) (k : Nat), U.length + V.length = d → d < k → 0 < U.length → 0 < V.length → (P ++ U ++ V ++ S).length < 4611686018427387904 →
      cC ((P.length + U.length : Nat) : Int) cmp k (U.length : Nat) (V.length : Nat) (P ++ U ++ V ++ S) = some (P ++ V ++ U ++ S) := by
    intro d
    induction d using Nat.strongRecOn with
    | _ d ih =>
      intro P U V S k hd hk hu hv hb
      obtain ⟨k, rfl⟩ : ∃ q, k = q + 1 := ⟨k - 1, by omega⟩
      simp only [List.length_append] at hb
      have em : w64 (((P.length + U.length : Nat) : Int) - (U.length : Int)) = (P.length : Int) := by rw [bY (by omega) (by omega)]; omega
      by_cases h1 : U.length = V.length
      · have hd : (!decide ((U.length : Int) = (V.length : Int))) = false := by rw [decide_eq_true (by omega)]; rfl
        simp only [cC, hd, cond_false, iM, em]
        have := sL (cmp := cmp) P U [] V S h1 (by simp only [List.length_append, List.length_nil]; omega)
        simp only [List.append_nil, List.length_append] at this
        rw [this]; rfl
      · have hd' : (!decide ((U.length : Int) = (V.length : Int))) = true := by rw [decide_eq_false (by omega)]; rfl
        by_cases h2 : V.length < U.length
        · obtain ⟨U1, U2, rfl, hl1⟩ : ∃ U1 U2, U = U1 ++ U2 ∧ U1.length = V.length := ⟨U.take V.length, U.drop V.length, by simp, by simp; omega⟩
          simp only [List.length_append] at h1 h2 hd hu hb em hd'
          have hlt : decide ((V.length : Int) < ((U1.length + U2.length : Nat) : Int)) = true := decide_eq_true (by omega)
          simp only [cC, List.length_append, hd', cond_true, hlt, em]
          have sw := sL (cmp := cmp) P U1 U2 V S hl1 (by simp only [List.length_append]; omega)
          simp only [List.length_append] at sw
          have e1 : P ++ (U1 ++ U2) ++ V ++ S = P ++ U1 ++ U2 ++ V ++ S := by simp
          rw [e1, show P.length + (U1.length + U2.length) = P.length + U1.length + U2.length by omega, ← hl1, sw, Option.bind_some]
          have hw : w64 (((U1.length + U2.length : Nat) : Int) - (U1.length : Int)) = (U2.length : Int) := by rw [bY (by omega) (by omega)]; omega
          rw [hw]
          have := ih (U2.length + U1.length) (by omega) (P ++ V) U2 U1 S k rfl (by omega) (by omega) (by omega) (by simp only [List.length_append]; omega)
          simp only [List.length_append] at this
          rw [show P.length + V.length + U2.length = P.length + U1.length + U2.length by omega] at this
          rw [this]; simp
        · obtain ⟨V1, V2, rfl, hl2⟩ : ∃ V1 V2, V = V1 ++ V2 ∧ V2.length = U.length := ⟨V.take (V.length - U.length), V.drop (V.length - U.length), by simp, by simp; omega⟩
          simp only [List.length_append] at h1 h2 hd hv hb hd'
          have hlt : decide (((V1.length + V2.length : Nat) : Int) < (U.length : Int)) = false := decide_eq_false (by omega)
          have hw1 : w64 (((P.length + U.length : Nat) : Int) + ((V1.length + V2.length : Nat) : Int)) = ((P.length + U.length + (V1.length + V2.length) : Nat) : Int) := by rw [bY (by omega) (by omega)]; omega
          have hw2 : w64 (((P.length + U.length + (V1.length + V2.length) : Nat) : Int) - (U.length : Int)) = ((P.length + U.length + V1.length : Nat) : Int) := by rw [bY (by omega) (by omega)]; omega
          have hw3 : w64 (((V1.length + V2.length : Nat) : Int) - (U.length : Int)) = (V1.length : Int) := by rw [bY (by omega) (by omega)]; omega
          simp only [cC, List.length_append, hd', cond_true, hlt, cond_false, em, hw1, hw2, hw3]
          have sw := sL (cmp := cmp) P U V1 V2 S hl2.symm (by simp only [List.length_append]; omega)
          simp only [List.length_append] at sw
          have e1 : P ++ U ++ (V1 ++ V2) ++ S = P ++ U ++ V1 ++ V2 ++ S := by simp
          rw [e1, sw, Option.bind_some]
          have := ih (V2.length + V1.length) (by omega) P V2 V1 (U ++ S) k rfl (by omega) (by omega) (by omega) (by simp only [List.length_append]; omega)
          rw [hl2] at this
          have e2 : P ++ V2 ++ V1 ++ U ++ S = P ++ V2 ++ V1 ++ (U ++ S) := by simp
          rw [e2, this]; simp
  have hu' : 0 < U.length := List.length_pos_iff.2 hu
  have hv' : 0 < V.length := List.length_pos_iff.2 hv
  unfold dQ
  simp only [List.length_append] at hb ⊢
  have e1 : w64 (((P.length + U.length : Nat) : Int) - (P.length : Int)) = (U.length : Int) := by rw [bY (by omega) (by omega)]; omega
  have e2 : w64 (((P.length + U.length + V.length : Nat) : Int) - ((P.length + U.length : Nat) : Int)) = (V.length : Int) := by rw [bY (by omega) (by omega)]; omega
  rw [e1, e2]
  exact main _ P U V S BIG rfl (cG (by omega)) hu' hv' (by simp only [List.length_append]; omega)
end rotate
end Go.Am

end
section
namespace Go.Am

section shift
variable {cmp : aB → aB → Option Int}
theorem aFa (again : List aB → Int → Int → Int → Option (List aB)) {i : Nat} (x : aB) (R : List aB) : ∀ (V A : List aB) (k : Nat), A.length + V.length + 1 = i → i < 4611686018427387904 → V.length < k →
    cP again (i : Nat) k (A.length : Nat) (A ++ x :: (V ++ R)) = some (A ++ V ++ x :: R) := by
  intro V
  induction V with
  | nil =>
    intro A k h1 h2 hk
    obtain ⟨k, rfl⟩ : ∃ q, k = q + 1 := ⟨k - 1, by omega⟩
    have hw : w64 ((i : Int) - 1) = (A.length : Int) := by rw [bY (by omega) (by omega)]; simp at h1; omega
    simp [cP, hw, iA]
  | cons v V ih =>
    intro A k h1 h2 hk
    obtain ⟨k, rfl⟩ : ∃ q, k = q + 1 := ⟨k - 1, by omega⟩
    simp only [List.length_cons] at h1 hk
    have hw : w64 ((i : Int) - 1) = ((i - 1 : Nat) : Int) := by rw [bY (by omega) (by omega)]; omega
    have hlt : decide ((A.length : Int) < ((i - 1 : Nat) : Int)) = true := decide_eq_true (by omega)
    have hw1 : w64 ((A.length : Int) + 1) = ((A.length + 1 : Nat) : Int) := bI (by omega)
    have e1 : A ++ x :: (v :: V ++ R) = A ++ x :: v :: (V ++ R) := by simp
    have t1 : ((A.length : Nat) : Int).toNat = A.length := rfl
    have t2 : ((A.length + 1 : Nat) : Int).toNat = A.length + 1 := rfl
    simp only [cP, hw, hlt, cond_true, hw1, e1, oW rfl, kC rfl, Option.bind_some, t1, t2, sJ rfl, xE rfl]
    have := ih (A ++ [v]) k (by simp; omega) h2 (by omega)
    simp only [List.length_append, List.length_singleton] at this
    have e2 : (A ++ [v]) ++ x :: (V ++ R) = A ++ v :: x :: (V ++ R) := by simp
    rw [e2] at this
    rw [this]; simp
theorem aEz (again : List aB → Int → Int → Int → Option (List aB)) {i : Nat} (y : aB) (A : List aB) (hi : i = A.length) : ∀ (n : Nat) (U R : List aB) (k : Nat), U.length = n → (A ++ U).length < 4611686018427387904 → n < k →
    cQ again (i : Nat) k ((A ++ U).length : Nat) (A ++ U ++ y :: R) = some (A ++ y :: (U ++ R)) := by
  subst hi
  intro n
  induction n with
  | zero =>
    intro U R k h1 h2 hk
    have : U = [] := List.length_eq_zero_iff.1 h1
    subst this
    obtain ⟨k, rfl⟩ : ∃ q, k = q + 1 := ⟨k - 1, by omega⟩
    simp [cQ, iB]
  | succ n ih =>
    intro U R k h1 h2 hk
    obtain ⟨k, rfl⟩ : ∃ q, k = q + 1 := ⟨k - 1, by omega⟩
    rcases tQ U with rfl | ⟨U', u, rfl⟩
    · simp at h1
    simp only [List.length_append, List.length_singleton] at h1 h2
    have hA : A ++ (U' ++ [u]) ++ y :: R = (A ++ U') ++ u :: y :: R := by simp
    have hj : ((A ++ (U' ++ [u])).length : Nat) = (A ++ U').length + 1 := by simp; omega
    have hlt : decide ((A.length : Int) < (((A ++ U').length + 1 : Nat) : Int)) = true := decide_eq_true (by simp only [List.length_append]; omega)
    have hw : w64 ((((A ++ U').length + 1 : Nat) : Int) - 1) = ((A ++ U').length : Int) := by rw [bY (by simp only [List.length_append]; omega) (by simp only [List.length_append]; omega)]; omega
    have t1 : (((A ++ U').length : Nat) : Int).toNat = (A ++ U').length := rfl
    have t2 : (((A ++ U').length + 1 : Nat) : Int).toNat = (A ++ U').length + 1 := rfl
    rw [hA, hj]
    simp only [cQ, hlt, cond_true, hw, kC rfl, oW rfl, Option.bind_some, t1, t2, xE rfl, sJ rfl]
    rw [ih U' (u :: R) k (by omega) (by simp only [List.length_append]; omega) (by omega)]
    simp
end shift

section merge
variable {cmp : aB → aB → Option Int} {ok : aB → Prop} {le : aB → aB → Prop}
theorem mT (hc : mC cmp ok le) {L : List aB} (hs : L.Pairwise le) (hok : ∀ y ∈ L, ok y) {i j : Nat} (hij : i ≤ j) (hj : j < L.length) : le (L[i]'(by omega)) L[j] := by
  rcases Nat.eq_or_lt_of_le hij with rfl | h
  · have h1 := hok L[i] (List.getElem_mem _)
    exact (hc.tot _ _ h1 h1).elim id id
  · exact List.pairwise_iff_getElem.1 hs i j (by omega) hj h

/-- What one call of the merge does, if the calls inside do so. -/
def xR (ok : aB → Prop) (le : aB → aB → Prop) (f : List aB → Int → Int → Int → Option (List aB)) (N : Nat) : Prop :=
  ∀ (P U V S : List aB), U.length + V.length < N → 0 < U.length → 0 < V.length → (∀ y ∈ U ++ V, ok y) → U.Pairwise le → V.Pairwise le → (P ++ U ++ V ++ S).length < 1152921504606846976 →
    ∃ W, W.Perm (U ++ V) ∧ W.Pairwise le ∧ f (P ++ U ++ V ++ S) (P.length : Nat) ((P ++ U).length : Nat) ((P ++ U ++ V).length : Nat) = some (P ++ W ++ S)

theorem aFy (hc : mC cmp ok le) (again : List aB → Int → Int → Int → Option (List aB)) (P : List aB) (x : aB) (V S : List aB) (hok : ∀ y ∈ x :: V, ok y) (hs : V.Pairwise le) (hb : (P ++ x :: V ++ S).length < 1152921504606846976) :
    ∃ W, W.Perm (x :: V) ∧ W.Pairwise le ∧ bR again (P.length : Nat) cmp (P ++ x :: V ++ S) BIG ((P.length + 1 : Nat) : Int) ((P.length + 1 + V.length : Nat) : Int) = some (P ++ W ++ S) := by
  simp only [List.length_append, List.length_cons] at hb
  have hox := hok x (by simp)
  have hdat : ∀ t (ht : t < V.length), idx (P ++ x :: V ++ S) ((P.length + 1 + t : Nat) : Int) = some V[t] := by
    intro t ht
    rw [cE (by simp; omega)]
    simp only [Option.some.injEq]
    rw [List.getElem_append_left (by simp; omega), List.getElem_append_right (by omega)]
    simp only [show P.length + 1 + t - P.length = t + 1 by omega, List.getElem_cons_succ]
  have hdx : idx (P ++ x :: V ++ S) (P.length : Nat) = some x := by
    have : P ++ x :: V ++ S = P ++ x :: (V ++ S) := by simp
    rw [this, kC rfl]
  have hbs := aBk (fun k i j => bR again (P.length : Nat) cmp (P ++ x :: V ++ S) k i j) (fun i => fB again (P.length : Nat) i (P ++ x :: V ++ S))
    (fun h => ∀ v, V[h - (P.length + 1)]? = some v → ¬ le x v) (P.length + 1) (P.length + 1 + V.length) (k := BIG) ?_ ?_ ?_ (by omega) (cG (by omega))
  · obtain ⟨r, h1, h2, h3, h4, h5⟩ := hbs
    obtain ⟨t, rfl⟩ : ∃ t, r = P.length + 1 + t := ⟨r - (P.length + 1), by omega⟩
    have htl : t ≤ V.length := by omega
    refine ⟨V.take t ++ x :: V.drop t, ?_, ?_, ?_⟩
    · have : (V.take t ++ x :: V.drop t).Perm (x :: (V.take t ++ V.drop t)) := List.perm_middle
      rwa [List.take_append_drop] at this
    · have hp := List.pairwise_append.1 (show (V.take t ++ V.drop t).Pairwise le by rw [List.take_append_drop]; exact hs)
      have hlo : ∀ y ∈ V.take t, ¬ le x y := by
        intro y hy
        obtain ⟨q, hq, rfl⟩ := List.getElem_of_mem hy
        have hq' : q < t := by simp at hq; omega
        refine h4 (P.length + 1 + q) (by omega) (by omega) _ ?_
        rw [show P.length + 1 + q - (P.length + 1) = q by omega, List.getElem_take, List.getElem?_eq_getElem]
      have hhi : ∀ y ∈ V.drop t, le x y := by
        intro y hy
        obtain ⟨q, hq, rfl⟩ := List.getElem_of_mem hy
        simp only [List.length_drop] at hq
        have := h5 (P.length + 1 + (t + q)) (by omega) (by omega)
        refine Classical.byContradiction fun hn => this fun v hv => ?_
        rw [show P.length + 1 + (t + q) - (P.length + 1) = t + q by omega, List.getElem?_eq_getElem (by omega)] at hv
        cases hv
        rwa [List.getElem_drop] at hn
      refine List.pairwise_append.2 ⟨hp.1, List.pairwise_cons.2 ⟨hhi, hp.2.1⟩, fun y hy z hz => ?_⟩
      rcases List.mem_cons.1 hz with rfl | hz
      · exact (hc.tot y z (hok y (List.mem_cons_of_mem _ (List.mem_of_mem_take hy))) hox).resolve_right (hlo y hy)
      · exact hp.2.2 y hy z hz
    · rw [h3]
      unfold fB
      have hvd : V = V.take t ++ V.drop t := (List.take_append_drop t V).symm
      have e1 : P ++ x :: V ++ S = P ++ x :: (V.take t ++ (V.drop t ++ S)) := by rw [← List.append_assoc (V.take t), List.take_append_drop]; simp
      rw [e1]
      have := aFa again (i := P.length + 1 + t) x (V.drop t ++ S) (V.take t) P BIG (by simp; omega) (by omega) (cG (by simp; omega))
      rw [this]; simp
  · intro k i j hi hij hj
    have hh : i + j < 4611686018427387904 := by omega
    have hlt : decide ((i : Int) < (j : Int)) = true := decide_eq_true (by omega)
    obtain ⟨t, ht, htv⟩ : ∃ t, (i + j) / 2 = P.length + 1 + t ∧ t < V.length := ⟨(i + j) / 2 - (P.length + 1), by omega, by omega⟩
    obtain ⟨n, hn, hiff⟩ := hc.run V[t] x (hok _ (List.mem_cons_of_mem _ (List.getElem_mem htv))) hox
    have hg : (∀ v, V[(i + j) / 2 - (P.length + 1)]? = some v → ¬ le x v) ↔ ¬ le x V[t] := by
      rw [ht, show P.length + 1 + t - (P.length + 1) = t by omega, List.getElem?_eq_getElem htv]
      exact ⟨fun h => h _ rfl, fun h v hv => by cases hv; exact h⟩
    by_cases h : n < 0
    · refine .inl ⟨hg.2 (hiff.1 h), ?_⟩
      simp only [bR, hlt, cond_true, sE hh, ht, hdat t htv, hdx, Option.bind_some, hn, decide_eq_true h, bI (show P.length + 1 + t < 9223372036854775807 by omega)]
    · refine .inr ⟨fun hgg => h (hiff.2 (hg.1 hgg)), ?_⟩
      simp only [bR, hlt, cond_true, sE hh, ht, hdat t htv, hdx, Option.bind_some, hn, decide_eq_false h, cond_false]
  · intro k i
    have hlt : decide ((i : Int) < (i : Int)) = false := decide_eq_false (by omega)
    simp only [bR, hlt, cond_false]
  · intro p q hp hpq hq hg v hv hle
    have hq' : q - (P.length + 1) < V.length := by omega
    have hp' : p - (P.length + 1) < V.length := by omega
    rw [List.getElem?_eq_getElem hp'] at hv
    cases hv
    have hm := mT hc hs (fun y hy => hok y (List.mem_cons_of_mem _ hy)) (i := p - (P.length + 1)) (j := q - (P.length + 1)) (by omega) hq'
    exact hg _ (List.getElem?_eq_getElem hq') (hc.tr x _ _ hox (hok _ (List.mem_cons_of_mem _ (List.getElem_mem _))) (hok _ (List.mem_cons_of_mem _ (List.getElem_mem _))) hle hm)

theorem aEq (hc : mC cmp ok le) (again : List aB → Int → Int → Int → Option (List aB)) (P U : List aB) (y : aB) (S : List aB) (hok : ∀ z ∈ U ++ [y], ok z) (hs : U.Pairwise le) (hb : (P ++ U ++ y :: S).length < 1152921504606846976) :
    ∃ W, W.Perm (U ++ [y]) ∧ W.Pairwise le ∧ bT again ((P.length + U.length : Nat) : Int) cmp (P ++ U ++ y :: S) BIG (P.length : Nat) ((P.length + U.length : Nat) : Int) = some (P ++ W ++ S) := by
  simp only [List.length_append, List.length_cons] at hb
  have hoy := hok y (by simp)
  have hdat : ∀ t (ht : t < U.length), idx (P ++ U ++ y :: S) ((P.length + t : Nat) : Int) = some U[t] := by
    intro t ht
    rw [cE (by simp; omega)]
    simp only [Option.some.injEq]
    rw [List.getElem_append_left (by simp; omega), List.getElem_append_right (by omega)]
    simp only [show P.length + t - P.length = t by omega]
  have hdy : idx (P ++ U ++ y :: S) ((P.length + U.length : Nat) : Int) = some y := kC (by simp)
  have hbs := aBk (fun k i j => bT again ((P.length + U.length : Nat) : Int) cmp (P ++ U ++ y :: S) k i j) (fun i => fC again ((P.length + U.length : Nat) : Int) i (P ++ U ++ y :: S))
    (fun h => ∀ v, U[h - P.length]? = some v → le v y) P.length (P.length + U.length) (k := BIG) ?_ ?_ ?_ (by omega) (cG (by omega))
  · obtain ⟨r, h1, h2, h3, h4, h5⟩ := hbs
    obtain ⟨t, rfl⟩ : ∃ t, r = P.length + t := ⟨r - P.length, by omega⟩
    have htl : t ≤ U.length := by omega
    refine ⟨U.take t ++ y :: U.drop t, ?_, ?_, ?_⟩
    · have h1 : (U.take t ++ y :: U.drop t).Perm (y :: (U.take t ++ U.drop t)) := List.perm_middle
      rw [List.take_append_drop] at h1
      exact h1.trans (List.perm_append_singleton y U).symm
    · have hp := List.pairwise_append.1 (show (U.take t ++ U.drop t).Pairwise le by rw [List.take_append_drop]; exact hs)
      have hlo : ∀ z ∈ U.take t, le z y := by
        intro z hz
        obtain ⟨q, hq, rfl⟩ := List.getElem_of_mem hz
        have hq' : q < t := by simp at hq; omega
        refine h4 (P.length + q) (by omega) (by omega) _ ?_
        rw [show P.length + q - P.length = q by omega, List.getElem_take, List.getElem?_eq_getElem]
      have hhi : ∀ z ∈ U.drop t, le y z := by
        intro z hz
        obtain ⟨q, hq, rfl⟩ := List.getElem_of_mem hz
        simp only [List.length_drop] at hq
        have hnot := h5 (P.length + (t + q)) (by omega) (by omega)
        have hzu : (U.drop t)[q] ∈ U := List.mem_of_mem_drop (List.getElem_mem _)
        refine (hc.tot y _ hoy (hok _ (by simp [hzu]))).resolve_right fun hn => hnot fun v hv => ?_
        rw [show P.length + (t + q) - P.length = t + q by omega, List.getElem?_eq_getElem (by omega)] at hv
        cases hv
        rwa [List.getElem_drop] at hn
      refine List.pairwise_append.2 ⟨hp.1, List.pairwise_cons.2 ⟨hhi, hp.2.1⟩, fun z hz w hw => ?_⟩
      rcases List.mem_cons.1 hw with rfl | hw
      · exact hlo z hz
      · exact hp.2.2 z hz w hw
    · rw [h3]
      unfold fC
      have e1 : P ++ U ++ y :: S = (P ++ U.take t) ++ U.drop t ++ y :: S := by rw [List.append_assoc P (U.take t), List.take_append_drop]
      rw [e1]
      have := aEz again (i := P.length + t) y (P ++ U.take t) (by simp; omega) (U.drop t).length (U.drop t) S BIG rfl (by simp; omega) (cG (by simp; omega))
      have e2 : ((P ++ U.take t ++ U.drop t).length : Nat) = P.length + U.length := by simp [htl]
      rw [e2] at this
      rw [this]; simp
  · intro k i j hi hij hj
    have hh : i + j < 4611686018427387904 := by omega
    have hlt : decide ((i : Int) < (j : Int)) = true := decide_eq_true (by omega)
    obtain ⟨t, ht, htv⟩ : ∃ t, (i + j) / 2 = P.length + t ∧ t < U.length := ⟨(i + j) / 2 - P.length, by omega, by omega⟩
    obtain ⟨n, hn, hiff⟩ := hc.run y U[t] hoy (hok _ (by simp))
    have hg : (∀ v, U[(i + j) / 2 - P.length]? = some v → le v y) ↔ le U[t] y := by
      rw [ht, show P.length + t - P.length = t by omega, List.getElem?_eq_getElem htv]
      exact ⟨fun h => h _ rfl, fun h v hv => by cases hv; exact h⟩
    by_cases h : n < 0
    · refine .inr ⟨fun hgg => (hiff.1 h) (hg.1 hgg), ?_⟩
      simp only [bT, hlt, cond_true, sE hh, ht, hdat t htv, hdy, Option.bind_some, hn, decide_eq_true h, Bool.not_true, cond_false]
    · refine .inl ⟨hg.2 (Classical.byContradiction fun hle => h (hiff.2 hle)), ?_⟩
      simp only [bT, hlt, cond_true, sE hh, ht, hdat t htv, hdy, Option.bind_some, hn, decide_eq_false h, Bool.not_false, bI (show P.length + t < 9223372036854775807 by omega)]
  · intro k i
    have hlt : decide ((i : Int) < (i : Int)) = false := decide_eq_false (by omega)
    simp only [bT, hlt, cond_false]
  · intro p q hp hpq hq hg v hv
    have hq' : q - P.length < U.length := by omega
    have hp' : p - P.length < U.length := by omega
    rw [List.getElem?_eq_getElem hp'] at hv
    cases hv
    have hm := mT hc hs (fun z hz => hok z (by simp [hz])) (i := p - P.length) (j := q - P.length) (by omega) hq'
    exact hc.tr _ _ y (hok _ (by simp)) (hok _ (by simp)) hoy hm (hg _ (List.getElem?_eq_getElem hq'))
end merge
end Go.Am

end
section
namespace Go.Am

section merge
variable {cmp : aB → aB → Option Int} {ok : aB → Prop} {le : aB → aB → Prop}
theorem aIo (hc : mC cmp ok le) {again : List aB → Int → Int → Int → Option (List aB)} {N : Nat} (ih : xR ok le again N) (P U1 U2 V1 V2 S : List aB) (h1 : U1.length + V1.length < N) (h2 : U2.length + V2.length < N)
    (hok : ∀ y ∈ U1 ++ U2 ++ V1 ++ V2, ok y) (s1 : U1.Pairwise le) (s2 : U2.Pairwise le) (s3 : V1.Pairwise le) (s4 : V2.Pairwise le) (hb : (P ++ U1 ++ U2 ++ V1 ++ V2 ++ S).length < 1152921504606846976)
    {a m b mid n start : Int} (ea : a = (P.length : Nat)) (em : m = ((P.length + U1.length + U2.length : Nat) : Int)) (eb : b = ((P.length + U1.length + U2.length + V1.length + V2.length : Nat) : Int)) (emid : mid = ((P.length + U1.length + V1.length : Nat) : Int)) (en : n = mid + m) (es : start = ((P.length + U1.length : Nat) : Int)) :
    ∃ W1 W2, W1.Perm (U1 ++ V1) ∧ W1.Pairwise le ∧ W2.Perm (U2 ++ V2) ∧ W2.Pairwise le ∧ cH again a m b cmp mid n start (P ++ U1 ++ U2 ++ V1 ++ V2 ++ S) = some (P ++ W1 ++ W2 ++ S) := by
  simp only [List.length_append] at hb
  have eend : w64 (n - start) = ((P.length + U1.length + U2.length + V1.length : Nat) : Int) := by rw [bY (by omega) (by omega)]; omega
  -- the three steps
  have step1 : (bif decide (start < m) then some (decide (m < w64 (n - start))) else some false).bind (fun q => bif q then dQ (P ++ U1 ++ U2 ++ V1 ++ V2 ++ S) start m (w64 (n - start)) cmp else some (P ++ U1 ++ U2 ++ V1 ++ V2 ++ S)) = some (P ++ U1 ++ V1 ++ U2 ++ V2 ++ S) := by
    rw [eend, fW, Option.bind_some]
    by_cases hh : 0 < U2.length ∧ 0 < V1.length
    · have : (decide (start < m) && decide (m < ((P.length + U1.length + U2.length + V1.length : Nat) : Int))) = true := by simp only [Bool.and_eq_true, decide_eq_true_eq]; omega
      rw [this, cond_true]
      have hr := aEs (cmp := cmp) (P ++ U1) U2 V1 (V2 ++ S) (List.length_pos_iff.1 hh.1) (List.length_pos_iff.1 hh.2) (by simp only [List.length_append]; omega)
      simp only [List.length_append] at hr
      rw [es, em]
      have e1 : P ++ U1 ++ U2 ++ V1 ++ V2 ++ S = P ++ U1 ++ U2 ++ V1 ++ (V2 ++ S) := by simp
      rw [e1, hr]; simp
    · have : (decide (start < m) && decide (m < ((P.length + U1.length + U2.length + V1.length : Nat) : Int))) = false := by
        rw [Bool.eq_false_iff]; simp only [ne_eq, Bool.and_eq_true, decide_eq_true_eq]; omega
      rw [this, cond_false]
      rcases Nat.eq_zero_or_pos U2.length with h | h
      · rw [List.length_eq_zero_iff.1 h]; simp
      · have : V1 = [] := List.length_eq_zero_iff.1 (by omega)
        rw [this]; simp
  obtain ⟨W1, p1, q1, step2⟩ : ∃ W1, W1.Perm (U1 ++ V1) ∧ W1.Pairwise le ∧ (bif decide (a < start) then some (decide (start < mid)) else some false).bind (fun q => bif q then again (P ++ U1 ++ V1 ++ U2 ++ V2 ++ S) a start mid else some (P ++ U1 ++ V1 ++ U2 ++ V2 ++ S)) = some (P ++ W1 ++ U2 ++ V2 ++ S) := by
    rw [fW, Option.bind_some]
    by_cases hh : 0 < U1.length ∧ 0 < V1.length
    · have : (decide (a < start) && decide (start < mid)) = true := by simp only [Bool.and_eq_true, decide_eq_true_eq]; omega
      rw [this]
      obtain ⟨W, hp, hs, hr⟩ := ih P U1 V1 (U2 ++ V2 ++ S) h1 hh.1 hh.2 (fun y hy => hok y (by simp only [List.mem_append] at hy ⊢; rcases hy with h | h <;> simp [h])) s1 s3 (by simp only [List.length_append]; omega)
      simp only [List.length_append] at hr
      refine ⟨W, hp, hs, ?_⟩
      rw [cond_true, ea, es, emid]
      have e1 : P ++ U1 ++ V1 ++ U2 ++ V2 ++ S = P ++ U1 ++ V1 ++ (U2 ++ V2 ++ S) := by simp
      rw [e1, hr]; simp
    · have : (decide (a < start) && decide (start < mid)) = false := by
        rw [Bool.eq_false_iff]; simp only [ne_eq, Bool.and_eq_true, decide_eq_true_eq]; omega
      rw [this]
      refine ⟨U1 ++ V1, .refl _, ?_, by rw [cond_false]; simp⟩
      rcases Nat.eq_zero_or_pos U1.length with h | h
      · rw [List.length_eq_zero_iff.1 h]; simpa using s3
      · have : V1 = [] := List.length_eq_zero_iff.1 (by omega)
        rw [this]; simpa using s1
  have hW1 : W1.length = U1.length + V1.length := by rw [p1.length_eq, List.length_append]
  obtain ⟨W2, p2, q2, step3⟩ : ∃ W2, W2.Perm (U2 ++ V2) ∧ W2.Pairwise le ∧ (bif decide (mid < w64 (n - start)) then some (decide (w64 (n - start) < b)) else some false).bind (fun q => bif q then again (P ++ W1 ++ U2 ++ V2 ++ S) mid (w64 (n - start)) b else some (P ++ W1 ++ U2 ++ V2 ++ S)) = some (P ++ W1 ++ W2 ++ S) := by
    rw [eend, fW, Option.bind_some]
    by_cases hh : 0 < U2.length ∧ 0 < V2.length
    · have : (decide (mid < ((P.length + U1.length + U2.length + V1.length : Nat) : Int)) && decide (((P.length + U1.length + U2.length + V1.length : Nat) : Int) < b)) = true := by simp only [Bool.and_eq_true, decide_eq_true_eq]; omega
      rw [this]
      obtain ⟨W, hp, hs, hr⟩ := ih (P ++ W1) U2 V2 S h2 hh.1 hh.2 (fun y hy => hok y (by simp only [List.mem_append] at hy ⊢; rcases hy with h | h <;> simp [h])) s2 s4 (by simp only [List.length_append]; omega)
      simp only [List.length_append] at hr
      refine ⟨W, hp, hs, ?_⟩
      rw [cond_true, emid, eb]
      rw [show P.length + U1.length + V1.length = P.length + W1.length by omega, show P.length + U1.length + U2.length + V1.length = P.length + W1.length + U2.length by omega, show P.length + W1.length + U2.length + V2.length = P.length + W1.length + U2.length + V2.length from rfl]
      exact hr
    · have : (decide (mid < ((P.length + U1.length + U2.length + V1.length : Nat) : Int)) && decide (((P.length + U1.length + U2.length + V1.length : Nat) : Int) < b)) = false := by
        rw [Bool.eq_false_iff]; simp only [ne_eq, Bool.and_eq_true, decide_eq_true_eq]; omega
      rw [this]
      refine ⟨U2 ++ V2, .refl _, ?_, by rw [cond_false]; simp⟩
      rcases Nat.eq_zero_or_pos U2.length with h | h
      · rw [List.length_eq_zero_iff.1 h]; simpa using s4
      · have : V2 = [] := List.length_eq_zero_iff.1 (by omega)
        rw [this]; simpa using s2
  refine ⟨W1, W2, p1, q1, p2, q2, ?_⟩
  -- the text
  have fin : ∀ (d : List aB) (x : Option (List aB)) (k : List aB → Option (List aB)) (q : Bool), (bif q then x.bind k else k d) = (bif q then x else some d).bind k := by intro d x k q; cases q <;> rfl
  unfold cH
  have h3 : ∀ d, d = P ++ W1 ++ U2 ++ V2 ++ S → ((bif decide (mid < w64 (n - start)) then some (decide (w64 (n - start) < b)) else some false).bind fun q => bif q then ((again d mid (w64 (n - start)) b).bind fun r => some r) else some d) = some (P ++ W1 ++ W2 ++ S) := by
    rintro d rfl
    rw [← step3]
    congr 1
    funext q
    cases q
    · rfl
    · simp only [cond_true]; cases again (P ++ W1 ++ U2 ++ V2 ++ S) mid (w64 (n - start)) b <;> rfl
  have h2 : ∀ d, d = P ++ U1 ++ V1 ++ U2 ++ V2 ++ S → ((bif decide (a < start) then some (decide (start < mid)) else some false).bind fun q => bif q then ((again d a start mid).bind fun r =>
      (bif decide (mid < w64 (n - start)) then some (decide (w64 (n - start) < b)) else some false).bind fun q => bif q then ((again r mid (w64 (n - start)) b).bind fun r => some r) else some r) else
      ((bif decide (mid < w64 (n - start)) then some (decide (w64 (n - start) < b)) else some false).bind fun q => bif q then ((again d mid (w64 (n - start)) b).bind fun r => some r) else some d)) = some (P ++ W1 ++ W2 ++ S) := by
    rintro d rfl
    rw [fW, Option.bind_some] at step2 ⊢
    cases hq : (decide (a < start) && decide (start < mid)) with
    | true =>
      rw [hq, cond_true] at step2
      rw [cond_true, step2, Option.bind_some]
      exact h3 _ rfl
    | false =>
      rw [hq, cond_false] at step2
      rw [cond_false]
      exact h3 _ (Option.some.inj step2)
  rw [fW, Option.bind_some] at step1 ⊢
  cases hq : (decide (start < m) && decide (m < w64 (n - start))) with
  | true =>
    rw [hq, cond_true] at step1
    rw [cond_true, step1, Option.bind_some]
    exact h2 _ rfl
  | false =>
    rw [hq, cond_false] at step1
    rw [cond_false]
    exact h2 _ (Option.some.inj step1)

theorem aCs (hc : mC cmp ok le) : ∀ (kr N : Nat), N ≤ kr → xR ok le (aR cmp kr) N := by
  intro kr
  induction kr with
  | zero => intro N hN P U V S hlt; omega
  | succ kr ih =>
    intro N hN P U V S hlt hu hv hok su sv hb
    simp only [List.length_append] at hb
    have eU : w64 (((P ++ U).length : Int) - (P.length : Int)) = (U.length : Int) := by simp only [List.length_append]; rw [bY (by omega) (by omega)]; omega
    have eV : w64 (((P ++ U ++ V).length : Int) - ((P ++ U).length : Int)) = (V.length : Int) := by simp only [List.length_append]; rw [bY (by omega) (by omega)]; omega
    simp only [aR, eU, eV]
    by_cases hu1 : U.length = 1
    · match U, hu1 with
      | [x], _ =>
        obtain ⟨W, h1, h2, h3⟩ := aFy hc (aR cmp kr) P x V S (fun y hy => hok y (by simpa using hy)) sv (by simp only [List.length_append, List.length_cons]; simp at hb; omega)
        refine ⟨W, by simpa using h1, h2, ?_⟩
        have hd : decide ((([x] : List aB).length : Int) = 1) = true := decide_eq_true (by simp)
        rw [hd, cond_true]
        have e1 : P ++ [x] ++ V ++ S = P ++ x :: V ++ S := by simp
        have e2 : (P ++ [x]).length = P.length + 1 := by simp
        have e3 : (P ++ [x] ++ V).length = P.length + 1 + V.length := by simp <;> omega
        rw [e1, e2, e3]
        exact h3
    have hd : decide ((U.length : Int) = 1) = false := decide_eq_false (by omega)
    rw [hd, cond_false]
    by_cases hv1 : V.length = 1
    · match V, hv1 with
      | [y], _ =>
        obtain ⟨W, h1, h2, h3⟩ := aEq hc (aR cmp kr) P U y S hok su (by simp only [List.length_append, List.length_cons]; simp at hb; omega)
        refine ⟨W, h1, h2, ?_⟩
        have hd : decide ((([y] : List aB).length : Int) = 1) = true := decide_eq_true (by simp)
        rw [hd, cond_true]
        have e1 : P ++ U ++ [y] ++ S = P ++ U ++ y :: S := by simp
        have e2 : (P ++ U).length = P.length + U.length := by simp
        rw [e1, e2]
        exact h3
    have hd2 : decide ((V.length : Int) = 1) = false := decide_eq_false (by omega)
    rw [hd2, cond_false]
    -- by halves
    have eh : w64 ((IntKind.u64.wrap (w64 ((P.length : Int) + ((P ++ U ++ V).length : Int)))).fdiv (2 ^ (min (1 : Int).toNat 64))) = (((P.length + (P ++ U ++ V).length) / 2 : Nat) : Int) := sE (by simp only [List.length_append]; omega)
    rw [eh]
    obtain ⟨mid, hmid⟩ : ∃ mid, mid = (P.length + (P ++ U ++ V).length) / 2 := ⟨_, rfl⟩
    rw [← hmid]
    simp only [List.length_append] at hmid
    have en : w64 ((mid : Int) + ((P ++ U).length : Int)) = ((mid + (P.length + U.length) : Nat) : Int) := by simp only [List.length_append]; rw [bY (by omega) (by omega)]; omega
    have ep : w64 (((mid + (P.length + U.length) : Nat) : Int) - 1) = ((mid + (P.length + U.length) - 1 : Nat) : Int) := by rw [bY (by omega) (by omega)]; omega
    rw [en, ep]
    have hok1 : ∀ y ∈ U, ok y := fun y hy => hok y (by simp [hy])
    have hok2 : ∀ y ∈ V, ok y := fun y hy => hok y (by simp [hy])
    have hdU : ∀ t (ht : t < U.length), idx (P ++ U ++ V ++ S) ((P.length + t : Nat) : Int) = some U[t] := by
      intro t ht
      rw [cE (by simp; omega)]
      simp only [Option.some.injEq]
      rw [List.getElem_append_left (by simp; omega), List.getElem_append_left (by simp; omega), List.getElem_append_right (by omega)]
      simp only [show P.length + t - P.length = t by omega]
    have hdV : ∀ t (ht : t < V.length), idx (P ++ U ++ V ++ S) ((P.length + U.length + t : Nat) : Int) = some V[t] := by
      intro t ht
      rw [cE (by simp; omega)]
      simp only [Option.some.injEq]
      rw [List.getElem_append_left (by simp; omega), List.getElem_append_right (by simp)]
      simp only [List.length_append, show P.length + U.length + t - (P.length + U.length) = t by omega]
    -- the search
    have search : ∀ lo hi : Nat, P.length ≤ lo → lo ≤ hi → hi ≤ P.length + U.length → (∀ c, lo ≤ c → c < hi → P.length + U.length ≤ mid + (P.length + U.length) - 1 - c ∧ mid + (P.length + U.length) - 1 - c < P.length + U.length + V.length ∧ c < mid + (P.length + U.length)) →
        ∃ r : Nat, lo ≤ r ∧ r ≤ hi ∧ bE (aR cmp kr) (P.length : Nat) ((P ++ U).length : Nat) ((P ++ U ++ V).length : Nat) cmp mid ((mid + (P.length + U.length) : Nat) : Int) ((mid + (P.length + U.length) - 1 : Nat) : Int) (P ++ U ++ V ++ S) BIG lo hi =
          cH (aR cmp kr) (P.length : Nat) ((P ++ U).length : Nat) ((P ++ U ++ V).length : Nat) cmp mid ((mid + (P.length + U.length) : Nat) : Int) r (P ++ U ++ V ++ S) ∧
          (∀ x, lo ≤ x → x < r → ∀ u v, U[x - P.length]? = some u → V[mid + (P.length + U.length) - 1 - x - (P.length + U.length)]? = some v → le u v) ∧ (∀ x, r ≤ x → x < hi → ¬ ∀ u v, U[x - P.length]? = some u → V[mid + (P.length + U.length) - 1 - x - (P.length + U.length)]? = some v → le u v) := by
      intro lo hi hlo hlh hhi hc'
      refine aBk (fun k i j => bE (aR cmp kr) (P.length : Nat) ((P ++ U).length : Nat) ((P ++ U ++ V).length : Nat) cmp mid ((mid + (P.length + U.length) : Nat) : Int) ((mid + (P.length + U.length) - 1 : Nat) : Int) (P ++ U ++ V ++ S) k i j)
        (fun i => cH (aR cmp kr) (P.length : Nat) ((P ++ U).length : Nat) ((P ++ U ++ V).length : Nat) cmp mid ((mid + (P.length + U.length) : Nat) : Int) i (P ++ U ++ V ++ S))
        (fun x => ∀ u v, U[x - P.length]? = some u → V[mid + (P.length + U.length) - 1 - x - (P.length + U.length)]? = some v → le u v) lo hi ?_ ?_ ?_ hlh (cG (by omega))
      · intro k i j hi' hij hj
        have hh : i + j < 4611686018427387904 := by omega
        have hlt : decide ((i : Int) < (j : Int)) = true := decide_eq_true (by omega)
        obtain ⟨c, hcd⟩ : ∃ c, c = (i + j) / 2 := ⟨_, rfl⟩
        obtain ⟨g1, g2, g3⟩ := hc' c (by omega) (by omega)
        have t1 : c - P.length < U.length := by omega
        have t2 : mid + (P.length + U.length) - 1 - c - (P.length + U.length) < V.length := by omega
        have i1 := hdU (c - P.length) t1
        have i2 := hdV (mid + (P.length + U.length) - 1 - c - (P.length + U.length)) t2
        rw [show P.length + (c - P.length) = c by omega] at i1
        rw [show P.length + U.length + (mid + (P.length + U.length) - 1 - c - (P.length + U.length)) = mid + (P.length + U.length) - 1 - c by omega] at i2
        have ew : w64 (((mid + (P.length + U.length) - 1 : Nat) : Int) - (c : Int)) = ((mid + (P.length + U.length) - 1 - c : Nat) : Int) := by rw [bY (by omega) (by omega)]; omega
        obtain ⟨q, hq, hiff⟩ := hc.run _ _ (hok2 _ (List.getElem_mem t2)) (hok1 _ (List.getElem_mem t1))
        have hg : (∀ u v, U[c - P.length]? = some u → V[mid + (P.length + U.length) - 1 - c - (P.length + U.length)]? = some v → le u v) ↔ le U[c - P.length] V[mid + (P.length + U.length) - 1 - c - (P.length + U.length)] := by
          rw [List.getElem?_eq_getElem t1, List.getElem?_eq_getElem t2]
          exact ⟨fun h => h _ _ rfl rfl, fun h u v h1 h2 => by cases h1; cases h2; exact h⟩
        simp only [← hcd]
        by_cases h : q < 0
        · refine .inr ⟨fun hgg => hiff.1 h (hg.1 hgg), ?_⟩
          simp only [bE, hlt, cond_true, sE hh, ← hcd, ew, i1, i2, Option.bind_some, hq, decide_eq_true h, Bool.not_true, cond_false]
        · refine .inl ⟨hg.2 (Classical.byContradiction fun hle => h (hiff.2 hle)), ?_⟩
          simp only [bE, hlt, cond_true, sE hh, ← hcd, ew, i1, i2, Option.bind_some, hq, decide_eq_false h, Bool.not_false, bI (show c < 9223372036854775807 by omega)]
      · intro k i
        have hlt : decide ((i : Int) < (i : Int)) = false := decide_eq_false (by omega)
        simp only [bE, hlt, cond_false]
      · intro p q hp hpq hq hg u v hu' hv'
        obtain ⟨g1, g2, g3⟩ := hc' p (by omega) (by omega)
        obtain ⟨g4, g5, g6⟩ := hc' q (by omega) hq
        have t1 : q - P.length < U.length := by omega
        have t2 : mid + (P.length + U.length) - 1 - q - (P.length + U.length) < V.length := by omega
        have t3 : p - P.length < U.length := by omega
        have t4 : mid + (P.length + U.length) - 1 - p - (P.length + U.length) < V.length := by omega
        rw [List.getElem?_eq_getElem t3] at hu'
        rw [List.getElem?_eq_getElem t4] at hv'
        cases hu'; cases hv'
        have m1 := mT hc su hok1 (i := p - P.length) (j := q - P.length) (by omega) t1
        have m2 := mT hc sv hok2 (i := mid + (P.length + U.length) - 1 - q - (P.length + U.length)) (j := mid + (P.length + U.length) - 1 - p - (P.length + U.length)) (by omega) t4
        have m3 := hg _ _ (List.getElem?_eq_getElem t1) (List.getElem?_eq_getElem t2)
        exact hc.tr _ _ _ (hok1 _ (List.getElem_mem _)) (hok1 _ (List.getElem_mem _)) (hok2 _ (List.getElem_mem _)) m1 (hc.tr _ _ _ (hok1 _ (List.getElem_mem _)) (hok2 _ (List.getElem_mem _)) (hok2 _ (List.getElem_mem _)) m3 m2)
    -- what follows
    have finish : ∀ lo hi r : Nat, P.length ≤ lo → lo ≤ r → r ≤ hi → hi ≤ P.length + U.length → P.length + U.length ≤ mid + (P.length + U.length) - r → mid + (P.length + U.length) - r ≤ P.length + U.length + V.length → r ≤ mid →
        (P.length < lo → lo = mid + (P.length + U.length) - (P.length + U.length + V.length)) → (hi < P.length + U.length → hi = mid) →
        (∀ x, lo ≤ x → x < r → ∀ u v, U[x - P.length]? = some u → V[mid + (P.length + U.length) - 1 - x - (P.length + U.length)]? = some v → le u v) → (∀ x, r ≤ x → x < hi → ¬ ∀ u v, U[x - P.length]? = some u → V[mid + (P.length + U.length) - 1 - x - (P.length + U.length)]? = some v → le u v) →
        ∃ W, W.Perm (U ++ V) ∧ W.Pairwise le ∧ cH (aR cmp kr) (P.length : Nat) ((P ++ U).length : Nat) ((P ++ U ++ V).length : Nat) cmp mid ((mid + (P.length + U.length) : Nat) : Int) r (P ++ U ++ V ++ S) = some (P ++ W ++ S) := by
      intro lo hi0 r hlo hlr hrh hhi he1 he2 hrm hlo' hhi' hlow hhigh
      obtain ⟨s, hs⟩ : ∃ s, s = r - P.length := ⟨_, rfl⟩
      obtain ⟨e, he⟩ : ∃ e, e = mid + (P.length + U.length) - r - (P.length + U.length) := ⟨_, rfl⟩
      have hsU : s ≤ U.length := by omega
      have heV : e ≤ V.length := by omega
      have lU1 : (U.take s).length = s := by simp; omega
      have lU2 : (U.drop s).length = U.length - s := by simp
      have lV1 : (V.take e).length = e := by simp; omega
      have lV2 : (V.drop e).length = V.length - e := by simp
      have dU : U.take s ++ U.drop s = U := List.take_append_drop s U
      have dV : V.take e ++ V.drop e = V := List.take_append_drop e V
      have pU := List.pairwise_append.1 (show (U.take s ++ U.drop s).Pairwise le by rw [dU]; exact su)
      have pV := List.pairwise_append.1 (show (V.take e ++ V.drop e).Pairwise le by rw [dV]; exact sv)
      have ihN : xR ok le (aR cmp kr) (U.length + V.length) := ih _ (by omega)
      obtain ⟨W1, W2, p1, q1, p2, q2, hK⟩ := aIo hc ihN P (U.take s) (U.drop s) (V.take e) (V.drop e) S (by rw [lU1, lV1]; omega) (by rw [lU2, lV2]; omega)
        (fun y hy => by
          simp only [List.mem_append] at hy
          rcases hy with ((h | h) | h) | h
          · exact hok1 y (List.mem_of_mem_take h)
          · exact hok1 y (List.mem_of_mem_drop h)
          · exact hok2 y (List.mem_of_mem_take h)
          · exact hok2 y (List.mem_of_mem_drop h)) pU.1 pU.2.1 pV.1 pV.2.1 (by simp only [List.length_append, lU1, lU2, lV1, lV2]; omega)
        (a := (P.length : Nat)) (m := ((P ++ U).length : Nat)) (b := ((P ++ U ++ V).length : Nat)) (mid := mid) (n := ((mid + (P.length + U.length) : Nat) : Int)) (start := r) rfl
        (by simp only [List.length_append, lU1, lU2]; omega) (by simp only [List.length_append, lU1, lU2, lV1, lV2]; omega) (by rw [lU1, lV1]; omega) (by simp only [List.length_append]; omega) (by rw [lU1]; omega)
      have ed : P ++ U.take s ++ U.drop s ++ V.take e ++ V.drop e ++ S = P ++ U ++ V ++ S := by
        rw [List.append_assoc P, dU, List.append_assoc (P ++ U), dV]
      rw [ed] at hK
      refine ⟨W1 ++ W2, ?_, ?_, by rw [hK]; simp⟩
      · refine (p1.append p2).trans ?_
        have : (U.take s ++ V.take e ++ (U.drop s ++ V.drop e)).Perm ((U.take s ++ U.drop s) ++ (V.take e ++ V.drop e)) := by
          rw [List.append_assoc, List.append_assoc]
          refine List.Perm.append_left _ ?_
          rw [← List.append_assoc, ← List.append_assoc]
          exact List.Perm.append_right _ List.perm_append_comm
        rwa [dU, dV] at this
      · refine List.pairwise_append.2 ⟨q1, q2, fun x hx y hy => ?_⟩
        have hx' := p1.mem_iff.1 hx
        have hy' := p2.mem_iff.1 hy
        rcases List.mem_append.1 hx' with hx1 | hx1 <;> rcases List.mem_append.1 hy' with hy1 | hy1
        · exact pU.2.2 x hx1 y hy1
        · -- the first of U, the last of V
          obtain ⟨i, hi, rfl⟩ := List.getElem_of_mem hx1
          obtain ⟨j, hj, rfl⟩ := List.getElem_of_mem hy1
          rw [lU1] at hi
          rw [lV2] at hj
          have hlo2 : lo ≤ r - 1 := by
            rcases Nat.lt_or_ge P.length lo with h | h
            · have := hlo' h; omega
            · omega
          have t1 : r - 1 - P.length < U.length := by omega
          have t2 : mid + (P.length + U.length) - 1 - (r - 1) - (P.length + U.length) < V.length := by omega
          have m3 := hlow (r - 1) hlo2 (by omega) _ _ (List.getElem?_eq_getElem t1) (List.getElem?_eq_getElem t2)
          have m1 := mT hc su hok1 (i := i) (j := r - 1 - P.length) (by omega) t1
          have m2 := mT hc sv hok2 (i := mid + (P.length + U.length) - 1 - (r - 1) - (P.length + U.length)) (j := e + j) (by omega) (by omega)
          rw [List.getElem_take, List.getElem_drop]
          exact hc.tr _ _ _ (hok1 _ (List.getElem_mem _)) (hok1 _ (List.getElem_mem _)) (hok2 _ (List.getElem_mem _)) m1 (hc.tr _ _ _ (hok1 _ (List.getElem_mem _)) (hok2 _ (List.getElem_mem _)) (hok2 _ (List.getElem_mem _)) m3 m2)
        · obtain ⟨i, hi, rfl⟩ := List.getElem_of_mem hx1
          obtain ⟨j, hj, rfl⟩ := List.getElem_of_mem hy1
          rw [lV1] at hi
          rw [lU2] at hj
          have hh2 : r < hi0 := by
            rcases Nat.lt_or_ge hi0 (P.length + U.length) with h | h
            · have := hhi' h; omega
            · omega
          have t1 : r - P.length < U.length := by omega
          have t2 : mid + (P.length + U.length) - 1 - r - (P.length + U.length) < V.length := by omega
          have hnot := hhigh r (Nat.le_refl _) hh2
          have m3 : le V[mid + (P.length + U.length) - 1 - r - (P.length + U.length)] U[r - P.length] := by
            refine (hc.tot _ _ (hok2 _ (List.getElem_mem t2)) (hok1 _ (List.getElem_mem t1))).resolve_right fun hn => hnot fun u v h1 h2 => ?_
            rw [List.getElem?_eq_getElem t1] at h1
            rw [List.getElem?_eq_getElem t2] at h2
            cases h1; cases h2; exact hn
          have m1 := mT hc sv hok2 (i := i) (j := mid + (P.length + U.length) - 1 - r - (P.length + U.length)) (by omega) t2
          have m2 := mT hc su hok1 (i := r - P.length) (j := s + j) (by omega) (by omega)
          rw [List.getElem_take, List.getElem_drop]
          exact hc.tr _ _ _ (hok2 _ (List.getElem_mem _)) (hok2 _ (List.getElem_mem _)) (hok1 _ (List.getElem_mem _)) m1 (hc.tr _ _ _ (hok2 _ (List.getElem_mem _)) (hok1 _ (List.getElem_mem _)) (hok1 _ (List.getElem_mem _)) m3 m2)
        · exact pV.2.2 x hx1 y hy1
    by_cases hm : mid < P.length + U.length
    · have hd3 : decide ((mid : Int) < ((P ++ U).length : Int)) = true := decide_eq_true (by simp only [List.length_append]; omega)
      have es : w64 (((mid + (P.length + U.length) : Nat) : Int) - ((P ++ U ++ V).length : Int)) = ((mid + (P.length + U.length) - (P.length + U.length + V.length) : Nat) : Int) := by simp only [List.length_append]; rw [bY (by omega) (by omega)]; omega
      rw [hd3, cond_true, es]
      obtain ⟨r, h1, h2, h3, h4, h5⟩ := search (mid + (P.length + U.length) - (P.length + U.length + V.length)) mid (by omega) (by omega) (by omega) (fun c h1 h2 => by omega)
      rw [h3]
      exact finish _ mid r (by omega) h1 h2 (by omega) (by omega) (by omega) h2 (fun _ => rfl) (fun _ => rfl) h4 h5
    · have hd3 : decide ((mid : Int) < ((P ++ U).length : Int)) = false := decide_eq_false (by simp only [List.length_append]; omega)
      rw [hd3, cond_false]
      have eu : ((P ++ U).length : Nat) = P.length + U.length := by simp
      obtain ⟨r, h1, h2, h3, h4, h5⟩ := search P.length (P.length + U.length) (by omega) (by omega) (by omega) (fun c h1 h2 => by omega)
      have hf := finish P.length (P.length + U.length) r (by omega) h1 h2 (by omega) (by omega) (by omega) (by omega) (fun h => by omega) (fun h => by omega) h4 h5
      simp only [eu] at h3 hf ⊢
      rw [h3]
      exact hf
end merge
end Go.Am

end
section
namespace Go.Am

section stable
variable {cmp : aB → aB → Option Int} {ok : aB → Prop} {le : aB → aB → Prop}
/-- Each block of a length is sorted. -/
def Blk (le : aB → aB → Prop) (bs : Nat) (L : List aB) : Prop := ∀ (i j : Nat) (_ : i < j) (hj : j < L.length), i / bs = j / bs → le (L[i]'(by omega)) L[j]
theorem rD {bs c : Nat} {P M : List aB} (hb : 0 < bs) (hP : P.length = c * bs) (h1 : Blk le bs P) (h2 : M.Pairwise le) (_ : M.length ≤ bs) : Blk le bs (P ++ M) := by
  intro i j hij hj hd
  simp only [List.length_append] at hj
  rcases Nat.lt_or_ge j P.length with h | h
  · rw [List.getElem_append_left (by omega), List.getElem_append_left h]
    exact h1 i j hij h hd
  · rcases Nat.lt_or_ge i P.length with h3 | h3
    · exfalso
      have e1 : i / bs < c := (Nat.div_lt_iff_lt_mul hb).2 (by omega)
      have e2 : c ≤ j / bs := (Nat.le_div_iff_mul_le hb).2 (by omega)
      omega
    · rw [List.getElem_append_right h3, List.getElem_append_right h]
      exact List.pairwise_iff_getElem.1 h2 _ _ (by omega) (by omega) (by omega)
theorem pG {bs : Nat} {L : List aB} (h : Blk le bs L) (hl : L.length ≤ bs) : L.Pairwise le :=
  List.pairwise_iff_getElem.2 fun i j hi hj hij => h i j hij hj (by rw [Nat.div_eq_of_lt (by omega), Nat.div_eq_of_lt (by omega)])
theorem zT {bs n : Nat} {L : List aB} (h : Blk le bs L) : Blk le bs (L.take n) := by
  intro i j hij hj hd
  simp only [List.length_take] at hj
  rw [List.getElem_take, List.getElem_take]
  exact h i j hij (by omega) hd
theorem zS {bs c n : Nat} {L : List aB} (hb : 0 < bs) (hn : n = c * bs) (h : Blk le bs L) : Blk le bs (L.drop n) := by
  intro i j hij hj hd
  simp only [List.length_drop] at hj
  rw [List.getElem_drop, List.getElem_drop]
  refine h (n + i) (n + j) (by omega) (by omega) ?_
  rw [hn, Nat.add_comm (c * bs) i, Nat.add_comm (c * bs) j, Nat.add_mul_div_right _ _ hb, Nat.add_mul_div_right _ _ hb, hd]

theorem xM (hc : mC cmp ok le) (P U V S : List aB) (h1 : 0 < U.length) (h2 : 0 < V.length) (hok : ∀ y ∈ U ++ V, ok y) (su : U.Pairwise le) (sv : V.Pairwise le) (hb : (P ++ U ++ V ++ S).length < 1152921504606846976) :
    ∃ W, W.Perm (U ++ V) ∧ W.Pairwise le ∧ fU (P ++ U ++ V ++ S) (P.length : Nat) ((P ++ U).length : Nat) ((P ++ U ++ V).length : Nat) cmp = some (P ++ W ++ S) :=
  aCs hc BIG BIG (Nat.le_refl _) P U V S (cG (by simp only [List.length_append] at hb; omega)) h1 h2 hok su sv hb

theorem aKe (hc : mC cmp ok le) (F : Int → List aB → Option (List aB)) {bs : Nat} (hbs : 0 < bs) (hbb : bs < 1152921504606846976) : ∀ (d : Nat) (P R : List aB) (k c : Nat), R.length = d → d < k → P.length = c * (2 * bs) → Blk le (2 * bs) P → Blk le bs R → (∀ y ∈ P ++ R, ok y) → (P ++ R).length < 576460752303423488 →
    ∃ L, L.Perm (P ++ R) ∧ Blk le (2 * bs) L ∧ cU F ((P ++ R).length : Nat) cmp (bs : Nat) k (P.length : Nat) ((P.length + 2 * bs : Nat) : Int) (P ++ R) = F ((bs * 2 : Nat) : Int) L := by
  intro d
  induction d using Nat.strongRecOn with
  | _ d ih =>
    intro P R k c hd hk hP hPb hRb hok hb
    obtain ⟨k, rfl⟩ : ∃ q, k = q + 1 := ⟨k - 1, by omega⟩
    simp only [List.length_append] at hb
    have e2 : w64 ((bs : Int) * 2) = ((bs * 2 : Nat) : Int) := by rw [bY (by omega) (by omega)]; omega
    have e2' : w64 (2 * (bs : Int)) = ((2 * bs : Nat) : Int) := by rw [bY (by omega) (by omega)]; omega
    have em : w64 ((P.length : Int) + (bs : Int)) = ((P.length + bs : Nat) : Int) := by rw [bY (by omega) (by omega)]; omega
    by_cases hfull : 2 * bs ≤ R.length
    · -- two whole blocks
      obtain ⟨U, V, S, rfl, hU, hV, hUd, hVd, hSd⟩ : ∃ U V S, R = U ++ V ++ S ∧ U.length = bs ∧ V.length = bs ∧ U = R.take bs ∧ V = (R.drop bs).take bs ∧ S = R.drop (2 * bs) := by
        refine ⟨R.take bs, (R.drop bs).take bs, R.drop (2 * bs), ?_, by simp; omega, by simp; omega, rfl, rfl, rfl⟩
        rw [show R.drop (2 * bs) = (R.drop bs).drop bs by rw [List.drop_drop]; congr 1; omega, List.append_assoc, List.take_append_drop, List.take_append_drop]
      have bU : Blk le bs U := by rw [hUd]; exact zT hRb
      have bV : Blk le bs V := by rw [hVd]; exact zT (zS (c := 1) hbs (by omega) hRb)
      have bS : Blk le bs S := by rw [hSd]; exact zS (c := 2) hbs (by omega) hRb
      clear hUd hVd hSd
      simp only [List.length_append] at hb hd hfull
      obtain ⟨W, p1, s1, hr⟩ := xM hc P U V S (by omega) (by omega) (fun y hy => hok y (by simp only [List.mem_append] at hy ⊢; rcases hy with h | h <;> simp [h])) (pG bU (by omega)) (pG bV (by omega)) (by simp only [List.length_append]; omega)
      have hW : W.length = 2 * bs := by rw [p1.length_eq, List.length_append]; omega
      have hlt : decide (((P.length + 2 * bs : Nat) : Int) ≤ ((P ++ (U ++ V ++ S)).length : Int)) = true := decide_eq_true (by simp only [List.length_append]; omega)
      obtain ⟨L, p2, b2, hL⟩ := ih S.length (by omega) (P ++ W) S k (c + 1) rfl (by omega) (by rw [List.length_append, hP, hW, Nat.add_mul]; omega) (rD (c := c) (by omega) hP hPb s1 (by omega)) bS
        (fun y hy => by
          simp only [List.mem_append] at hy
          rcases hy with (h | h) | h
          · exact hok y (by simp [h])
          · have := p1.mem_iff.1 h
            simp only [List.mem_append] at this
            rcases this with h | h <;> exact hok y (by simp [h])
          · exact hok y (by simp [h])) (by simp only [List.length_append]; omega)
      refine ⟨L, p2.trans ?_, b2, ?_⟩
      · have : (P ++ W ++ S).Perm (P ++ (U ++ V) ++ S) := List.Perm.append_right _ (List.Perm.append_left _ p1)
        simpa using this
      · have ed : P ++ (U ++ V ++ S) = P ++ U ++ V ++ S := by simp
        have ex : (P ++ U).length = P.length + bs := by rw [List.length_append, hU]
        have ey : (P ++ U ++ V).length = P.length + 2 * bs := by rw [List.length_append, List.length_append, hU, hV]; omega
        rw [ex, ey] at hr
        simp only [cU, hlt, cond_true, em, e2']
        rw [ed, hr, Option.bind_some]
        have eb : w64 (((P.length + 2 * bs : Nat) : Int) + ((2 * bs : Nat) : Int)) = (((P ++ W).length + 2 * bs : Nat) : Int) := by rw [bY (by omega) (by omega), List.length_append, hW]; omega
        have ea : ((P.length + 2 * bs : Nat) : Int) = (((P ++ W).length : Nat) : Int) := by rw [List.length_append, hW]
        have el : (P ++ W ++ S).length = (P ++ U ++ V ++ S).length := by simp only [List.length_append, hW]; omega
        rw [eb, ea, ← el]
        exact hL
    · have hlt : decide (((P.length + 2 * bs : Nat) : Int) ≤ ((P ++ R).length : Int)) = false := decide_eq_false (by simp only [List.length_append]; omega)
      simp only [cU, hlt, cond_false, iP, em, eF, e2]
      by_cases hm : bs < R.length
      · have hd3 : decide (((P.length + bs : Nat) : Int) < ((P ++ R).length : Int)) = true := decide_eq_true (by simp only [List.length_append]; omega)
        obtain ⟨U, V, rfl, hU, hUd, hVd⟩ : ∃ U V, R = U ++ V ∧ U.length = bs ∧ U = R.take bs ∧ V = R.drop bs := ⟨R.take bs, R.drop bs, by simp, by simp; omega, rfl, rfl⟩
        have bU : Blk le bs U := by rw [hUd]; exact zT hRb
        have bV : Blk le bs V := by rw [hVd]; exact zS (c := 1) hbs (by omega) hRb
        clear hUd hVd
        simp only [List.length_append] at hb hm hfull
        obtain ⟨W, p1, s1, hr⟩ := xM hc P U V [] (by omega) (by omega) (fun y hy => hok y (by simp only [List.mem_append] at hy ⊢; rcases hy with h | h <;> simp [h])) (pG bU (by omega)) (pG bV (by omega)) (by simp only [List.length_append, List.length_nil]; omega)
        have hW : W.length = U.length + V.length := by rw [p1.length_eq, List.length_append]
        simp only [List.append_nil] at hr
        have ex : (P ++ U).length = P.length + bs := by rw [List.length_append, hU]
        rw [ex, List.append_assoc P U V] at hr
        refine ⟨P ++ W, List.Perm.append_left _ p1, rD (c := c) (by omega) hP hPb s1 (by omega), ?_⟩
        rw [hd3, cond_true, hr, Option.bind_some]
      · have hd3 : decide (((P.length + bs : Nat) : Int) < ((P ++ R).length : Int)) = false := decide_eq_false (by simp only [List.length_append]; omega)
        refine ⟨P ++ R, .refl _, rD (c := c) (by omega) hP hPb (pG hRb (by omega)) (by omega), ?_⟩
        rw [hd3, cond_false]

theorem aKi (hc : mC cmp ok le) : ∀ (d : Nat) (xs : List aB) (bs k : Nat), xs.length - bs = d → d < k → 0 < bs → bs < 1152921504606846976 → Blk le bs xs → (∀ y ∈ xs, ok y) → xs.length < 288230376151711744 →
    ∃ ys, ys.Perm xs ∧ ys.Pairwise le ∧ cD (xs.length : Nat) cmp k (bs : Nat) xs = some ys := by
  intro d
  induction d using Nat.strongRecOn with
  | _ d ih =>
    intro xs bs k hd hk hbs hbb hbl hok hb
    obtain ⟨k, rfl⟩ : ∃ q, k = q + 1 := ⟨k - 1, by omega⟩
    by_cases h : bs < xs.length
    · have hlt : decide ((bs : Int) < (xs.length : Int)) = true := decide_eq_true (by omega)
      have e2' : w64 (2 * (bs : Int)) = ((2 * bs : Nat) : Int) := by rw [bY (by omega) (by omega)]; omega
      simp only [cD, hlt, cond_true, e2']
      obtain ⟨L, p1, b1, hr⟩ := aKe hc (cD (xs.length : Nat) cmp k) hbs hbb xs.length [] xs BIG 0 rfl (cG (by omega)) (by simp) (fun i j _ hj => by simp at hj) hbl (by simpa using hok) (by simp; omega)
      simp only [List.nil_append, List.length_nil, Nat.zero_add] at hr p1
      have hL : L.length = xs.length := p1.length_eq
      obtain ⟨ys, p2, s2, hy⟩ := ih (L.length - bs * 2) (by omega) L (bs * 2) k rfl (by omega) (by omega) (by omega) (by rwa [Nat.mul_comm]) (fun y hy => hok y (p1.mem_iff.1 hy)) (by omega)
      rw [hL] at hy
      refine ⟨ys, p2.trans p1, s2, ?_⟩
      rw [← hy]
      exact hr
    · have hlt : decide ((bs : Int) < (xs.length : Int)) = false := decide_eq_false (by omega)
      refine ⟨xs, .refl _, pG hbl (by omega), ?_⟩
      simp only [cD, hlt, cond_false, iO]

theorem zN (hc : mC cmp ok le) (xs : List aB) (hok : ∀ y ∈ xs, ok y) (hb : xs.length < 288230376151711744) : ∃ ys, ys.Perm xs ∧ ys.Pairwise le ∧ dL xs cmp = some ys := by
  have main : ∀ (d : Nat) (P R : List aB) (k c : Nat), R.length = d → d < k → P.length = c * 20 → Blk le 20 P → (∀ y ∈ P ++ R, ok y) → (P ++ R).length < 288230376151711744 →
      ∃ ys, ys.Perm (P ++ R) ∧ ys.Pairwise le ∧ cT ((P ++ R).length : Nat) cmp 20 k (P.length : Nat) ((P.length + 20 : Nat) : Int) (P ++ R) = some ys := by
    intro d
    induction d using Nat.strongRecOn with
    | _ d ih =>
      intro P R k c hd hk hP hPb hok hb
      obtain ⟨k, rfl⟩ : ∃ q, k = q + 1 := ⟨k - 1, by omega⟩
      simp only [List.length_append] at hb
      by_cases hfull : 20 ≤ R.length
      · obtain ⟨M, S, rfl, hM⟩ : ∃ M S, R = M ++ S ∧ M.length = 20 := ⟨R.take 20, R.drop 20, by simp, by simp; omega⟩
        simp only [List.length_append] at hb hd hfull
        have hlt : decide (((P.length + 20 : Nat) : Int) ≤ ((P ++ (M ++ S)).length : Int)) = true := decide_eq_true (by simp only [List.length_append]; omega)
        obtain ⟨M', p1, s1, hr⟩ := wL hc P M S (fun y hy => hok y (by simp [hy])) (by simp only [List.length_append]; omega)
        have hM' : M'.length = 20 := by rw [p1.length_eq, hM]
        obtain ⟨ys, p2, s2, hy⟩ := ih S.length (by omega) (P ++ M') S k (c + 1) rfl (by omega) (by rw [List.length_append, hP, hM', Nat.add_mul]) (rD (c := c) (by omega) hP hPb s1 (by omega)) (fun y hy => by
          simp only [List.mem_append] at hy
          rcases hy with (h | h) | h
          · exact hok y (by simp [h])
          · exact hok y (by simp [p1.mem_iff.1 h])
          · exact hok y (by simp [h])) (by simp only [List.length_append]; omega)
        refine ⟨ys, p2.trans ?_, s2, ?_⟩
        · have : (P ++ M' ++ S).Perm (P ++ M ++ S) := List.Perm.append_right _ (List.Perm.append_left _ p1)
          simpa using this
        · have ex : (P ++ M).length = P.length + 20 := by rw [List.length_append, hM]
          rw [ex, List.append_assoc P M S] at hr
          simp only [cT, hlt, cond_true]
          rw [hr, Option.bind_some]
          have eb : w64 (((P.length + 20 : Nat) : Int) + 20) = (((P ++ M').length + 20 : Nat) : Int) := by rw [bY (by omega) (by omega), List.length_append, hM']; omega
          have ea : ((P.length + 20 : Nat) : Int) = (((P ++ M').length : Nat) : Int) := by rw [List.length_append, hM']
          have el : (P ++ M' ++ S).length = (P ++ (M ++ S)).length := by simp only [List.length_append, hM']; omega
          rw [eb, ea, ← el]
          exact hy
      · have hlt : decide (((P.length + 20 : Nat) : Int) ≤ ((P ++ R).length : Int)) = false := decide_eq_false (by simp only [List.length_append]; omega)
        obtain ⟨M', p1, s1, hr⟩ := wL hc P R [] (fun y hy => hok y (by simp [hy])) (by simp only [List.length_append]; omega)
        have hM' : M'.length = R.length := p1.length_eq
        simp only [List.append_nil] at hr
        have hl : (P ++ M').length = (P ++ R).length := by rw [List.length_append, List.length_append, hM']
        obtain ⟨ys, p2, s2, hy⟩ := aKi hc _ (P ++ M') 20 BIG rfl (cG (by simp only [List.length_append]; omega)) (by omega) (by omega) (rD (c := c) (by omega) hP hPb s1 (by omega)) (fun y hy => by
          rcases List.mem_append.1 hy with h | h
          · exact hok y (by simp [h])
          · exact hok y (by simp [p1.mem_iff.1 h])) (by simp only [List.length_append]; omega)
        refine ⟨ys, p2.trans (List.Perm.append_left _ p1), s2, ?_⟩
        simp only [cT, hlt, cond_false, iN]
        rw [hr, Option.bind_some, ← hl]
        exact hy
  obtain ⟨ys, p, s, h⟩ := main xs.length [] xs BIG 0 rfl (cG (by omega)) (by simp) (fun i j _ hj => by simp at hj) (by simpa using hok) (by simpa using hb)
  refine ⟨ys, by simpa using p, s, ?_⟩
  unfold dL gC
  simp only [List.nil_append, List.length_nil, Nat.zero_add] at h
  have e0 : ((0 : Nat) : Int) = 0 := rfl
  have e20 : ((20 : Nat) : Int) = 20 := rfl
  rw [e0, e20] at h
  rw [h]; rfl
end stable
end Go.Am

end
section
namespace Go.Am

section line
variable {cmp : aP → aP → Option Int} {ok : aP → Prop} {le : aP → aP → Prop}
theorem aEn (hc : mC cmp ok le) (again : Int → List aP → Option (List aP)) {a b i : Int} {P : List aP} (ha : a = P.length) (x : aP) (hx : ok x) :
    ∀ (n : Nat) (L R : List aP) (k : Nat), L.length = n → (∀ y ∈ L, ok y) → n < k → (P ++ L).length < 4611686018427387904 →
      ∃ L1 L2, L = L1 ++ L2 ∧ (∀ y ∈ L2, ¬ le y x) ∧ (∀ y, L1.getLast? = some y → le y x) ∧
        cB again a b cmp i k ((P ++ L).length : Nat) (P ++ L ++ x :: R) = again (w64 (i + 1)) (P ++ (L1 ++ x :: L2) ++ R) := by
  intro n
  induction n with
  | zero =>
    intro L R k hl hok hk hb
    have : L = [] := List.length_eq_zero_iff.1 hl
    subst this
    obtain ⟨k, rfl⟩ : ∃ q, k = q + 1 := ⟨k - 1, by omega⟩
    refine ⟨[], [], rfl, by simp, by simp, ?_⟩
    simp only [cB, ha, List.append_nil, Int.lt_irrefl, decide_false, cond_false, Option.bind_some, eJ, eI, List.nil_append]
    simp
  | succ n ih =>
    intro L R k hl hok hk hb
    obtain ⟨k, rfl⟩ : ∃ q, k = q + 1 := ⟨k - 1, by omega⟩
    rcases tQ L with rfl | ⟨L', y, rfl⟩
    · simp at hl
    simp only [List.length_append, List.length_singleton] at hl hb
    have hoy : ok y := hok y (by simp)
    have hA : P ++ (L' ++ [y]) ++ x :: R = (P ++ L') ++ y :: x :: R := by simp
    have hj : ((P ++ (L' ++ [y])).length : Nat) = (P ++ L').length + 1 := by simp [Nat.add_assoc]
    have hAl : (P ++ L').length = P.length + L'.length := by simp
    have hlt : decide (a < (((P ++ L').length + 1 : Nat) : Int)) = true := decide_eq_true (by omega)
    have hw : w64 ((((P ++ L').length + 1 : Nat) : Int) - 1) = ((P ++ L').length : Int) := by rw [bY (by omega) (by omega)]; omega
    obtain ⟨r, hr, hlr⟩ := hc.run x y hx hoy
    rw [hA, hj]
    by_cases h : r < 0
    · obtain ⟨L1, L2, rfl, h2, h1, he⟩ := ih L' (y :: R) k (by omega) (fun z hz => hok z (by simp [hz])) (by omega) (by omega)
      refine ⟨L1, L2 ++ [y], by simp, fun z hz => ?_, h1, ?_⟩
      · rcases List.mem_append.1 hz with hz | hz
        · exact h2 z hz
        · simp at hz; subst hz; exact hlr.1 h
      · simp only [cB, hlt, cond_true, oW rfl, hw, kC rfl, Option.bind_some, hr, decide_eq_true h]
        have hn : (((P ++ (L1 ++ L2)).length + 1 : Nat) : Int).toNat = (P ++ (L1 ++ L2)).length + 1 := rfl
        have hn2 : (((P ++ (L1 ++ L2)).length : Nat) : Int).toNat = (P ++ (L1 ++ L2)).length := rfl
        rw [hn, hn2, xE rfl, kC rfl, Option.bind_some, sJ rfl, he]
        simp
    · refine ⟨L' ++ [y], [], by simp, by simp, fun z hz => ?_, ?_⟩
      · simp at hz; subst hz; exact Classical.byContradiction fun hn => h (hlr.2 hn)
      · simp only [cB, hlt, cond_true, oW rfl, hw, kC rfl, Option.bind_some, hr, decide_eq_false h, cond_false, eJ, eI]
        simp

theorem zZ (hc : mC cmp ok le) (P M S : List aP) (hok : ∀ y ∈ M, ok y) (hb : (P ++ M).length < 4611686018427387904) :
    ∃ M', M'.Perm M ∧ M'.Pairwise le ∧ cN (P ++ M ++ S) (P.length : Nat) ((P ++ M).length : Nat) cmp = some (P ++ M' ++ S) := by
  have main : ∀ (n : Nat) (L R : List aP) (k : Nat), R.length = n → n < k → (∀ y ∈ L ++ R, ok y) → (P ++ L ++ R).length < 4611686018427387904 → L.Pairwise le →
      ∃ M', M'.Perm (L ++ R) ∧ M'.Pairwise le ∧ bM (P.length : Nat) ((P ++ L ++ R).length : Nat) cmp k ((P ++ L).length : Nat) (P ++ L ++ R ++ S) = some (P ++ M' ++ S) := by
    intro n
    induction n with
    | zero =>
      intro L R k hl hk hok hb hs
      have : R = [] := List.length_eq_zero_iff.1 hl
      subst this
      obtain ⟨k, rfl⟩ : ∃ q, k = q + 1 := ⟨k - 1, by omega⟩
      refine ⟨L, by simp, hs, ?_⟩
      simp [bM, eH]
    | succ n ih =>
      intro L R k hl hk hok hb hs
      obtain ⟨k, rfl⟩ : ∃ q, k = q + 1 := ⟨k - 1, by omega⟩
      match R, hl with
      | x :: R, hl =>
        simp only [List.length_cons] at hl
        have hbl : (P ++ L ++ x :: R).length = P.length + L.length + (R.length + 1) := by simp [Nat.add_assoc]
        have hox : ok x := hok x (by simp)
        obtain ⟨L1, L2, rfl, h2, h1, he⟩ := aEn hc (bM (P.length : Nat) ((P ++ L ++ x :: R).length : Nat) cmp k) (b := ((P ++ L ++ x :: R).length : Nat)) (i := ((P ++ L).length : Nat)) (a := (P.length : Nat)) rfl x hox L.length L (R ++ S) BIG rfl
          (fun y hy => hok y (by simp [hy])) (cG (by omega)) (by simp only [List.length_append]; omega)
        have hlt : decide (((P ++ (L1 ++ L2)).length : Int) < ((P ++ (L1 ++ L2) ++ x :: R).length : Int)) = true := decide_eq_true (by simp only [List.length_append, List.length_cons]; omega)
        obtain ⟨M', hp, hss, hr⟩ := ih (L1 ++ x :: L2) R k (by omega) (by omega) (fun y hy => hok y (by
            simp only [List.mem_append, List.mem_cons] at hy ⊢
            rcases hy with (h | h | h) | h <;> simp [h])) (by simp only [List.length_append, List.length_cons] at hb ⊢; omega)
            (aBf hc hox hs (fun y hy => hok y (by simp only [List.mem_append] at hy ⊢; exact .inl hy)) h2 h1)
        refine ⟨M', hp.trans ?_, hss, ?_⟩
        · have : ((L1 ++ x :: L2) ++ R).Perm (L1 ++ L2 ++ x :: R) := by
            rw [List.append_assoc, List.append_assoc, List.cons_append]
            exact List.Perm.append_left _ (List.perm_middle.symm)
          exact this
        · simp only [bM, hlt, cond_true]
          have e1 : P ++ (L1 ++ L2) ++ x :: R ++ S = P ++ (L1 ++ L2) ++ x :: (R ++ S) := by simp
          rw [e1, he, bI (by simp only [List.length_append, List.length_cons] at hb ⊢; omega)]
          have e2 : ((P ++ (L1 ++ L2) ++ x :: R).length : Nat) = (P ++ (L1 ++ x :: L2) ++ R).length := by simp only [List.length_append, List.length_cons]; omega
          have e3 : ((P ++ (L1 ++ L2)).length + 1 : Nat) = (P ++ (L1 ++ x :: L2)).length := by simp only [List.length_append, List.length_cons]; omega
          rw [e2, e3]
          have e4 : P ++ (L1 ++ x :: L2) ++ (R ++ S) = P ++ (L1 ++ x :: L2) ++ R ++ S := by simp
          rw [e4]
          exact hr
  match M, hok, hb with
  | [], hok, hb =>
    refine ⟨[], .refl _, .nil, ?_⟩
    have hlt : decide (((P.length + 1 : Nat) : Int) < (P.length : Int)) = false := decide_eq_false (by omega)
    unfold cN
    simp only [List.append_nil] at hb ⊢
    rw [zQ, bI (by omega)]
    generalize 18446744073709551615 = kk
    simp only [bM, hlt, cond_false, eH]
  | x :: M, hok, hb =>
    simp only [List.length_append, List.length_cons] at hb
    obtain ⟨M', h1, h2, h3⟩ := main M.length [x] M BIG rfl (cG (by omega)) (fun y hy => hok y (by simpa using hy)) (by simp only [List.length_append, List.length_cons, List.length_nil]; omega) (List.pairwise_singleton _ _)
    refine ⟨M', by simpa using h1, h2, ?_⟩
    unfold cN
    rw [bI (by omega)]
    have e1 : (P ++ [x]).length = P.length + 1 := by simp
    have e2 : P ++ [x] ++ M = P ++ x :: M := by simp
    rw [e1, e2] at h3
    exact h3
theorem aCr (hc : mC cmp ok le) (xs : List aP) (hok : ∀ y ∈ xs, ok y) (hb : xs.length ≤ 12) : ∃ ys, ys.Perm xs ∧ ys.Pairwise le ∧ gT xs cmp = some ys := by
  obtain ⟨M', h1, h2, h3⟩ := zZ hc [] xs [] hok (by simp; omega)
  simp only [List.nil_append, List.append_nil, List.length_nil] at h3
  refine ⟨M', h1, h2, ?_⟩
  have e1 : IntKind.u64.wrap (xs.length : Int) = (xs.length : Int) := by
    simp only [IntKind.wrap, IntKind.signed, IntKind.bits]
    simp
    omega
  have e2 : qI (xs.length : Int) = some ((Lib.bitLen (xs.length : Int).toNat : Nat) : Int) := by
    unfold qI yW
    rw [if_pos ⟨by omega, by omega⟩]
  have e3 : w64 ((xs.length : Int) - 0) = (xs.length : Int) := by rw [bY (by omega) (by omega)]; omega
  have hd : decide ((xs.length : Int) ≤ 12) = true := decide_eq_true (by omega)
  have h3' : cN xs 0 (xs.length : Int) cmp = some M' := h3
  unfold gT gB
  rw [e1, e2, Option.bind_some, zQ]
  generalize 18446744073709551615 = kk
  simp only [fN, e3, hd, cond_true, h3', Option.bind_some]
end line

/-- What is left of a row when equal neighbours are one. -/
def oL (p : aB) : List aB → List aB
  | [] => []
  | y :: t => if y = p then oL p t else y :: oL y t
def gW : List aB → List aB
  | [] => []
  | x :: t => x :: oL x t
theorem aFt (again : Int → List aB → Option (List aB)) {k0 : Nat} : ∀ (t : List aB) (p : aB) (W X : List aB) (k2 k : Nat), 1 ≤ k2 → W.length + X.length + 1 = k0 + k2 → k0 ≤ W.length → (W ++ X ++ p :: t).length < 4611686018427387904 → t.length < k →
    dA again (k0 : Nat) k (W.length : Nat) (k2 : Nat) (W ++ X ++ p :: t) = some (W ++ oL p t) := by
  intro t
  induction t with
  | nil =>
    intro p W X k2 k h1 h2 h3 hb hk
    obtain ⟨k, rfl⟩ : ∃ q, k = q + 1 := ⟨k - 1, by omega⟩
    simp only [List.length_append, List.length_cons, List.length_nil] at hb
    have t0 : ((k0 : Nat) : Int).toNat = k0 := rfl
    have t1 : ((W.length : Nat) : Int).toNat = W.length := rfl
    have hlt : decide ((k2 : Int) < (((W ++ X ++ [p]).drop k0).length : Int)) = false := decide_eq_false (by simp; omega)
    have c1 : (decide ((0 : Int) ≤ (W.length : Int)) && decide ((W.length : Int) ≤ ((W ++ X ++ [p]).length : Int))) = true := by simp; omega
    have c2 : decide (W.length ≤ (W ++ X ++ [p]).length) = true := by simp
    have c3 : decide ((0 : Int) ≤ (W.length : Int)) = true := by simp
    simp only [dA, t0, hlt, cond_false, kG]
    rw [c1, t1, c2, c3]
    simp [chk, oL]
  | cons y t ih =>
    intro p W X k2 k h1 h2 h3 hb hk
    obtain ⟨k, rfl⟩ : ∃ q, k = q + 1 := ⟨k - 1, by omega⟩
    simp only [List.length_append, List.length_cons] at hb hk
    have t0 : ((k0 : Nat) : Int).toNat = k0 := rfl
    have t1 : ((W.length : Nat) : Int).toNat = W.length := rfl
    have hlt : decide ((k2 : Int) < (((W ++ X ++ p :: y :: t).drop k0).length : Int)) = true := decide_eq_true (by simp; omega)
    have ed : (W ++ X ++ p :: y :: t).drop k0 = (W ++ X).drop k0 ++ p :: y :: t := by rw [List.drop_append_of_le_length (by simp; omega)]
    have hdl : ((W ++ X).drop k0).length = k2 - 1 := by simp; omega
    have i1 : idx ((W ++ X ++ p :: y :: t).drop k0) (k2 : Nat) = some y := by rw [ed]; exact oW (by rw [hdl]; omega)
    have i2 : idx ((W ++ X ++ p :: y :: t).drop k0) (w64 ((k2 : Int) - 1)) = some p := by rw [aEk (by omega) (by omega), ed]; exact kC (by rw [hdl])
    simp only [dA, t0, hlt, cond_true, i1, i2, Option.bind_some, bI (show k2 < 9223372036854775807 by omega)]
    by_cases hyp : y = p
    · subst hyp
      have := ih y W (X ++ [y]) (k2 + 1) k (by omega) (by simp; omega) h3 (by simp only [List.length_append, List.length_cons, List.length_nil]; omega) (by omega)
      have e1 : W ++ (X ++ [y]) ++ y :: t = W ++ X ++ y :: y :: t := by simp
      rw [e1] at this
      rw [decide_eq_true rfl, Bool.not_true, cond_false, this]
      simp [oL]
    · have hd : (!decide (y = p)) = true := by rw [decide_eq_false hyp]; rfl
      have i3 : ∃ z, idx (W ++ X ++ p :: y :: t) (W.length : Nat) = some z := ⟨_, cE (by simp; omega)⟩
      obtain ⟨z, i3⟩ := i3
      rw [hd, cond_true, i3, Option.bind_some, t1, bI (by omega)]
      obtain ⟨X', e2⟩ : ∃ X', (W ++ X ++ p :: y :: t).set W.length y = (W ++ [y]) ++ X' ++ y :: t ∧ X'.length = X.length := by
        cases X with
        | nil => exact ⟨[], by simp, rfl⟩
        | cons x X => exact ⟨X ++ [p], by simp, by simp⟩
      rw [e2.1]
      have := ih y (W ++ [y]) X' (k2 + 1) k (by omega) (by rw [List.length_append, e2.2]; simp; omega) (by simp; omega) (by simp only [List.length_append, List.length_cons, List.length_nil, e2.2]; omega) (by omega)
      have e3 : (W ++ [y]).length = W.length + 1 := by simp
      rw [e3] at this
      rw [this]
      simp [oL, hyp]
theorem aDh (s : List aB) (hb : s.length < 4611686018427387904) : gR s = some (gW s) := by
  have main : ∀ (t A : List aB) (p : aB) (k : Nat), t.length < k → (A ++ p :: t).length < 4611686018427387904 → cJ k ((A.length + 1 : Nat) : Int) (A ++ p :: t) = some (A ++ p :: oL p t) := by
    intro t
    induction t with
    | nil =>
      intro A p k hk hb
      obtain ⟨k, rfl⟩ : ∃ q, k = q + 1 := ⟨k - 1, by omega⟩
      have hlt : decide (((A.length + 1 : Nat) : Int) < ((A ++ [p]).length : Int)) = false := decide_eq_false (by simp)
      simp only [cJ, hlt, cond_false, kE, oL]
    | cons y t ih =>
      intro A p k hk hb
      obtain ⟨k, rfl⟩ : ∃ q, k = q + 1 := ⟨k - 1, by omega⟩
      simp only [List.length_append, List.length_cons] at hb hk
      have hlt : decide (((A.length + 1 : Nat) : Int) < ((A ++ p :: y :: t).length : Int)) = true := decide_eq_true (by simp; omega)
      have i2 : w64 (((A.length + 1 : Nat) : Int) - 1) = (A.length : Int) := by rw [bY (by omega) (by omega)]; omega
      simp only [cJ, hlt, cond_true, oW rfl, i2, kC rfl, Option.bind_some]
      by_cases hyp : y = p
      · subst hyp
        have c1 : (decide ((0 : Int) ≤ ((A.length + 1 : Nat) : Int)) && decide (((A.length + 1 : Nat) : Int) ≤ ((A ++ y :: y :: t).length : Int))) = true := by simp; omega
        rw [decide_eq_true rfl, cond_true, c1]
        simp only [chk, cond_true, Option.bind_some]
        have := aFt (cJ k) (k0 := A.length + 1) t y (A ++ [y]) [] 1 BIG (Nat.le_refl _) (by simp) (by simp) (by simp only [List.length_append, List.length_cons, List.length_nil]; omega) (cG (by omega))
        have e3 : (A ++ [y]).length = A.length + 1 := by simp
        have e4 : A ++ [y] ++ [] ++ y :: t = A ++ y :: y :: t := by simp
        rw [e3, e4] at this
        have e5 : ((1 : Nat) : Int) = 1 := rfl
        rw [e5] at this
        rw [this]
        simp [oL]
      · rw [decide_eq_false hyp, cond_false]
        unfold kF
        rw [bI (by omega)]
        have := ih (A ++ [p]) y k (by omega) (by simp only [List.length_append, List.length_cons, List.length_nil]; omega)
        have e3 : (A ++ [p]).length = A.length + 1 := by simp
        have e4 : A ++ [p] ++ y :: t = A ++ p :: y :: t := by simp
        rw [e3, e4] at this
        rw [this]
        simp [oL, hyp]
  unfold gR
  match s, hb with
  | [], _ => simp [gW]
  | x :: t, hb =>
    by_cases ht : t = []
    · subst ht; simp [gW, oL]
    · have hl : 0 < t.length := List.length_pos_iff.2 ht
      have hd : decide (((x :: t).length : Int) < 2) = false := decide_eq_false (by simp; omega)
      rw [hd, cond_false]
      have := main t [] x BIG (cG (by simp at hb; omega)) (by simpa using hb)
      simp only [List.length_nil, List.nil_append, Nat.zero_add] at this
      have e5 : ((1 : Nat) : Int) = 1 := rfl
      rw [e5] at this
      rw [this]; rfl
theorem aHt (p x : aB) (t : List aB) : (x = p ∨ x ∈ oL p t) ↔ (x = p ∨ x ∈ t) := by
  induction t generalizing p with
  | nil => rfl
  | cons y t ih =>
    simp only [oL, List.mem_cons]
    by_cases h : y = p
    · subst h
      rw [if_pos rfl]
      have := ih y
      constructor
      · rintro (h | h)
        · exact .inl h
        · rcases this.1 (.inr h) with h | h
          · exact .inl h
          · exact .inr (.inr h)
      · rintro (h | h | h)
        · exact .inl h
        · exact .inl h
        · exact this.2 (.inr h)
    · rw [if_neg h, List.mem_cons]
      have := ih y
      constructor
      · rintro (h | h)
        · exact .inl h
        · exact .inr (this.1 h)
      · rintro (h | h)
        · exact .inl h
        · exact .inr (this.2 h)
theorem aEm (x : aB) (s : List aB) : x ∈ gW s ↔ x ∈ s := by
  cases s with
  | nil => rfl
  | cons p t => simp only [gW, List.mem_cons]; exact aHt p x t
theorem aDm (p : aB) (t : List aB) : (oL p t).Sublist t := by
  induction t generalizing p with
  | nil => exact .slnil
  | cons y t ih =>
    simp only [oL]
    split
    · exact (ih p).cons _
    · exact (ih y).cons_cons _
/-- In a weakly ordered row without a clash, what is left is strictly ordered. -/
theorem zG (p : aB) (t : List aB) (hs : (p :: t).Pairwise fun x y => x.Id ≤ y.Id) (hcl : ∀ x ∈ p :: t, ∀ y ∈ p :: t, x.Id = y.Id → x = y) : (p :: oL p t).Pairwise fun x y => x.Id < y.Id := by
  induction t generalizing p with
  | nil => exact List.pairwise_singleton _ _
  | cons y t ih =>
    have h1 := List.pairwise_cons.1 hs
    have h2 := List.pairwise_cons.1 h1.2
    simp only [oL]
    by_cases h : y = p
    · subst h
      rw [if_pos rfl]
      exact ih y h1.2 (fun a ha b hb => hcl a (List.mem_cons_of_mem _ ha) b (List.mem_cons_of_mem _ hb))
    · rw [if_neg h]
      have h3 := ih y h1.2 (fun a ha b hb => hcl a (List.mem_cons_of_mem _ ha) b (List.mem_cons_of_mem _ hb))
      refine List.pairwise_cons.2 ⟨fun z hz => ?_, h3⟩
      have hpy : p.Id < y.Id := by
        have := h1.1 y (by simp)
        rcases Int.lt_or_eq_of_le this with h4 | h4
        · exact h4
        · exact absurd (hcl p (by simp) y (by simp) h4).symm h
      rcases List.mem_cons.1 hz with rfl | hz
      · exact hpy
      · exact Int.lt_trans hpy ((List.pairwise_cons.1 h3).1 z hz)
theorem qN {α : Type} {key : α → Int} : ∀ {xs ys : List α}, xs.Pairwise (fun x y => key x < key y) → ys.Pairwise (fun x y => key x < key y) → (∀ x, x ∈ xs ↔ x ∈ ys) → xs = ys
  | [], [], _, _, _ => rfl
  | [], y :: ys, _, _, h => by have := (h y).2 (by simp); simp at this
  | x :: xs, [], _, _, h => by have := (h x).1 (by simp); simp at this
  | x :: xs, y :: ys, h1, h2, h => by
    have a1 := List.pairwise_cons.1 h1
    have a2 := List.pairwise_cons.1 h2
    have hxy : x = y := by
      rcases List.mem_cons.1 ((h x).1 (by simp)) with e | e
      · exact e
      · rcases List.mem_cons.1 ((h y).2 (by simp)) with e2 | e2
        · exact e2.symm
        · have := a2.1 x e; have := a1.1 y e2; omega
    subst hxy
    have := qN a1.2 a2.2 fun z => by
      have hz := h z
      simp only [List.mem_cons] at hz
      constructor
      · intro hm
        rcases hz.1 (.inr hm) with e | e
        · have := a1.1 z hm; rw [e] at this; omega
        · exact e
      · intro hm
        rcases hz.2 (.inr hm) with e | e
        · have := a2.1 z hm; rw [e] at this; omega
        · exact e
    rw [this]

/-- The order of the Ids. -/
theorem aKd : mC (fun x y => oD x y) (fun x => 0 ≤ x.Id ∧ x.Id ≤ 99) (fun x y => x.Id ≤ y.Id) where
  run x y hx hy := ⟨x.Id - y.Id, by unfold oD; rw [bY (by omega) (by omega)], by omega⟩
  tot x y _ _ := by omega
  tr x y z _ _ _ h1 h2 := by omega
def oC (xs : List aB) : Prop := ∃ x ∈ xs, ∃ y ∈ xs, x.Id = y.Id ∧ x ≠ y
theorem aGx (zs : List aB) (hb : zs.length < 4611686018427387904) : ∀ (d i k : Nat), zs.length - i = d → d < k → 1 ≤ i → (∃ j, i ≤ j ∧ ∃ (h : j < zs.length), (zs[j]).Id = (zs[j - 1]'(by omega)).Id) ∧ gA zs k (i : Nat) = some ([], false) ∨
    (∀ j, i ≤ j → ∀ (h : j < zs.length), (zs[j]).Id ≠ (zs[j - 1]'(by omega)).Id) ∧ gA zs k (i : Nat) = some (zs, true) := by
  intro d
  induction d with
  | zero =>
    intro i k hd hk hi
    obtain ⟨k, rfl⟩ : ∃ q, k = q + 1 := ⟨k - 1, by omega⟩
    have hlt : decide ((i : Int) < (zs.length : Int)) = false := decide_eq_false (by omega)
    exact .inr ⟨fun j h1 h => by omega, by simp only [gA, hlt, cond_false, uU]⟩
  | succ d ih =>
    intro i k hd hk hi
    obtain ⟨k, rfl⟩ : ∃ q, k = q + 1 := ⟨k - 1, by omega⟩
    have hlt : decide ((i : Int) < (zs.length : Int)) = true := decide_eq_true (by omega)
    have hil : i < zs.length := by omega
    have i1 := cE (xs := zs) hil
    have i2 : idx zs (w64 ((i : Int) - 1)) = some (zs[i - 1]'(by omega)) := by rw [aEk (by omega) (by omega)]; exact cE (by omega)
    by_cases h : (zs[i]).Id = (zs[i - 1]'(by omega)).Id
    · refine .inl ⟨⟨i, Nat.le_refl _, hil, h⟩, ?_⟩
      simp only [gA, hlt, cond_true, i1, i2, Option.bind_some, decide_eq_true h]
    · have e : gA zs (k + 1) (i : Nat) = gA zs k ((i + 1 : Nat) : Int) := by
        simp only [gA, hlt, cond_true, i1, i2, Option.bind_some, decide_eq_false h, cond_false, bI (show i < 9223372036854775807 by omega)]
      rw [e]
      rcases ih (i + 1) k (by omega) (by omega) (by omega) with ⟨⟨j, h1, h2, h3⟩, h4⟩ | ⟨h1, h2⟩
      · exact .inl ⟨⟨j, by omega, h2, h3⟩, h4⟩
      · refine .inr ⟨fun j hj hjl => ?_, h2⟩
        rcases Nat.eq_or_lt_of_le hj with rfl | hj
        · exact h
        · exact h1 j hj hjl
theorem yF (xs : List aB) (hid : ∀ x ∈ xs, 0 ≤ x.Id ∧ x.Id ≤ 99) (hb : xs.length ≤ 1000000) :
    (oC xs ∧ lO xs = some ([], false)) ∨ (¬ oC xs ∧ ∃ zs, lO xs = some (zs, true) ∧ zs.Pairwise (fun x y => x.Id < y.Id) ∧ (∀ x, x ∈ zs ↔ x ∈ xs) ∧ zs.length ≤ xs.length) := by
  obtain ⟨ys, hp, hs, hr⟩ := zN aKd xs hid (by omega)
  have hyl : ys.length = xs.length := hp.length_eq
  have hcl : dZ xs = some xs := by
    unfold dZ
    rw [fY (by simp; omega)]; rfl
  have hmem : ∀ x, x ∈ gW ys ↔ x ∈ xs := fun x => (aEm x ys).trans hp.mem_iff
  have hlen : (gW ys).length ≤ ys.length := by
    cases ys with
    | nil => exact Nat.le_refl _
    | cons p t => simp only [gW, List.length_cons]; have := (aDm p t).length_le; omega
  have hws : (gW ys).Pairwise fun x y => x.Id ≤ y.Id := by
    cases ys with
    | nil => exact .nil
    | cons p t =>
      refine List.Pairwise.sublist ?_ hs
      exact (aDm p t).cons_cons _
  have e : lO xs = gA (gW ys) BIG 1 := by
    unfold lO
    rw [hcl, Option.bind_some, hr, Option.bind_some, aDh ys (by omega), Option.bind_some]
  rw [e]
  have e1 : ((1 : Nat) : Int) = 1 := rfl
  rcases aGx (gW ys) (by omega) _ 1 BIG rfl (cG (by omega)) (Nat.le_refl _) with ⟨⟨j, h1, h2, h3⟩, h4⟩ | ⟨h1, h2⟩
  · left
    refine ⟨Classical.byContradiction fun hn => ?_, by rw [← e1]; exact h4⟩
    have hcl2 : ∀ x ∈ ys, ∀ y ∈ ys, x.Id = y.Id → x = y := fun x hx y hy hxy => Classical.byContradiction fun hne => hn ⟨x, hp.mem_iff.1 hx, y, hp.mem_iff.1 hy, hxy, hne⟩
    cases ys with
    | nil => simp [gW] at h2
    | cons p t =>
      have hst := zG p t hs hcl2
      have := List.pairwise_iff_getElem.1 hst (j - 1) j (by simp only [gW] at h2; omega) (by simpa only [gW] using h2) (by omega)
      simp only [gW] at h3
      omega
  · by_cases hn : oC xs
    · exfalso
      obtain ⟨x, hx, y, hy, hxy, hne⟩ := hn
      have hst : (gW ys).Pairwise fun x y => x.Id < y.Id := by
        refine List.pairwise_iff_getElem.2 fun i j hi hj hij => ?_
        have a1 := List.pairwise_iff_getElem.1 hws
        have a2 := h1 j (by omega) hj
        have a3 := a1 (j - 1) j (by omega) hj (by omega)
        rcases Nat.eq_or_lt_of_le (show i ≤ j - 1 by omega) with rfl | h
        · omega
        · have := a1 i (j - 1) hi (by omega) h; omega
      obtain ⟨i, hi, rfl⟩ := List.getElem_of_mem ((hmem x).2 hx)
      obtain ⟨j, hj, rfl⟩ := List.getElem_of_mem ((hmem y).2 hy)
      have a1 := List.pairwise_iff_getElem.1 hst
      rcases Nat.lt_trichotomy i j with h | h | h
      · have := a1 i j hi hj h; omega
      · subst h; exact hne rfl
      · have := a1 j i hj hi h; omega
    · right
      refine ⟨hn, gW ys, by rw [← e1]; exact h2, ?_, hmem, by omega⟩
      have hcl2 : ∀ x ∈ ys, ∀ y ∈ ys, x.Id = y.Id → x = y := fun x hx y hy hxy => Classical.byContradiction fun hne => hn ⟨x, hp.mem_iff.1 hx, y, hp.mem_iff.1 hy, hxy, hne⟩
      cases ys with
      | nil => exact .nil
      | cons p t => exact zG p t hs hcl2
end Go.Am

end
section
namespace Go.Am

/-- A search along a row. -/
def sM {α : Type} (p : α → Bool) (l : List α) : Int := if l.findIdx p < l.length then (l.findIdx p : Int) else -1
theorem aGp {α : Type} (p : α → Bool) (l : List α) : decide (0 ≤ sM p l) = l.any p := by
  unfold sM
  split
  · rename_i h
    have : l.any p = true := List.any_eq_true.2 ⟨_, List.getElem_mem h, List.findIdx_getElem (w := h)⟩
    rw [this]; simp
  · rename_i h
    have : l.any p = false := by
      rw [Bool.eq_false_iff]
      intro hn
      obtain ⟨x, hx, hp⟩ := List.any_eq_true.1 hn
      exact h (List.findIdx_lt_length_of_exists ⟨x, hx, hp⟩)
    rw [this]; simp
theorem aCb {α : Type} (F : Nat → Int → Option Int) (l : List α) (p : α → Bool) (h1 : ∀ k i (hi : i < l.length), F (k + 1) (i : Nat) = bif p l[i] then some (i : Int) else F k ((i + 1 : Nat) : Int)) (h2 : ∀ k, F (k + 1) (l.length : Nat) = some (-1)) :
    ∀ k, l.length < k → F k 0 = some (sM p l) := by
  have main : ∀ d i k, l.length - i = d → d < k → i ≤ l.length → (∀ j (hj : j < l.length), j < i → p l[j] = false) → F k (i : Nat) = some (sM p l) := by
    intro d
    induction d with
    | zero =>
      intro i k hd hk hi hno
      obtain ⟨k, rfl⟩ : ∃ q, k = q + 1 := ⟨k - 1, by omega⟩
      have : i = l.length := by omega
      subst this
      have he : ¬ l.findIdx p < l.length := fun h => by
        have := hno _ h h
        rw [List.findIdx_getElem (w := h)] at this
        cases this
      rw [h2, sM, if_neg he]
    | succ d ih =>
      intro i k hd hk hi hno
      obtain ⟨k, rfl⟩ : ∃ q, k = q + 1 := ⟨k - 1, by omega⟩
      have hil : i < l.length := by omega
      rw [h1 k i hil]
      cases hp : p l[i] with
      | true =>
        have he : l.findIdx p = i := by
          rw [List.findIdx_eq hil]
          exact ⟨hp, fun j hj => hno j (by omega) hj⟩
        rw [cond_true, sM, he, if_pos hil]
      | false =>
        rw [cond_false]
        exact ih (i + 1) k (by omega) (by omega) (by omega) fun j hj hji => by
          rcases Nat.lt_or_eq_of_le (Nat.le_of_lt_succ hji) with h | h
          · exact hno j hj h
          · subst h; exact hp
  intro k hk
  exact main _ 0 k rfl (by omega) (Nat.zero_le _) fun j _ h => by omega

theorem tZ (n a b : Int) : dP n a b = some (decide (a ≤ n) && decide (n ≤ b)) := by unfold dP; rw [fW, Option.bind_some]
theorem wJ (n a b : Int) : dO n a b = some (decide (a ≤ n) && decide (n ≤ b)) := by unfold dO; rw [fW, Option.bind_some]

theorem aHr (l : List aJ) (f : aJ → Option Bool) (p : aJ → Bool) (h : ∀ x ∈ l, f x = some (p x)) (hb : l.length ≤ 1000000) : fR l f = some (sM p l) := by
  unfold fR
  refine aCb (fun k i => dC l f (l.length : Int) k i) l p (fun k i hi => ?_) (fun k => ?_) BIG (cG (by omega))
  · have hlt : decide ((i : Int) < (l.length : Int)) = true := decide_eq_true (by omega)
    simp only [dC, hlt, cond_true, cE hi, Option.bind_some, h _ (List.getElem_mem hi), bI (show i < 9223372036854775807 by omega)]
  · have hlt : decide ((l.length : Int) < (l.length : Int)) = false := decide_eq_false (by omega)
    simp only [dC, hlt, cond_false, jD]
theorem vS (l : List aJ) (f : aJ → Option Bool) (p : aJ → Bool) (h : ∀ x ∈ l, f x = some (p x)) (hb : l.length ≤ 1000000) : dB l f = some (l.any p) := by
  unfold dB
  rw [aHr l f p h hb, Option.bind_some, aGp]

def inB (n a b : Int) : Bool := decide (a ≤ n) && decide (n ≤ b)
def nS (P : Int) (r : aB) : Bool := inB r.Id 0 99 && inB r.Player 0 (P - 1) && inB r.Week 0 400 && inB r.Points 0 2000
def jS (P : Int) (a : aJ) : Bool := inB a.Player 0 (P - 1) && decide (0 ≤ a.From) && decide (a.From ≤ a.To) && decide (a.To ≤ 400)
def kR (a b : aJ) : Bool := decide (a.Player = b.Player) && decide (a.From ≤ b.To) && decide (b.From ≤ a.To)
def nI (l : List aJ) : Bool := (List.range l.length).all fun i => (List.range i).all fun k => !kR (l.getD i default) (l.getD k default)
def gF (l : aH) : Bool :=
  inB l.Players 1 16 && inB l.Counts 1 20 && decide (l.Reports.length ≤ 40) && (decide (l.Bans.length ≤ 8) && l.Bans.all (jS l.Players)) && (decide (l.Frozen.length ≤ 8) && l.Frozen.all (jS l.Players)) && l.Reports.all (nS l.Players) && nI l.Frozen

section leaves
variable {P : Int} (hP : 1 ≤ P ∧ P ≤ 16)
include hP
theorem wP : w64 (P - 1) = P - 1 := bY (by omega) (by omega)
theorem aFk (l : aH) (hl : l.Players = P) (all : List aJ) (hb : all.length ≤ 1000000) : lS l all = some (decide (all.length ≤ 8) && all.all (jS P)) := by
  have h1 : ∀ x ∈ all, lZ x l = some (!jS P x) := by
    intro x _
    unfold lZ
    simp only [tZ, Option.bind_some, eL, hl, wP hP, Option.some.injEq]
    unfold jS inB
    by_cases a1 : 0 ≤ x.Player <;> by_cases a2 : x.Player ≤ P - 1 <;> by_cases a3 : 0 ≤ x.From <;> by_cases a4 : x.From ≤ x.To <;> by_cases a5 : x.To ≤ 400 <;> simp [a1, a2, a3, a4, a5] <;> omega
  unfold lS
  rw [vS all _ _ h1 hb, Option.bind_some, fW, Option.bind_some, Option.some.injEq]
  have e1 : decide ((all.length : Int) ≤ 8) = decide (all.length ≤ 8) := by rw [decide_eq_decide]; omega
  rw [e1, List.not_any_eq_all_not]
  simp
theorem aFf (all : List aJ) (hb : all.length ≤ 1000000) : iE P all = some (decide (all.length ≤ 8) && all.all (jS P)) := by
  unfold iE
  have main := kD (fun k i => eX P all k i) all.length (fun i => jS P (all.getD i default)) (some false) (some (decide ((all.length : Int) ≤ 8))) ?_ ?_ BIG (cG (by omega))
  · rw [main]
    have e1 : decide ((all.length : Int) ≤ 8) = decide (all.length ≤ 8) := by rw [decide_eq_decide]; omega
    have e2 : (List.range all.length).all (fun i => jS P (all.getD i default)) = all.all (jS P) := by
      rw [Bool.eq_iff_iff, List.all_eq_true, List.all_eq_true]
      constructor
      · intro h x hx
        obtain ⟨i, hi, rfl⟩ := List.getElem_of_mem hx
        have := h i (List.mem_range.2 hi)
        simpa [List.getD, List.getElem?_eq_getElem hi] using this
      · intro h i hi
        have hi' := List.mem_range.1 hi
        simpa [List.getD, List.getElem?_eq_getElem hi'] using h _ (List.getElem_mem hi')
    rw [e1, e2]
    cases all.all (jS P) <;> simp
  · intro k i hi
    have hlt : decide ((i : Int) < (all.length : Int)) = true := decide_eq_true (by omega)
    have eg : all.getD i default = all[i] := by simp [List.getD, List.getElem?_eq_getElem hi]
    simp only [eX, hlt, cond_true, cE hi, Option.bind_some, wJ, wP hP, eL, bI (show i < 9223372036854775807 by omega), eg]
    have : jS P all[i] = !(!(decide (0 ≤ all[i].Player) && decide (all[i].Player ≤ P - 1)) || decide (all[i].From < 0) || decide (all[i].To < all[i].From) || decide (400 < all[i].To)) := by
      unfold jS inB
      by_cases a1 : 0 ≤ all[i].Player <;> by_cases a2 : all[i].Player ≤ P - 1 <;> by_cases a3 : 0 ≤ all[i].From <;> by_cases a4 : all[i].From ≤ all[i].To <;> by_cases a5 : all[i].To ≤ 400 <;> simp [a1, a2, a3, a4, a5] <;> omega
    rw [this]
    cases (!(decide (0 ≤ all[i].Player) && decide (all[i].Player ≤ P - 1)) || decide (all[i].From < 0) || decide (all[i].To < all[i].From) || decide (400 < all[i].To)) <;> rfl
  · intro k
    have hlt : decide ((all.length : Int) < (all.length : Int)) = false := decide_eq_false (by omega)
    simp only [eX, hlt, cond_false, mG]
theorem aIy (r : aB) : jX P r = some (nS P r) := by
  unfold jX nS inB
  simp only [wJ, Option.bind_some, fW, wP hP]
end leaves

theorem pL {α : Type} [Inhabited α] (l : List α) (p : α → Bool) : (List.range l.length).all (fun i => p (l.getD i default)) = l.all p := by
  rw [Bool.eq_iff_iff, List.all_eq_true, List.all_eq_true]
  constructor
  · intro h x hx
    obtain ⟨i, hi, rfl⟩ := List.getElem_of_mem hx
    have := h i (List.mem_range.2 hi)
    simpa [List.getD, List.getElem?_eq_getElem hi] using this
  · intro h i hi
    have hi' := List.mem_range.1 hi
    simpa [List.getD, List.getElem?_eq_getElem hi'] using h _ (List.getElem_mem hi')
theorem aIc {α : Type} [Inhabited α] (l : List α) (p : α → Bool) {i : Nat} (hi : i ≤ l.length) : (!(l.take i).any p) = (List.range i).all fun k => !p (l.getD k default) := by
  rw [List.not_any_eq_all_not]
  have := pL (l.take i) (fun x => !p x)
  rw [← this]
  have e : (l.take i).length = i := by simp; omega
  rw [e]
  rw [Bool.eq_iff_iff, List.all_eq_true, List.all_eq_true]
  refine forall_congr' fun k => forall_congr' fun hk => ?_
  have hk' := List.mem_range.1 hk
  have : (l.take i).getD k default = l.getD k default := by simp [List.getD, List.getElem?_take, hk']
  rw [this]

theorem aJy (l : aH) (h3 : l.Frozen.length ≤ 1000000) : cX l BIG 0 = some (nI l.Frozen) := by
  have main := kD (fun k i => cX l k i) l.Frozen.length (fun i => (List.range i).all fun k => !kR (l.Frozen.getD i default) (l.Frozen.getD k default)) (some false) (some true) ?_ ?_ BIG (cG (by omega))
  · rw [main]; unfold nI
    cases (List.range l.Frozen.length).all fun i => (List.range i).all fun k => !kR (l.Frozen.getD i default) (l.Frozen.getD k default) <;> rfl
  · intro k i hi
    have hlt : decide ((i : Int) < (l.Frozen.length : Int)) = true := decide_eq_true (by omega)
    have ei : l.Frozen.getD i default = l.Frozen[i] := by simp [List.getD, List.getElem?_eq_getElem hi]
    simp only [cX, hlt, cond_true]
    refine kD (fun k4 q => fG (cX l k) i l k4 q) i (fun q => !kR (l.Frozen.getD i default) (l.Frozen.getD q default)) (some false) (cX l k ((i + 1 : Nat) : Int)) ?_ ?_ BIG (cG (by omega))
    · intro k4 q hq
      have hql : q < l.Frozen.length := by omega
      have eq : l.Frozen.getD q default = l.Frozen[q] := by simp [List.getD, List.getElem?_eq_getElem hql]
      have hlt2 : decide ((q : Int) < (i : Int)) = true := decide_eq_true (by omega)
      simp only [fG, hlt2, cond_true, cE hi, cE hql, Option.bind_some, fW, bI (show q < 9223372036854775807 by omega), ei, eq]
      show (bif kR l.Frozen[i] l.Frozen[q] then _ else _) = _
      cases kR l.Frozen[i] l.Frozen[q] <;> rfl
    · intro k4
      have hlt2 : decide ((i : Int) < (i : Int)) = false := decide_eq_false (by omega)
      simp only [fG, hlt2, cond_false, mY, mX, bI (show i < 9223372036854775807 by omega)]
  · intro k
    have hlt : decide ((l.Frozen.length : Int) < (l.Frozen.length : Int)) = false := decide_eq_false (by omega)
    simp only [cX, hlt, cond_false, mW]
theorem aHo (l : aH) (hP : 1 ≤ l.Players ∧ l.Players ≤ 16) (h1 : l.Reports.length ≤ 1000000) (h3 : l.Frozen.length ≤ 1000000) : eK l BIG 0 = some (l.Reports.all (nS l.Players) && nI l.Frozen) := by
  have main := kD (fun k i => eK l k i) l.Reports.length (fun i => nS l.Players (l.Reports.getD i default)) (some false) (some (nI l.Frozen)) ?_ ?_ BIG (cG (by omega))
  · rw [main, pL]
    cases l.Reports.all (nS l.Players) <;> rfl
  · intro k i hi
    have hlt : decide ((i : Int) < (l.Reports.length : Int)) = true := decide_eq_true (by omega)
    have ei : l.Reports.getD i default = l.Reports[i] := by simp [List.getD, List.getElem?_eq_getElem hi]
    simp only [eK, hlt, cond_true, cE hi, Option.bind_some, aIy hP, bI (show i < 9223372036854775807 by omega), ei]
    cases nS l.Players l.Reports[i] <;> rfl
  · intro k
    have hlt : decide ((l.Reports.length : Int) < (l.Reports.length : Int)) = false := decide_eq_false (by omega)
    simp only [eK, hlt, cond_false, mV, aJy l h3]
theorem aAq {l : aH} (h : ¬ (1 ≤ l.Players ∧ l.Players ≤ 16)) : gF l = false := by
  have : inB l.Players 1 16 = false := by unfold inB; rw [Bool.eq_false_iff]; simpa using h
  unfold gF
  rw [this]; simp
theorem aIv (l : aH) (h1 : l.Reports.length ≤ 1000000) (h2 : l.Bans.length ≤ 1000000) (h3 : l.Frozen.length ≤ 1000000) : jW l = some (gF l) := by
  unfold jW
  have e40 : decide (40 < (l.Reports.length : Int)) = !decide (l.Reports.length ≤ 40) := by
    by_cases h : l.Reports.length ≤ 40
    · rw [decide_eq_true h, decide_eq_false (by omega)]; rfl
    · rw [decide_eq_false h, decide_eq_true (by omega)]; rfl
  rw [wJ, Option.bind_some, wJ, Option.bind_some, eL, Option.bind_some, eL, Option.bind_some, e40]
  rcases Classical.em (1 ≤ l.Players ∧ l.Players ≤ 16) with hP | hP
  · rw [aFf hP l.Bans h2, aFf hP l.Frozen h3, Option.bind_some, Option.bind_some, eL, Option.bind_some, eL, Option.bind_some, aHo l hP h1 h3]
    unfold gF inB
    cases (decide (1 ≤ l.Players) && decide (l.Players ≤ 16)) <;> cases (decide (1 ≤ l.Counts) && decide (l.Counts ≤ 20)) <;> cases decide (l.Reports.length ≤ 40) <;> cases (decide (l.Bans.length ≤ 8) && l.Bans.all (jS l.Players)) <;> cases (decide (l.Frozen.length ≤ 8) && l.Frozen.all (jS l.Players)) <;> simp
  · have : (decide (1 ≤ l.Players) && decide (l.Players ≤ 16)) = false := by rw [Bool.eq_false_iff]; simpa using hP
    rw [this, aAq hP]
    simp
theorem aKf (l : aH) (h3 : l.Frozen.length ≤ 1000000) : hO l.Frozen (l.Frozen.length : Int) l BIG 0 = some (nI l.Frozen) := by
  have main := kD (fun k i => hO l.Frozen (l.Frozen.length : Int) l k i) l.Frozen.length (fun i => (List.range i).all fun k => !kR (l.Frozen.getD i default) (l.Frozen.getD k default)) (some false) (some true) ?_ ?_ BIG (cG (by omega))
  · rw [main]; unfold nI
    cases (List.range l.Frozen.length).all fun i => (List.range i).all fun k => !kR (l.Frozen.getD i default) (l.Frozen.getD k default) <;> rfl
  · intro k i hi
    have hlt : decide ((i : Int) < (l.Frozen.length : Int)) = true := decide_eq_true (by omega)
    have ei : l.Frozen.getD i default = l.Frozen[i] := by simp [List.getD, List.getElem?_eq_getElem hi]
    have hm : ∀ y ∈ l.Frozen.take i, mQ y l.Frozen[i] = some (kR l.Frozen[i] y) := by
      intro y _
      unfold mQ kR
      simp only [fW, Option.bind_some]
    simp only [hO, hlt, cond_true, cE hi, Option.bind_some, uA (show i ≤ l.Frozen.length by omega), vS _ _ _ hm (by simp; omega), bI (show i < 9223372036854775807 by omega)]
    rw [← aIc l.Frozen (fun y => kR (l.Frozen.getD i default) y) (by omega), ei]
    cases (l.Frozen.take i).any fun y => kR l.Frozen[i] y <;> rfl
  · intro k
    have hlt : decide ((l.Frozen.length : Int) < (l.Frozen.length : Int)) = false := decide_eq_false (by omega)
    simp only [hO, hlt, cond_false, qY]
theorem aHx (l : aH) (hP : 1 ≤ l.Players ∧ l.Players ≤ 16) (h1 : l.Reports.length ≤ 1000000) (h2 : l.Bans.length ≤ 1000000) (h3 : l.Frozen.length ≤ 1000000) : hJ l.Reports (l.Reports.length : Int) l BIG 0 =
    some (l.Reports.all (nS l.Players) && ((decide (l.Bans.length ≤ 8) && l.Bans.all (jS l.Players)) && ((decide (l.Frozen.length ≤ 8) && l.Frozen.all (jS l.Players)) && nI l.Frozen))) := by
  have main := kD (fun k i => hJ l.Reports (l.Reports.length : Int) l k i) l.Reports.length (fun i => nS l.Players (l.Reports.getD i default)) (some false) (some ((decide (l.Bans.length ≤ 8) && l.Bans.all (jS l.Players)) && ((decide (l.Frozen.length ≤ 8) && l.Frozen.all (jS l.Players)) && nI l.Frozen))) ?_ ?_ BIG (cG (by omega))
  · rw [main, pL]
    cases l.Reports.all (nS l.Players) <;> rfl
  · intro k i hi
    have hlt : decide ((i : Int) < (l.Reports.length : Int)) = true := decide_eq_true (by omega)
    have ei : l.Reports.getD i default = l.Reports[i] := by simp [List.getD, List.getElem?_eq_getElem hi]
    simp only [hJ, hlt, cond_true, cE hi, Option.bind_some, tZ, eL, wP hP, bI (show i < 9223372036854775807 by omega), ei]
    have : nS l.Players l.Reports[i] = !(!inB l.Reports[i].Id 0 99 || !inB l.Reports[i].Player 0 (l.Players - 1) || !inB l.Reports[i].Week 0 400 || !inB l.Reports[i].Points 0 2000) := by
      unfold nS
      cases inB l.Reports[i].Id 0 99 <;> cases inB l.Reports[i].Player 0 (l.Players - 1) <;> cases inB l.Reports[i].Week 0 400 <;> cases inB l.Reports[i].Points 0 2000 <;> rfl
    rw [this]
    show (bif (!inB l.Reports[i].Id 0 99 || !inB l.Reports[i].Player 0 (l.Players - 1) || !inB l.Reports[i].Week 0 400 || !inB l.Reports[i].Points 0 2000) then _ else _) = _
    cases (!inB l.Reports[i].Id 0 99 || !inB l.Reports[i].Player 0 (l.Players - 1) || !inB l.Reports[i].Week 0 400 || !inB l.Reports[i].Points 0 2000) <;> rfl
  · intro k
    have hlt : decide ((l.Reports.length : Int) < (l.Reports.length : Int)) = false := decide_eq_false (by omega)
    simp only [hJ, hlt, cond_false, qX, aFk hP l rfl l.Bans h2, aFk hP l rfl l.Frozen h3, Option.bind_some, eL, aKf l h3]
    cases (decide (l.Bans.length ≤ 8) && l.Bans.all (jS l.Players)) <;> cases (decide (l.Frozen.length ≤ 8) && l.Frozen.all (jS l.Players)) <;> simp
theorem aJj (l : aH) (h1 : l.Reports.length ≤ 1000000) (h2 : l.Bans.length ≤ 1000000) (h3 : l.Frozen.length ≤ 1000000) : nX l = some (gF l) := by
  unfold nX
  have e40 : decide (40 < (l.Reports.length : Int)) = !decide (l.Reports.length ≤ 40) := by
    by_cases h : l.Reports.length ≤ 40
    · rw [decide_eq_true h, decide_eq_false (by omega)]; rfl
    · rw [decide_eq_false h, decide_eq_true (by omega)]; rfl
  rw [tZ, Option.bind_some, tZ, Option.bind_some, eL, Option.bind_some, eL, Option.bind_some, e40]
  rcases Classical.em (1 ≤ l.Players ∧ l.Players ≤ 16) with hP | hP
  · rw [aHx l hP h1 h2 h3]
    unfold gF inB
    cases (decide (1 ≤ l.Players) && decide (l.Players ≤ 16)) <;> cases (decide (1 ≤ l.Counts) && decide (l.Counts ≤ 20)) <;> cases decide (l.Reports.length ≤ 40) <;> cases (decide (l.Bans.length ≤ 8) && l.Bans.all (jS l.Players)) <;> cases (decide (l.Frozen.length ≤ 8) && l.Frozen.all (jS l.Players)) <;> simp
  · have : (decide (1 ≤ l.Players) && decide (l.Players ≤ 16)) = false := by rw [Bool.eq_false_iff]; simpa using hP
    rw [this, aAq hP]
    simp

/-- Two reports with one Id that are not equal. -/
def lF (l : List aB) : Bool := (List.range l.length).any fun i => (List.range i).any fun k => decide ((l.getD i default).Id = (l.getD k default).Id) && !decide (l.getD i default = l.getD k default)
theorem aJz (l : List aB) (hb : l.length ≤ 1000000) : lT l = some (lF l) := by
  unfold lT
  have main := kD (fun k i => dW l k i) l.length (fun i => (List.range i).all fun k => !(decide ((l.getD i default).Id = (l.getD k default).Id) && !decide (l.getD i default = l.getD k default))) (some true) (some false) ?_ ?_ BIG (cG (by omega))
  · rw [main]
    have : lF l = !((List.range l.length).all fun i => (List.range i).all fun k => !(decide ((l.getD i default).Id = (l.getD k default).Id) && !decide (l.getD i default = l.getD k default))) := by
      unfold lF
      rw [List.not_all_eq_any_not]
      congr 1; funext i
      rw [List.not_all_eq_any_not]
      congr 1; funext k
      rw [Bool.not_not]
    rw [this]
    cases (List.range l.length).all fun i => (List.range i).all fun k => !(decide ((l.getD i default).Id = (l.getD k default).Id) && !decide (l.getD i default = l.getD k default)) <;> rfl
  · intro k i hi
    have hlt : decide ((i : Int) < (l.length : Int)) = true := decide_eq_true (by omega)
    have ei : l.getD i default = l[i] := by simp [List.getD, List.getElem?_eq_getElem hi]
    simp only [dW, hlt, cond_true]
    refine kD (fun k4 q => gJ (dW l k) l i k4 q) i (fun q => !(decide ((l.getD i default).Id = (l.getD q default).Id) && !decide (l.getD i default = l.getD q default))) (some true) (dW l k ((i + 1 : Nat) : Int)) ?_ ?_ BIG (cG (by omega))
    · intro k4 q hq
      have hql : q < l.length := by omega
      have eq : l.getD q default = l[q] := by simp [List.getD, List.getElem?_eq_getElem hql]
      have hlt2 : decide ((q : Int) < (i : Int)) = true := decide_eq_true (by omega)
      simp only [gJ, hlt2, cond_true, cE hi, cE hql, Option.bind_some, fW, bI (show q < 9223372036854775807 by omega), ei, eq]
      cases (decide (l[i].Id = l[q].Id) && !decide (l[i] = l[q])) <;> rfl
    · intro k4
      have hlt2 : decide ((i : Int) < (i : Int)) = false := decide_eq_false (by omega)
      simp only [gJ, hlt2, cond_false, oH, oG, bI (show i < 9223372036854775807 by omega)]
  · intro k
    have hlt : decide ((l.length : Int) < (l.length : Int)) = false := decide_eq_false (by omega)
    simp only [dW, hlt, cond_false, oF]
theorem mK (l : List aB) : lF l = true ↔ oC l := by
  unfold lF oC
  rw [List.any_eq_true]
  constructor
  · rintro ⟨i, hi, h⟩
    obtain ⟨k, hk, h⟩ := List.any_eq_true.1 h
    rw [List.mem_range] at hi hk
    simp only [Bool.and_eq_true, decide_eq_true_eq, Bool.not_eq_true', decide_eq_false_iff_not] at h
    have ei : l.getD i default = l[i] := by simp [List.getD, List.getElem?_eq_getElem hi]
    have ek : l.getD k default = l[k] := by simp [List.getD, List.getElem?_eq_getElem (show k < l.length by omega)]
    rw [ei, ek] at h
    exact ⟨_, List.getElem_mem hi, _, List.getElem_mem (show k < l.length by omega), h.1, h.2⟩
  · rintro ⟨x, hx, y, hy, h1, h2⟩
    obtain ⟨i, hi, rfl⟩ := List.getElem_of_mem hx
    obtain ⟨k, hk, rfl⟩ := List.getElem_of_mem hy
    have ei : l.getD i default = l[i] := by simp [List.getD, List.getElem?_eq_getElem hi]
    have ek : l.getD k default = l[k] := by simp [List.getD, List.getElem?_eq_getElem hk]
    rcases Nat.lt_trichotomy i k with h | h | h
    · exact ⟨k, List.mem_range.2 hk, List.any_eq_true.2 ⟨i, List.mem_range.2 h, by rw [ei, ek]; simp [h1, Ne.symm h2]⟩⟩
    · subst h; exact absurd rfl h2
    · exact ⟨i, List.mem_range.2 hi, List.any_eq_true.2 ⟨k, List.mem_range.2 h, by rw [ei, ek]; simp [h1, h2]⟩⟩
def fZ (l : aH) : Int := bif !gF l then 40 else bif lF l.Reports then 41 else 0
theorem aDi (l : aH) (h1 : l.Reports.length ≤ 1000000) (h2 : l.Bans.length ≤ 1000000) (h3 : l.Frozen.length ≤ 1000000) : kA l = some (fZ l) := by
  unfold kA fZ
  rw [aIv l h1 h2 h3, Option.bind_some, aJz _ h1, Option.bind_some]
  cases gF l <;> cases lF l.Reports <;> rfl
theorem aBn {l : aH} (h : gF l = true) : ∀ r ∈ l.Reports, nS l.Players r = true := by
  unfold gF at h
  simp only [Bool.and_eq_true] at h
  exact List.all_eq_true.1 h.1.2
theorem aDu (l : aH) (h1 : l.Reports.length ≤ 1000000) (h2 : l.Bans.length ≤ 1000000) (h3 : l.Frozen.length ≤ 1000000) : mO l = some (fZ l) := by
  unfold mO fZ
  rw [aJj l h1 h2 h3, Option.bind_some]
  cases hl : gF l with
  | false => rfl
  | true =>
    have hid : ∀ x ∈ l.Reports, 0 ≤ x.Id ∧ x.Id ≤ 99 := fun x hx => by
      have := aBn hl x hx
      unfold nS inB at this
      simp only [Bool.and_eq_true, decide_eq_true_eq] at this
      exact this.1.1.1
    simp only [Bool.not_true, cond_false]
    rcases yF l.Reports hid h1 with ⟨hc, he⟩ | ⟨hc, zs, he, _⟩
    · rw [he, (mK _).2 hc]; rfl
    · have : lF l.Reports = false := by rw [Bool.eq_false_iff]; exact fun h => hc ((mK _).1 h)
      rw [he, this]; rfl
end Go.Am

end
section
namespace Go.Am

/-- A loop along a row, with a state. -/
theorem jR {α S T : Type} (F : Nat → Int → S → T) (l : List α) (f : S → α → S) (K : S → T) (s0 : S) (h1 : ∀ k i (hi : i < l.length) s, s = (l.take i).foldl f s0 → F (k + 1) (i : Nat) s = F k ((i + 1 : Nat) : Int) (f s l[i])) (h2 : ∀ k s, F (k + 1) (l.length : Nat) s = K s) :
    ∀ k, l.length < k → F k 0 s0 = K (l.foldl f s0) := by
  intro k hk
  have := aJh F l.length (fun i s => K ((l.drop i).foldl f s)) (fun i s => s = (l.take i).foldl f s0) (fun k i s hi hI ih => by
    rw [h1 k i hi s hI, ih _ (by rw [List.take_succ_eq_append_getElem hi, List.foldl_append, ← hI]; rfl), List.drop_eq_getElem_cons hi]; rfl)
    (fun k s _ => by rw [h2]; simp) k s0 hk (by simp)
  simpa using this
theorem vU {α T : Type} (F : Nat → Int → List α → T) (l : List α) (p : α → Bool) (K : List α → T) (h1 : ∀ k i (hi : i < l.length) s, s = (l.take i).filter p → F (k + 1) (i : Nat) s = F k ((i + 1 : Nat) : Int) (bif p l[i] then s ++ [l[i]] else s)) (h2 : ∀ k s, F (k + 1) (l.length : Nat) s = K s) :
    ∀ k, l.length < k → F k 0 [] = K (l.filter p) := by
  intro k hk
  have hf : ∀ (l : List α) (s : List α), l.foldl (fun s x => bif p x then s ++ [x] else s) s = s ++ l.filter p := by
    intro l
    induction l with
    | nil => intro s; simp
    | cons x l ih =>
      intro s
      rw [List.foldl_cons, ih]
      cases hp : p x <;> simp [hp]
  have := jR F l (fun s x => bif p x then s ++ [x] else s) K [] (fun k i hi s hs => h1 k i hi s (by rw [hs, hf]; simp)) h2 k hk
  rw [this, hf]; simp

/-- Whether a player is away. -/
def jT (all : List aJ) (p w : Int) : Bool := all.any fun a => decide (a.Player = p) && (decide (a.From ≤ w) && decide (w ≤ a.To))
theorem aIk (all : List aJ) (p w : Int) (hb : all.length ≤ 1000000) : mP all p w = some (jT all p w) := by
  have h1 : ∀ x ∈ all, qE x p w = some (decide (x.Player = p) && (decide (x.From ≤ w) && decide (w ≤ x.To))) := by
    intro x _
    unfold qE
    simp only [tZ, Option.bind_some, fW]
  unfold mP
  rw [vS all _ _ h1 hb]; rfl
theorem aBu {α : Type} [Inhabited α] (l : List α) (p : α → Bool) : (List.range l.length).all (fun i => !p (l.getD i default)) = !l.any p := by
  rw [pL l (fun x => !p x), List.not_any_eq_all_not]
theorem aFu (all : List aJ) (p w : Int) (hb : all.length ≤ 1000000) : kX all p w = some (jT all p w) := by
  unfold kX
  have main := kD (fun k i => kN all p w k i) all.length (fun i => !(fun a : aJ => decide (a.Player = p) && (decide (a.From ≤ w) && decide (w ≤ a.To))) (all.getD i default)) (some true) (some false) ?_ ?_ BIG (cG (by omega))
  · rw [main, aBu all (fun a : aJ => decide (a.Player = p) && (decide (a.From ≤ w) && decide (w ≤ a.To)))]
    unfold jT
    cases all.any fun a => decide (a.Player = p) && (decide (a.From ≤ w) && decide (w ≤ a.To)) <;> rfl
  · intro k i hi
    have hlt : decide ((i : Int) < (all.length : Int)) = true := decide_eq_true (by omega)
    have ei : all.getD i default = all[i] := by simp [List.getD, List.getElem?_eq_getElem hi]
    simp only [kN, hlt, cond_true, cE hi, Option.bind_some, wJ, fW, bI (show i < 9223372036854775807 by omega), ei]
    cases (decide (all[i].Player = p) && (decide (all[i].From ≤ w) && decide (w ≤ all[i].To))) <;> rfl
  · intro k
    have hlt : decide ((all.length : Int) < (all.length : Int)) = false := decide_eq_false (by omega)
    simp only [kN, hlt, cond_false, sQ]

/-- The weeks behind a report's own that are not frozen. -/
def uB (fz : List aJ) (r : aB) (w : Int) : Int := (((List.range (w - r.Week).toNat).filter fun j => !jT fz r.Player (r.Week + 1 + (j : Nat))).length : Nat)
theorem aKu (l : aH) (r : aB) (w : Int) (hb : l.Frozen.length ≤ 1000000) (h0 : 0 ≤ r.Week) (h1 : r.Week ≤ 1000) (h2 : w ≤ 1000) (h3 : 0 ≤ w) : pI l r w = some (uB l.Frozen r w) := by
  unfold pI
  have main : ∀ (d : Nat) (j k : Nat) (c : Nat), (w - r.Week).toNat - j = d → d < k → j ≤ (w - r.Week).toNat → c ≤ j → c = ((List.range j).filter fun j => !jT l.Frozen r.Player (r.Week + 1 + (j : Nat))).length →
      jL w l r k (c : Nat) (r.Week + 1 + (j : Nat)) = some (uB l.Frozen r w) := by
    intro d
    induction d with
    | zero =>
      intro j k c hd hk hj hcj hc
      obtain ⟨k, rfl⟩ : ∃ q, k = q + 1 := ⟨k - 1, by omega⟩
      have hlt : decide (r.Week + 1 + (j : Int) ≤ w) = false := decide_eq_false (by omega)
      have : j = (w - r.Week).toNat := by omega
      simp only [jL, hlt, cond_false, tJ]
      unfold uB
      rw [← this, hc]
    | succ d ih =>
      intro j k c hd hk hj hcj hc
      obtain ⟨k, rfl⟩ : ∃ q, k = q + 1 := ⟨k - 1, by omega⟩
      have hlt : decide (r.Week + 1 + (j : Int) ≤ w) = true := decide_eq_true (by omega)
      have e1 : w64 (r.Week + 1 + (j : Int) + 1) = r.Week + 1 + ((j + 1 : Nat) : Int) := by rw [bY (by omega) (by omega)]; omega
      simp only [jL, hlt, cond_true, aFu _ _ _ hb, Option.bind_some, e1]
      cases ha : jT l.Frozen r.Player (r.Week + 1 + (j : Int)) with
      | true =>
        simp only [Bool.not_true, cond_false]
        exact ih (j + 1) k c (by omega) (by omega) (by omega) (by omega) (by rw [List.range_succ, List.filter_append, List.length_append, ← hc]; simp [ha])
      | false =>
        simp only [Bool.not_false, cond_true]
        rw [bI (by omega)]
        exact ih (j + 1) k (c + 1) (by omega) (by omega) (by omega) (by omega) (by rw [List.range_succ, List.filter_append, List.length_append, ← hc]; simp [ha])
  have e1 : w64 (r.Week + 1) = r.Week + 1 + ((0 : Nat) : Int) := by rw [bY (by omega) (by omega)]; omega
  rw [e1]
  exact main _ 0 BIG 0 rfl (cG (by omega)) (Nat.zero_le _) (Nat.le_refl _) (by simp)
/-- The weeks of a leave within a stretch of weeks. -/
theorem aEo (f t s : Int) (n : Nat) : ((((List.range n).filter fun j => decide (f ≤ s + 1 + (j : Nat)) && decide (s + 1 + (j : Nat) ≤ t)).length : Nat) : Int) = max 0 (min t (s + n) - max f (s + 1) + 1) := by
  induction n with
  | zero => simp only [List.range_zero, List.filter_nil, List.length_nil]; omega
  | succ n ih =>
    rw [List.range_succ, List.filter_append, List.length_append]
    simp only [Int.natCast_add, ih]
    by_cases h1 : f ≤ s + 1 + (n : Int) <;> by_cases h2 : s + 1 + (n : Int) ≤ t <;> simp [h1, h2] <;> omega
theorem zU {α : Type} (l : List α) (p q : α → Bool) (h : ∀ x ∈ l, ¬ (p x = true ∧ q x = true)) : (l.filter fun x => p x || q x).length = (l.filter p).length + (l.filter q).length := by
  induction l with
  | nil => rfl
  | cons x l ih =>
    have h1 := ih fun y hy => h y (List.mem_cons_of_mem _ hy)
    have h2 := h x (by simp)
    cases hp : p x <;> cases hq : q x <;> simp [hp, hq] at h2 ⊢ <;> omega
theorem aGl {α : Type} (l : List α) (p : α → Bool) : (l.filter p).length + (l.filter fun x => !p x).length = l.length := by
  induction l with
  | nil => rfl
  | cons x l ih => cases hp : p x <;> simp [hp] <;> omega
/-- What the leaves take off an age. -/
def tG (p s w : Int) : List aJ → Int
  | [] => 0
  | f :: fz => (if f.Player = p then max 0 (min f.To w - max f.From (s + 1) + 1) else 0) + tG p s w fz
theorem aCa (l : List Nat) : l.filter (fun _ => false) = [] := by
  induction l with
  | nil => rfl
  | cons x l ih => rw [List.filter_cons, ih]; rfl
theorem aCj (p s w : Int) (hsw : s ≤ w) : ∀ fz : List aJ, fz.Pairwise (fun a b => kR a b = false) → tG p s w fz = (((List.range (w - s).toNat).filter fun j => jT fz p (s + 1 + (j : Nat))).length : Nat)
  | [], _ => by simp [tG, jT, aCa]
  | f :: fz, h => by
    have h' := List.pairwise_cons.1 h
    have ih := aCj p s w hsw fz h'.2
    have e : (List.range (w - s).toNat).filter (fun j => jT (f :: fz) p (s + 1 + (j : Nat))) = (List.range (w - s).toNat).filter (fun j => (decide (f.Player = p) && (decide (f.From ≤ s + 1 + (j : Nat)) && decide (s + 1 + (j : Nat) ≤ f.To))) || jT fz p (s + 1 + (j : Nat))) := by
      simp only [jT, List.any_cons]
    rw [e, zU]
    · simp only [tG, ih, Int.natCast_add]
      congr 1
      by_cases hp : f.Player = p
      · have := aEo f.From f.To s (w - s).toNat
        have e2 : s + ((w - s).toNat : Int) = w := by omega
        rw [e2] at this
        simp only [hp, if_true, decide_true, Bool.true_and]
        rw [this]
      · simp [hp, aCa]
    · rintro j _ ⟨h1, h2⟩
      simp only [Bool.and_eq_true, decide_eq_true_eq] at h1
      obtain ⟨a, ha, h3⟩ := List.any_eq_true.1 h2
      simp only [Bool.and_eq_true, decide_eq_true_eq] at h3
      have := h'.1 a ha
      unfold kR at this
      rw [Bool.eq_false_iff] at this
      apply this
      simp only [Bool.and_eq_true, decide_eq_true_eq]
      omega
theorem aBj {l : List aJ} (h : nI l = true) : l.Pairwise (fun a b => kR a b = false) := by
  refine List.pairwise_iff_getElem.2 fun i j hi hj hij => ?_
  have h1 := List.all_eq_true.1 h j (List.mem_range.2 hj)
  have h2 := List.all_eq_true.1 h1 i (List.mem_range.2 hij)
  have ei : l.getD i default = l[i] := by simp [List.getD, List.getElem?_eq_getElem hi]
  have ej : l.getD j default = l[j] := by simp [List.getD, List.getElem?_eq_getElem hj]
  rw [ei, ej] at h2
  unfold kR at h2 ⊢
  rw [Bool.eq_false_iff]
  simp only [Bool.not_eq_true', Bool.eq_false_iff] at h2
  intro hn
  apply h2
  simp only [Bool.and_eq_true, decide_eq_true_eq] at hn ⊢
  omega
theorem aIp (fz : List aJ) (r : aB) (w : Int) (hw : r.Week ≤ w) (ha : fz.Pairwise (fun a b => kR a b = false)) : w - r.Week - tG r.Player r.Week w fz = uB fz r w := by
  rw [aCj r.Player r.Week w hw fz ha]
  unfold uB
  have := aGl (List.range (w - r.Week).toNat) fun j => jT fz r.Player (r.Week + 1 + (j : Nat))
  rw [List.length_range] at this
  omega
theorem aCi (p s w : Int) : ∀ (fz : List aJ), (∀ f ∈ fz, 0 ≤ f.From ∧ f.To ≤ 400) → 0 ≤ tG p s w fz ∧ tG p s w fz ≤ 401 * fz.length
  | [], _ => by simp [tG]
  | f :: fz, h => by
    have h1 := aCi p s w fz fun x hx => h x (List.mem_cons_of_mem _ hx)
    have h2 := h f (by simp)
    simp only [tG, List.length_cons]
    split <;> constructor <;> omega
theorem aKw (b : bD) (r : aB) (w : Int) (hfz : ∀ f ∈ b.Ledger.Frozen, 0 ≤ f.From ∧ f.To ≤ 400 ∧ f.From ≤ f.To) (hb : b.Ledger.Frozen.length ≤ 8) (ha : nI b.Ledger.Frozen = true) (h0 : 0 ≤ r.Week) (h1 : r.Week ≤ w) (h2 : w ≤ 1000) : mH b r w = some (uB b.Ledger.Frozen r w) := by
  unfold mH
  have hoff : ∀ (l : List aJ) (n : Int), l.foldl (fun n f => if f.Player = r.Player then n - max 0 (min f.To w - max f.From (r.Week + 1) + 1) else n) n = n - tG r.Player r.Week w l := by
    intro l
    induction l with
    | nil => intro n; simp [tG]
    | cons f l ih =>
      intro n
      rw [List.foldl_cons, ih]
      simp only [tG]
      split <;> omega
  have main := jR (fun k i n => hH w b.Ledger.Frozen (b.Ledger.Frozen.length : Int) r k n i) b.Ledger.Frozen (fun n f => if f.Player = r.Player then n - max 0 (min f.To w - max f.From (r.Week + 1) + 1) else n) (fun n => some n) (w - r.Week) ?_ ?_ BIG (cG (by omega))
  · rw [bY (by omega) (by omega), main, hoff, aIp _ _ _ h1 (aBj ha)]
  · intro k i hi n hn
    have hlt : decide ((i : Int) < (b.Ledger.Frozen.length : Int)) = true := decide_eq_true (by omega)
    have hf := hfz _ (List.getElem_mem hi)
    have hr := aCi r.Player r.Week w (b.Ledger.Frozen.take i) fun x hx => by have := hfz x (List.mem_of_mem_take hx); omega
    rw [hoff] at hn
    simp only [List.length_take] at hr
    simp only [hH, hlt, cond_true, cE hi, Option.bind_some, bI (show i < 9223372036854775807 by omega)]
    by_cases hp : b.Ledger.Frozen[i].Player = r.Player
    · rw [decide_eq_true hp, cond_true, if_pos hp]
      have e1 : w64 (r.Week + 1) = r.Week + 1 := bY (by omega) (by omega)
      rw [e1]
      have e2 : w64 (min b.Ledger.Frozen[i].To w - max b.Ledger.Frozen[i].From (r.Week + 1)) = min b.Ledger.Frozen[i].To w - max b.Ledger.Frozen[i].From (r.Week + 1) := bY (by omega) (by omega)
      rw [e2]
      have e3 : w64 (min b.Ledger.Frozen[i].To w - max b.Ledger.Frozen[i].From (r.Week + 1) + 1) = min b.Ledger.Frozen[i].To w - max b.Ledger.Frozen[i].From (r.Week + 1) + 1 := bY (by omega) (by omega)
      rw [e3]
      have e4 : w64 (n - max 0 (min b.Ledger.Frozen[i].To w - max b.Ledger.Frozen[i].From (r.Week + 1) + 1)) = n - max 0 (min b.Ledger.Frozen[i].To w - max b.Ledger.Frozen[i].From (r.Week + 1) + 1) := bY (by omega) (by omega)
      rw [e4]
    · rw [decide_eq_false hp, cond_false, if_neg hp]
  · intro k n
    have hlt : decide ((b.Ledger.Frozen.length : Int) < (b.Ledger.Frozen.length : Int)) = false := decide_eq_false (by omega)
    simp only [hH, hlt, cond_false, qW]
end Go.Am

end
section
namespace Go.Am

theorem xF {α : Type} {xs : List α} {i : Nat} (h : i ≤ xs.length) : sub xs (i : Int) (xs.length : Int) = some (xs.drop i) := by
  simp [sub]
  omega
theorem aBl (again : List aB → Int → Option (List aB)) (l out : List aB) {i : Nat} (hi : i < l.length) (hs : out.Pairwise fun x y => x.Id ≤ y.Id) (hb : out.length ≤ 1000000) :
    ∃ a : Nat, a ≤ out.length ∧ (∀ (j : Nat) (h : j < out.length), j < a → (out[j]).Id ≤ (l[i]).Id) ∧ (∀ (j : Nat) (h : j < out.length), a ≤ j → (l[i]).Id < (out[j]).Id) ∧
      fF again l out (i : Nat) BIG 0 false 0 = kK again l out (i : Nat) (a : Nat) (decide (l[i] ∈ out)) := by
  have main : ∀ (d j k a : Nat), out.length - j = d → d < k → j ≤ out.length → a ≤ j → (∀ (q : Nat) (h : q < out.length), q < a → (out[q]).Id ≤ (l[i]).Id) → (∀ (q : Nat) (h : q < out.length), a ≤ q → q < j → (l[i]).Id < (out[q]).Id) →
      ∃ a' : Nat, a' ≤ out.length ∧ (∀ (j : Nat) (h : j < out.length), j < a' → (out[j]).Id ≤ (l[i]).Id) ∧ (∀ (j : Nat) (h : j < out.length), a' ≤ j → (l[i]).Id < (out[j]).Id) ∧
        fF again l out (i : Nat) k (a : Nat) (decide (l[i] ∈ out.take j)) (j : Nat) = kK again l out (i : Nat) (a' : Nat) (decide (l[i] ∈ out)) := by
    intro d
    induction d with
    | zero =>
      intro j k a hd hk hj haj h1 h2
      obtain ⟨k, rfl⟩ : ∃ q, k = q + 1 := ⟨k - 1, by omega⟩
      have : j = out.length := by omega
      subst this
      have hlt : decide ((out.length : Int) < (out.length : Int)) = false := decide_eq_false (by omega)
      exact ⟨a, haj, h1, fun q h hq => h2 q h hq h, by simp only [fF, hlt, cond_false, List.take_length]⟩
    | succ d ih =>
      intro j k a hd hk hj haj h1 h2
      obtain ⟨k, rfl⟩ : ∃ q, k = q + 1 := ⟨k - 1, by omega⟩
      have hjl : j < out.length := by omega
      have hlt : decide ((j : Int) < (out.length : Int)) = true := decide_eq_true (by omega)
      have hkn : (bif decide (l[i] ∈ out.take j) then some true else some (decide (out[j] = l[i]))) = some (decide (l[i] ∈ out.take (j + 1))) := by
        rw [eL, Option.some.injEq, List.take_succ_eq_append_getElem hjl, Bool.eq_iff_iff, Bool.or_eq_true, decide_eq_true_eq, decide_eq_true_eq, decide_eq_true_eq, List.mem_append, List.mem_singleton]
        exact or_congr_right eq_comm
      simp only [fF, hlt, cond_true, cE hjl, cE hi, Option.bind_some, hkn, bI (show j < 9223372036854775807 by omega)]
      by_cases h : (out[j]).Id ≤ (l[i]).Id
      · rw [decide_eq_true h, cond_true]
        refine ih (j + 1) k (j + 1) (by omega) (by omega) (by omega) (Nat.le_refl _) (fun q hq hqa => ?_) fun q hq h3 h4 => by omega
        rcases Nat.eq_or_lt_of_le (Nat.le_of_lt_succ hqa) with rfl | h5
        · exact h
        · have := List.pairwise_iff_getElem.1 hs q j hq hjl h5; omega
      · rw [decide_eq_false h, cond_false]
        refine ih (j + 1) k a (by omega) (by omega) (by omega) (by omega) h1 fun q hq h3 h4 => ?_
        rcases Nat.eq_or_lt_of_le (Nat.le_of_lt_succ h4) with rfl | h5
        · omega
        · exact h2 q hq h3 h5
  have := main out.length 0 BIG 0 rfl (cG (by omega)) (Nat.zero_le _) (Nat.le_refl _) (fun q h hq => by omega) (fun q h h3 h4 => by omega)
  simpa using this
theorem tF (xs : List aB) (hb : xs.length ≤ 1000000) : ∃ z, dD xs = some z ∧ z.Pairwise (fun x y => x.Id ≤ y.Id) ∧ z.Nodup ∧ (∀ x, x ∈ z ↔ x ∈ xs) ∧ z.length ≤ xs.length := by
  have main : ∀ (d i k : Nat) (out : List aB), xs.length - i = d → d < k → i ≤ xs.length → out.Pairwise (fun x y => x.Id ≤ y.Id) → out.Nodup → (∀ x, x ∈ out ↔ x ∈ xs.take i) → out.length ≤ i →
      ∃ z, gE xs k out (i : Nat) = some z ∧ z.Pairwise (fun x y => x.Id ≤ y.Id) ∧ z.Nodup ∧ (∀ x, x ∈ z ↔ x ∈ xs) ∧ z.length ≤ xs.length := by
    intro d
    induction d with
    | zero =>
      intro i k out hd hk hi h1 h2 h3 h4
      obtain ⟨k, rfl⟩ : ∃ q, k = q + 1 := ⟨k - 1, by omega⟩
      have : i = xs.length := by omega
      subst this
      have hlt : decide ((xs.length : Int) < (xs.length : Int)) = false := decide_eq_false (by omega)
      exact ⟨out, by simp only [gE, hlt, cond_false, qB], h1, h2, fun x => by rw [h3, List.take_length], h4⟩
    | succ d ih =>
      intro i k out hd hk hi h1 h2 h3 h4
      obtain ⟨k, rfl⟩ : ∃ q, k = q + 1 := ⟨k - 1, by omega⟩
      have hil : i < xs.length := by omega
      have hlt : decide ((i : Int) < (xs.length : Int)) = true := decide_eq_true (by omega)
      obtain ⟨a, ha, hlo, hhi, he⟩ := aBl (gE xs k) xs out hil h1 (by omega)
      simp only [gE, hlt, cond_true, he]
      unfold kK
      by_cases hm : xs[i] ∈ out
      · rw [decide_eq_true hm, Bool.not_true, cond_false]
        unfold kJ
        rw [bI (by omega)]
        refine ih (i + 1) k out (by omega) (by omega) (by omega) h1 h2 (fun x => ?_) (by omega)
        rw [List.take_succ_eq_append_getElem hil, List.mem_append, List.mem_singleton, h3]
        exact ⟨.inl, fun h => h.elim id fun h => (h3 x).1 (h ▸ hm)⟩
      · rw [decide_eq_false hm, Bool.not_false, cond_true, cE hil, Option.bind_some, xF ha, Option.bind_some, fY (by simp; omega), Option.bind_some, uA ha, Option.bind_some, fY (by simp; omega), Option.bind_some, fY (by simp; omega), Option.bind_some]
        unfold kJ
        rw [bI (by omega)]
        have e1 : [] ++ out.take a ++ ([xs[i]] ++ out.drop a) = out.take a ++ xs[i] :: out.drop a := by simp
        rw [e1]
        have hp : (out.take a ++ xs[i] :: out.drop a).Perm (xs[i] :: out) := by
          have : (out.take a ++ xs[i] :: out.drop a).Perm (xs[i] :: (out.take a ++ out.drop a)) := List.perm_middle
          rwa [List.take_append_drop] at this
        refine ih (i + 1) k _ (by omega) (by omega) (by omega) ?_ (hp.nodup_iff.2 (List.nodup_cons.2 ⟨hm, h2⟩)) (fun x => ?_) (by rw [hp.length_eq]; simp; omega)
        · have h5 := List.pairwise_append.1 (show (out.take a ++ out.drop a).Pairwise (fun x y => x.Id ≤ y.Id) by rw [List.take_append_drop]; exact h1)
          refine List.pairwise_append.2 ⟨h5.1, List.pairwise_cons.2 ⟨fun y hy => ?_, h5.2.1⟩, fun x hx y hy => ?_⟩
          · obtain ⟨q, hq, rfl⟩ := List.getElem_of_mem hy
            simp only [List.length_drop] at hq
            rw [List.getElem_drop]
            have := hhi (a + q) (by omega) (by omega)
            omega
          · rcases List.mem_cons.1 hy with rfl | hy
            · obtain ⟨q, hq, rfl⟩ := List.getElem_of_mem hx
              simp only [List.length_take] at hq
              rw [List.getElem_take]
              exact hlo q (by omega) (by omega)
            · exact h5.2.2 x hx y hy
        · rw [hp.mem_iff, List.mem_cons, h3, List.take_succ_eq_append_getElem hil, List.mem_append, List.mem_singleton]
          exact or_comm
  exact main xs.length 0 BIG [] rfl (cG (by omega)) (Nat.zero_le _) .nil List.nodup_nil (fun x => by simp) (Nat.le_refl _)

/-- A valid ledger, and its reports in the order of their Ids. -/
structure GL (l : aH) (z : List aB) : Prop where
  led : gF l = true
  once : lO l.Reports = some (z, true)
  dist : dD l.Reports = some z
  st : z.Pairwise fun x y => x.Id < y.Id
  mem : ∀ x, x ∈ z ↔ x ∈ l.Reports
  len : z.length ≤ 40
  ncl : ¬ oC l.Reports
theorem kP {l : aH} (h : gF l = true) : (1 ≤ l.Players ∧ l.Players ≤ 16) ∧ (1 ≤ l.Counts ∧ l.Counts ≤ 20) ∧ l.Reports.length ≤ 40 ∧ (l.Bans.length ≤ 8 ∧ ∀ a ∈ l.Bans, jS l.Players a = true) ∧ (l.Frozen.length ≤ 8 ∧ ∀ a ∈ l.Frozen, jS l.Players a = true) ∧ (∀ r ∈ l.Reports, nS l.Players r = true) ∧ nI l.Frozen = true := by
  unfold gF inB at h
  simp only [Bool.and_eq_true, decide_eq_true_eq, List.all_eq_true] at h
  obtain ⟨⟨⟨⟨⟨⟨h1, h2⟩, h3⟩, h4⟩, h5⟩, h6⟩, h7⟩ := h
  exact ⟨h1, h2, h3, h4, h5, h6, h7⟩
theorem vK {P : Int} {r : aB} (h : nS P r = true) : (0 ≤ r.Id ∧ r.Id ≤ 99) ∧ (0 ≤ r.Player ∧ r.Player ≤ P - 1) ∧ (0 ≤ r.Week ∧ r.Week ≤ 400) ∧ (0 ≤ r.Points ∧ r.Points ≤ 2000) := by
  unfold nS inB at h
  simp only [Bool.and_eq_true, decide_eq_true_eq] at h
  exact ⟨h.1.1.1, h.1.1.2, h.1.2, h.2⟩
theorem aGj {P : Int} {a : aJ} (h : jS P a = true) : (0 ≤ a.Player ∧ a.Player ≤ P - 1) ∧ 0 ≤ a.From ∧ a.From ≤ a.To ∧ a.To ≤ 400 := by
  unfold jS inB at h
  simp only [Bool.and_eq_true, decide_eq_true_eq] at h
  exact ⟨h.1.1.1, h.1.1.2, h.1.2, h.2⟩
theorem aAn {l : aH} (h : fZ l = 0) : ∃ z, GL l z := by
  unfold fZ at h
  cases hl : gF l with
  | false => rw [hl] at h; simp at h
  | true =>
    cases hc : lF l.Reports with
    | true => rw [hl, hc] at h; simp at h
    | false =>
      have hncl : ¬ oC l.Reports := fun hn => by rw [(mK _).2 hn] at hc; cases hc
      obtain ⟨_, _, h3, _, _, h6, _⟩ := kP hl
      have hid : ∀ x ∈ l.Reports, 0 ≤ x.Id ∧ x.Id ≤ 99 := fun x hx => (vK (h6 x hx)).1
      rcases yF l.Reports hid (by omega) with ⟨hn, _⟩ | ⟨_, z, h7, h8, h9, h10⟩
      · exact absurd hn hncl
      · obtain ⟨z', d1, d2, d3, d4, _⟩ := tF l.Reports (by omega)
        have hz' : z'.Pairwise fun x y => x.Id < y.Id := by
          refine List.pairwise_iff_getElem.2 fun i j hi hj hij => ?_
          have a1 := List.pairwise_iff_getElem.1 d2 i j hi hj hij
          have a2 := List.pairwise_iff_getElem.1 d3 i j hi hj hij
          rcases Int.lt_or_eq_of_le a1 with h | h
          · exact h
          · exact absurd (Classical.byContradiction fun hne => hncl ⟨_, (d4 _).1 (List.getElem_mem hi), _, (d4 _).1 (List.getElem_mem hj), h, hne⟩) a2
        have : z' = z := qN hz' h8 fun x => (d4 x).trans (h9 x).symm
        subst this
        exact ⟨z', hl, h7, d1, h8, h9, by omega, hncl⟩
theorem aHn {l : aH} {z : List aB} (h : GL l z) : fZ l = 0 := by
  have : lF l.Reports = false := by rw [Bool.eq_false_iff]; exact fun hn => h.ncl ((mK _).1 hn)
  unfold fZ
  rw [h.led, this]; rfl

/-- What counts. -/
def aDg (l : aH) (p w : Int) (r : aB) : Bool := decide (r.Player = p) && decide (r.Week ≤ w) && decide (uB l.Frozen r w < 52) && !jT l.Bans p r.Week
def dM (l : aH) (z : List aB) (p w : Int) : List aB := z.filter (aDg l p w)
/-- The book of a ledger. -/
def gP (l : aH) (z : List aB) : bD := ⟨⟨l.Players, l.Counts, z, l.Bans, l.Frozen⟩⟩
/-- What a ledger says beside its reports. -/
def sN (l : aH) : Bool := gF ⟨l.Players, l.Counts, [], l.Bans, l.Frozen⟩
theorem nT {l : aH} (h : sN l = true) : (1 ≤ l.Players ∧ l.Players ≤ 16) ∧ (1 ≤ l.Counts ∧ l.Counts ≤ 20) ∧ True ∧ (l.Bans.length ≤ 8 ∧ ∀ a ∈ l.Bans, jS l.Players a = true) ∧ (l.Frozen.length ≤ 8 ∧ ∀ a ∈ l.Frozen, jS l.Players a = true) ∧ True ∧ nI l.Frozen = true := by
  have a := kP h
  exact ⟨a.1, a.2.1, trivial, a.2.2.2.1, a.2.2.2.2.1, trivial, a.2.2.2.2.2.2⟩
theorem aJn {l : aH} (h : gF l = true) : sN l = true := by
  unfold sN
  unfold gF at h ⊢
  simp only [Bool.and_eq_true, decide_eq_true_eq] at h ⊢
  simp only [List.length_nil, List.all_nil, Nat.zero_le, and_true, true_and]
  exact ⟨⟨⟨⟨h.1.1.1.1.1.1, h.1.1.1.1.1.2⟩, h.1.1.1.2⟩, h.1.1.2⟩, h.2⟩
/-- A report with any Id. -/
def uW (P : Int) (r : aB) : Bool := inB r.Id 0 10000 && inB r.Player 0 (P - 1) && inB r.Week 0 400 && inB r.Points 0 2000
theorem xC {P : Int} {r : aB} (h : uW P r = true) : (0 ≤ r.Id ∧ r.Id ≤ 10000) ∧ (0 ≤ r.Player ∧ r.Player ≤ P - 1) ∧ (0 ≤ r.Week ∧ r.Week ≤ 400) ∧ (0 ≤ r.Points ∧ r.Points ≤ 2000) := by
  unfold uW inB at h
  simp only [Bool.and_eq_true, decide_eq_true_eq] at h
  exact ⟨h.1.1.1, h.1.1.2, h.1.2, h.2⟩
theorem aJm {P : Int} {r : aB} (h : nS P r = true) : uW P r = true := by
  have := vK h
  unfold uW inB
  simp only [Bool.and_eq_true, decide_eq_true_eq]
  omega
theorem GL.rest {l : aH} {z : List aB} (h : GL l z) : sN l = true := aJn h.led
section count
variable {l : aH} {z : List aB} (hl : sN l = true) (hz : ∀ x ∈ z, uW l.Players x = true) (hlen : z.length ≤ 1000) {p w : Int} (hw : 0 ≤ w) (hw1 : w ≤ 1000)
include hl hz hlen hw hw1
omit hw in
theorem aHb : kY (gP l z) p w = some (dM l z p w) := by
  obtain ⟨_, _, _, hbans, hfz, _, hap⟩ := nT hl
  unfold kY
  refine vU (fun k i s => fV (gP l z) p w z (z.length : Int) k i s) z (aDg l p w) (fun s => some s) (fun k i hi s hs => ?_) (fun k s => ?_) BIG (cG (by omega))
  · have hlt : decide ((i : Int) < (z.length : Int)) = true := decide_eq_true (by omega)
    have hr := xC (hz _ (List.getElem_mem hi))
    have hsl : s.length ≤ i := by rw [hs]; exact Nat.le_trans (List.length_filter_le _ _) (by simp; omega)
    have hage : z[i].Week ≤ w → mH (gP l z) z[i] w = some (uB l.Frozen z[i] w) := fun h => aKw (gP l z) z[i] w (fun f hf => by have := aGj (hfz.2 f hf); omega) hfz.1 hap hr.2.2.1.1 h hw1
    have haw : mP (gP l z).Ledger.Bans p z[i].Week = some (jT l.Bans p z[i].Week) := aIk _ _ _ (show l.Bans.length ≤ 1000000 by omega)
    simp only [fV, hlt, cond_true, cE hi, Option.bind_some, fW, bI (show i < 9223372036854775807 by omega), fY (show (s.length + [z[i]].length) * 40 ≤ 140737488355328 by simp; omega)]
    unfold aDg
    by_cases h1 : z[i].Player = p <;> by_cases h2 : z[i].Week ≤ w
    · have ha := hage h2
      by_cases h3 : uB l.Frozen z[i] w < 52
      · simp only [h1, h2, h3, decide_true, Bool.true_and, cond_true, ha, Option.bind_some, haw]
        cases jT l.Bans p z[i].Week <;> rfl
      · simp only [h1, h2, h3, decide_true, decide_false, Bool.true_and, Bool.and_true, Bool.and_false, Bool.false_and, cond_true, cond_false, ha, Option.bind_some]
    · simp [h1, h2]
    · simp [h1, h2]
    · simp [h1, h2]
  · have hlt : decide ((z.length : Int) < (z.length : Int)) = false := decide_eq_false (by omega)
    simp only [fV, hlt, cond_false, oY]
theorem aIt : fE p w z l BIG 0 [] = some (dM l z p w) := by
  obtain ⟨_, _, _, hbans, hfz, _, hap⟩ := nT hl
  refine vU (fun k i s => fE p w z l k i s) z (aDg l p w) (fun s => some s) (fun k i hi s hs => ?_) (fun k s => ?_) BIG (cG (by omega))
  · have hlt : decide ((i : Int) < (z.length : Int)) = true := decide_eq_true (by omega)
    have hr := xC (hz _ (List.getElem_mem hi))
    have hsl : s.length ≤ i := by rw [hs]; exact Nat.le_trans (List.length_filter_le _ _) (by simp; omega)
    have hage : pI l z[i] w = some (uB l.Frozen z[i] w) := aKu l z[i] w (by omega) hr.2.2.1.1 (by omega) hw1 hw
    have haw : kX l.Bans p z[i].Week = some (jT l.Bans p z[i].Week) := aFu _ _ _ (by omega)
    simp only [fE, hlt, cond_true, cE hi, Option.bind_some, fW, bI (show i < 9223372036854775807 by omega), fY (show (s.length + [z[i]].length) * 40 ≤ 140737488355328 by simp; omega), hage, haw]
    unfold aDg
    cases (decide (z[i].Player = p) && decide (z[i].Week ≤ w) && decide (uB l.Frozen z[i] w < 52) && !jT l.Bans p z[i].Week) <;> rfl
  · have hlt : decide ((z.length : Int) < (z.length : Int)) = false := decide_eq_false (by omega)
    simp only [fE, hlt, cond_false, pZ]
end count
theorem GL.reps {l : aH} {z : List aB} (h : GL l z) : ∀ x ∈ z, uW l.Players x = true := fun x hx => aJm ((kP h.led).2.2.2.2.2.1 x ((h.mem x).1 hx))
/-- What the document needs of a ledger. -/
structure GD (l : aH) (z : List aB) : Prop where
  rest : sN l = true
  dist : dD l.Reports = some z
  st : z.Pairwise fun x y => x.Id < y.Id
  reps : ∀ x ∈ z, uW l.Players x = true
  len : z.length ≤ 100
theorem GL.gd {l : aH} {z : List aB} (h : GL l z) : GD l z := ⟨h.rest, h.dist, h.st, h.reps, Nat.le_trans h.len (by omega)⟩
theorem GD.count {l : aH} {z : List aB} (h : GD l z) {p w : Int} (hw : 0 ≤ w) (hw1 : w ≤ 1000) : iS l p w = some (dM l z p w) := by
  unfold iS
  rw [h.dist, Option.bind_some]
  exact aIt h.rest h.reps (Nat.le_trans h.len (by omega)) hw hw1
end Go.Am

end
section
namespace Go.Am

/-- The first that is not 0. -/
def orF : List Int → Int
  | [] => 0
  | x :: t => if x = 0 then orF t else x
theorem aFj (l : List Int) (hb : l.length ≤ 1000000) : pH l = some (orF l) := by
  unfold pH
  have main : ∀ (d i k : Nat), l.length - i = d → d < k → i ≤ l.length → lB 0 l (l.length : Int) k (i : Nat) = some (orF (l.drop i)) := by
    intro d
    induction d with
    | zero =>
      intro i k hd hk hi
      obtain ⟨k, rfl⟩ : ∃ q, k = q + 1 := ⟨k - 1, by omega⟩
      have hlt : decide ((i : Int) < (l.length : Int)) = false := decide_eq_false (by omega)
      have : l.drop i = [] := List.drop_eq_nil_of_le (by omega)
      simp only [lB, hlt, cond_false, tE, this, orF]
    | succ d ih =>
      intro i k hd hk hi
      obtain ⟨k, rfl⟩ : ∃ q, k = q + 1 := ⟨k - 1, by omega⟩
      have hil : i < l.length := by omega
      have hlt : decide ((i : Int) < (l.length : Int)) = true := decide_eq_true (by omega)
      simp only [lB, hlt, cond_true, cE hil, Option.bind_some, bI (show i < 9223372036854775807 by omega), ih (i + 1) k (by omega) (by omega) (by omega)]
      rw [List.drop_eq_getElem_cons hil]
      simp only [orF]
      by_cases h : l[i] = 0
      · rw [decide_eq_true h, if_pos h]; rfl
      · rw [decide_eq_false h, if_neg h]; rfl
  exact main _ 0 BIG rfl (cG (by omega)) (Nat.zero_le _)

/-- The order in which results are taken. -/
def leT (x y : aB) : Prop := (x.Must = true ∧ y.Must = false) ∨ (x.Must = y.Must ∧ (y.Points < x.Points ∨ (x.Points = y.Points ∧ x.Id ≤ y.Id)))
def kQ (x y : aB) : Bool := (x.Must && !y.Must) || (decide (x.Must = y.Must) && (decide (y.Points < x.Points) || (decide (x.Points = y.Points) && decide (x.Id < y.Id))))
def okT (x : aB) : Prop := (0 ≤ x.Id ∧ x.Id ≤ 10000) ∧ (0 ≤ x.Points ∧ x.Points ≤ 2000)
theorem aKt : mC (fun x y => jN x y) okT leT where
  run x y hx hy := by
    unfold okT at hx hy
    unfold jN leT
    have e1 : w64 (y.Points - x.Points) = y.Points - x.Points := bY (by omega) (by omega)
    have e2 : w64 (x.Id - y.Id) = x.Id - y.Id := bY (by omega) (by omega)
    rw [e1, e2, aFj _ (by simp), Option.bind_some]
    cases hxm : x.Must <;> cases hym : y.Must
    · refine ⟨orF [y.Points - x.Points, x.Id - y.Id], rfl, ?_⟩
      simp only [orF]
      split <;> simp <;> omega
    · exact ⟨1, rfl, by simp⟩
    · exact ⟨-1, rfl, by simp⟩
    · refine ⟨orF [y.Points - x.Points, x.Id - y.Id], rfl, ?_⟩
      simp only [orF]
      split <;> simp <;> omega
  tot x y _ _ := by
    unfold leT
    cases x.Must <;> cases y.Must <;> simp <;> omega
  tr x y z _ _ _ h1 h2 := by
    unfold leT at *
    cases hx : x.Must <;> cases hy : y.Must <;> cases hz : z.Must <;> simp [hx, hy, hz] at h1 h2 ⊢ <;> omega
def dN (all : List aB) : Nat := (all.filter fun r => r.Must).length
def nJ (all : List aB) (r : aB) : Nat := (all.filter fun q => !q.Must && (decide (r.Points < q.Points) || (decide (q.Points = r.Points) && decide (q.Id < r.Id)))).length
/-- The results that are taken, of those that count. -/
def pE (C : Int) (all : List aB) : List aB := all.filter fun r => r.Must || decide ((nJ all r : Int) < C - dN all)
theorem aFn {x y : aB} (h : leT x y) (hne : x.Id ≠ y.Id) : kQ x y = true ∧ kQ y x = false := by
  unfold leT at h
  unfold kQ
  rw [Bool.eq_false_iff]
  cases hx : x.Must <;> cases hy : y.Must <;> simp [hx, hy] at h ⊢ <;> omega
theorem aFh (x : aB) : kQ x x = false := by unfold kQ; simp
/-- How many stand before one. -/
theorem aFl {s : List aB} (hs : s.Pairwise leT) (hid : ∀ i j (hi : i < s.length) (hj : j < s.length), i ≠ j → (s[i]).Id ≠ (s[j]).Id) {i : Nat} (hi : i < s.length) : (s.filter fun q => kQ q s[i]).length = i := by
  have e : s = s.take i ++ s[i] :: s.drop (i + 1) := by rw [← List.drop_eq_getElem_cons hi, List.take_append_drop]
  have h1 : (s.take i).filter (fun q => kQ q s[i]) = s.take i := by
    refine List.filter_eq_self.2 fun q hq => ?_
    obtain ⟨j, hj, rfl⟩ := List.getElem_of_mem hq
    simp only [List.length_take] at hj
    rw [List.getElem_take]
    exact (aFn (List.pairwise_iff_getElem.1 hs j i (by omega) hi (by omega)) (hid j i (by omega) hi (by omega))).1
  have h2 : (s.drop (i + 1)).filter (fun q => kQ q s[i]) = [] := by
    refine List.filter_eq_nil_iff.2 fun q hq => ?_
    obtain ⟨j, hj, rfl⟩ := List.getElem_of_mem hq
    simp only [List.length_drop] at hj
    rw [List.getElem_drop]
    have := (aFn (List.pairwise_iff_getElem.1 hs i (i + 1 + j) hi (by omega) (by omega)) (hid i (i + 1 + j) hi (by omega) (by omega))).2
    rw [this]; simp
  have h3 : (s.filter fun q => kQ q s[i]) = s.take i :=
    calc (s.filter fun q => kQ q s[i]) = (s.take i ++ s[i] :: s.drop (i + 1)).filter (fun q => kQ q s[i]) := congrArg (fun l => List.filter (fun q => kQ q s[i]) l) e
      _ = s.take i := by
        rw [List.filter_append, List.filter_cons, h1, h2, aFh]
        simp
  rw [h3, List.length_take]; omega
theorem uC (all : List aB) (r : aB) : (r.Must = false → (all.filter fun q => kQ q r).length = dN all + nJ all r) ∧ (r.Must = true → (all.filter fun q => kQ q r).length ≤ dN (all.filter fun q => kQ q r)) := by
  constructor
  · intro hr
    unfold dN nJ
    rw [← zU]
    · congr 1
      refine List.filter_congr fun q _ => ?_
      unfold kQ
      rw [hr]
      cases q.Must <;> simp
    · rintro q _ ⟨h1, h2⟩
      simp [h1] at h2
  · intro hr
    unfold dN
    rw [List.filter_filter]
    refine Nat.le_of_eq ?_
    congr 1
    refine List.filter_congr fun q _ => ?_
    unfold kQ
    rw [hr]
    cases q.Must <;> simp
theorem rH {p : aB → Bool} {a b : List aB} (h : a.Perm b) : (a.filter p).length = (b.filter p).length := (h.filter p).length_eq
theorem aBg {z : List aB} (h : z.Pairwise fun x y => x.Id < y.Id) : ∀ x ∈ z, ∀ y ∈ z, x.Id = y.Id → x = y := by
  intro x hx y hy hxy
  obtain ⟨i, hi, rfl⟩ := List.getElem_of_mem hx
  obtain ⟨j, hj, rfl⟩ := List.getElem_of_mem hy
  have h1 := List.pairwise_iff_getElem.1 h
  rcases Nat.lt_trichotomy i j with h2 | h2 | h2
  · have := h1 i j hi hj h2; omega
  · subst h2; rfl
  · have := h1 j i hj hi h2; omega
theorem yR {z : List aB} (h : z.Pairwise fun x y => x.Id < y.Id) : z.Nodup := h.imp fun h he => by rw [he] at h; omega
theorem aGf {C : Int} {all s : List aB} (hall : all.Pairwise fun x y => x.Id < y.Id) (hp : s.Perm all) (hs : s.Pairwise leT) {N : Nat} (hN : (N : Int) = min (s.length : Int) (max (dN s : Int) C)) (hNl : N ≤ s.length) : (s.take N).Perm (pE C all) := by
  have hsl : s.length = all.length := hp.length_eq
  have hnd : s.Nodup := hp.nodup_iff.2 (yR hall)
  have hml : dN s ≤ s.length := List.length_filter_le _ _
  have hids : ∀ i j (hi : i < s.length) (hj : j < s.length), i ≠ j → (s[i]).Id ≠ (s[j]).Id := fun i j hi hj hij he => by
    have := aBg hall _ (hp.mem_iff.1 (List.getElem_mem hi)) _ (hp.mem_iff.1 (List.getElem_mem hj)) he
    have hn := List.pairwise_iff_getElem.1 hnd
    rcases Nat.lt_or_gt_of_ne hij with h | h
    · exact hn i j hi hj h this
    · exact hn j i hj hi h this.symm
  refine (List.perm_ext_iff_of_nodup (hnd.sublist (List.take_sublist N s)) ((yR hall).sublist List.filter_sublist)).2 fun r => ?_
  have hmust : dN s = dN all := rH hp
  rw [List.mem_filter]
  constructor
  · intro h
    obtain ⟨i, hi, rfl⟩ := List.getElem_of_mem h
    simp only [List.length_take] at hi
    have hil : i < s.length := by omega
    have e : (s.take N)[i]'(by simp; omega) = s[i] := List.getElem_take
    rw [e]
    have h1 := aFl hs hids hil
    rw [rH (p := fun q => kQ q s[i]) hp] at h1
    refine ⟨hp.mem_iff.1 (List.getElem_mem hil), ?_⟩
    cases hmu : s[i].Must with
    | true => rfl
    | false =>
      have h2 := (uC all s[i]).1 hmu
      simp only [Bool.false_or, decide_eq_true_eq]
      omega
  · rintro ⟨h1, h2⟩
    obtain ⟨i, hi, rfl⟩ := List.getElem_of_mem (hp.mem_iff.2 h1)
    have h3 := aFl hs hids hi
    have hiN : i < N := by
      cases hmu : s[i].Must with
      | true =>
        have h4 := (uC s s[i]).2 hmu
        rw [h3] at h4
        -- the one itself is a must too
        have h5 : dN (s.filter fun q => kQ q s[i]) < dN s := by
          unfold dN
          rw [List.filter_filter]
          have h6 := zU s (fun q => q.Must && kQ q s[i]) (fun q => q.Must && !kQ q s[i]) (fun q _ h => by simp only [Bool.and_eq_true, Bool.not_eq_true'] at h; rw [h.1.2] at h; exact absurd h.2.2 (by simp))
          have h7 : (s.filter fun q => (q.Must && kQ q s[i]) || (q.Must && !kQ q s[i])) = s.filter fun q => q.Must := List.filter_congr fun q _ => by cases q.Must <;> cases kQ q s[i] <;> rfl
          rw [h7] at h6
          have h8 : 0 < (s.filter fun q => q.Must && !kQ q s[i]).length := List.length_pos_of_mem (List.mem_filter.2 ⟨List.getElem_mem hi, by rw [hmu, aFh]; rfl⟩)
          omega
        omega
      | false =>
        rw [hmu] at h2
        simp only [Bool.false_or, decide_eq_true_eq] at h2
        rw [rH (p := fun q => kQ q s[i]) hp] at h3
        have h4 := (uC all s[i]).1 hmu
        omega
    have : (s.take N)[i]'(by simp; omega) = s[i] := List.getElem_take
    rw [← this]
    exact List.getElem_mem _
theorem aHd (b : bD) (all : List aB) (hall : all.Pairwise fun x y => x.Id < y.Id) (hok : ∀ x ∈ all, okT x) (hb : all.length ≤ 1000) (hC : 0 ≤ b.Ledger.Counts ∧ b.Ledger.Counts ≤ 1000) : ∃ t, kZ b all = some t ∧ t.Perm (pE b.Ledger.Counts all) := by
  obtain ⟨s, hp, hs, hr⟩ := zN aKt all hok (by omega)
  have hsl : s.length = all.length := hp.length_eq
  have hcl : dZ all = some all := by
    unfold dZ
    rw [fY (by simp; omega)]; rfl
  have hm : ∀ (l : List aB) (n : Int), l.foldl (fun n r => bif r.Must then n + 1 else n) n = n + dN l := by
    intro l
    induction l with
    | nil => intro n; simp [dN]
    | cons x l ih =>
      intro n
      rw [List.foldl_cons, ih]
      unfold dN
      rw [List.filter_cons]
      cases x.Must <;> simp <;> omega
  have hml : dN s ≤ s.length := List.length_filter_le _ _
  have loop : fA b (s.length : Int) s BIG 0 0 = kT b (dN s : Nat) s := by
    have main := jR (fun k i n => fA b (s.length : Int) s k n i) s (fun n r => bif r.Must then n + 1 else n) (fun n => kT b n s) 0 ?_ ?_ BIG (cG (by omega))
    · rw [main, hm]; simp
    · intro k i hi n hn
      have hlt : decide ((i : Int) < (s.length : Int)) = true := decide_eq_true (by omega)
      have hmi : dN (s.take i) ≤ i := Nat.le_trans (List.length_filter_le _ _) (by simp; omega)
      rw [hm] at hn
      simp only [fA, hlt, cond_true, cE hi, Option.bind_some, bI (show i < 9223372036854775807 by omega)]
      cases s[i].Must
      · rfl
      · simp only [cond_true]; rw [bY (by omega) (by omega)]
    · intro k n
      have hlt : decide ((s.length : Int) < (s.length : Int)) = false := decide_eq_false (by omega)
      simp only [fA, hlt, cond_false]
  obtain ⟨N, hN, hNl⟩ : ∃ N : Nat, (N : Int) = min (s.length : Int) (max (dN s : Int) b.Ledger.Counts) ∧ N ≤ s.length := ⟨(min (s.length : Int) (max (dN s : Int) b.Ledger.Counts)).toNat, by omega, by omega⟩
  refine ⟨s.take N, ?_, ?_⟩
  · unfold kZ
    rw [hcl, Option.bind_some, hr, Option.bind_some, loop]
    unfold kT
    rw [← hN, uA hNl]; rfl
  · exact aGf hall hp hs hN hNl
end Go.Am

end
section
namespace Go.Am

theorem mN {α : Type} {p : α → Bool} {x : α} {l : List α} (h : x ∈ l.filter p) : x ∈ l := (List.mem_filter.1 h).1
def mA : List aB → Int
  | [] => 0
  | r :: t => r.Points + mA t
def jG (l : List aB) : Int := mA (l.filter fun r => r.Must)
theorem aCn {a b : List aB} (h : a.Perm b) : mA a = mA b := by
  induction h with
  | nil => rfl
  | cons x _ ih => simp only [mA, ih]
  | swap x y l => simp only [mA]; omega
  | trans _ _ h1 h2 => exact h1.trans h2
theorem pQ {l : List aB} (h : ∀ r ∈ l, 0 ≤ r.Points ∧ r.Points ≤ 2000) : 0 ≤ mA l ∧ mA l ≤ 2000 * l.length := by
  induction l with
  | nil => simp [mA]
  | cons r l ih =>
    have h1 := ih fun x hx => h x (List.mem_cons_of_mem _ hx)
    have h2 := h r (by simp)
    simp only [mA, List.length_cons]
    omega
theorem xG : ∀ (l : List aB) (n : Int), l.foldl (fun n r => n + r.Points) n = n + mA l
  | [], n => by simp [mA]
  | r :: l, n => by rw [List.foldl_cons, xG l]; simp only [mA]; omega
theorem aKh (l : List aB) (h : ∀ r ∈ l, 0 ≤ r.Points ∧ r.Points ≤ 2000) (hb : l.length ≤ 1000000) : sH l = some (mA l) := by
  unfold sH
  have main := jR (fun k i n => nE l (l.length : Int) k n i) l (fun n r => n + r.Points) (fun n => some n) 0 ?_ ?_ BIG (cG (by omega))
  · rw [main, xG]; simp
  · intro k i hi n hn
    have hlt : decide ((i : Int) < (l.length : Int)) = true := decide_eq_true (by omega)
    have h1 := pQ (l := l.take i) fun r hr => h r (List.mem_of_mem_take hr)
    have h2 := h _ (List.getElem_mem hi)
    simp only [List.length_take] at h1
    rw [xG] at hn
    simp only [nE, hlt, cond_true, cE hi, Option.bind_some, bI (show i < 9223372036854775807 by omega)]
    rw [bY (by omega) (by omega)]
  · intro k n
    have hlt : decide ((l.length : Int) < (l.length : Int)) = false := decide_eq_false (by omega)
    simp only [nE, hlt, cond_false, vZ]

/-- The points of a player in a week. -/
def uO (l : aH) (z : List aB) (p w : Int) : Int := mA (pE l.Counts (dM l z p w))
theorem qP {l : aH} {z : List aB} (hz : ∀ x ∈ z, uW l.Players x = true) {p w : Int} : ∀ x ∈ dM l z p w, okT x := fun x hx => by
  have := xC (hz x (mN hx))
  exact ⟨this.1, this.2.2.2⟩
theorem zV {l : aH} {z : List aB} (hz : z.Pairwise fun x y => x.Id < y.Id) {p w : Int} : (dM l z p w).Pairwise fun x y => x.Id < y.Id := hz.sublist List.filter_sublist
theorem nN {l : aH} {z : List aB} {p w : Int} : (dM l z p w).length ≤ z.length := List.length_filter_le _ _
theorem aJk {l : aH} {z : List aB} (hl : sN l = true) (hz : ∀ x ∈ z, uW l.Players x = true) (hst : z.Pairwise fun x y => x.Id < y.Id) (hlen : z.length ≤ 1000) {p w : Int} (hw : 0 ≤ w) (hw1 : w ≤ 1000) : jA (gP l z) p w = some (uO l z p w) := by
  have hf := nT hl
  obtain ⟨t, h1, h2⟩ := aHd (gP l z) (dM l z p w) (zV hst) (qP hz) (Nat.le_trans nN hlen) (by have := hf.2.1; show 0 ≤ l.Counts ∧ l.Counts ≤ 1000; omega)
  have ht : ∀ r ∈ t, 0 ≤ r.Points ∧ r.Points ≤ 2000 := fun r hr => (qP hz r (mN (h2.mem_iff.1 hr))).2
  have htl : t.length ≤ 1000 := by rw [h2.length_eq]; exact Nat.le_trans (List.length_filter_le _ _) (Nat.le_trans nN hlen)
  unfold jA
  rw [aHb hl hz hlen hw1, Option.bind_some, h1, Option.bind_some, aKh t ht (by omega), Option.bind_some, aCn h2]; rfl

/-- The document's results that are taken. -/
theorem aIz (l : aH) (all : List aB) (hst : all.Pairwise fun x y => x.Id < y.Id) (hb : all.length ≤ 1000) (hC : 0 ≤ l.Counts ∧ l.Counts ≤ 1000) : gL all l BIG 0 0 = some (pE l.Counts all) := by
  have hm : ∀ (l : List aB) (n : Int), l.foldl (fun n r => bif r.Must then n + 1 else n) n = n + dN l := by
    intro l
    induction l with
    | nil => intro n; simp [dN]
    | cons x l ih =>
      intro n
      rw [List.foldl_cons, ih]
      unfold dN
      rw [List.filter_cons]
      cases x.Must <;> simp <;> omega
  have hml : dN all ≤ all.length := List.length_filter_le _ _
  have main := jR (fun k i n => gL all l k n i) all (fun n r => bif r.Must then n + 1 else n) (fun n => oI all n l) 0 ?_ ?_ BIG (cG (by omega))
  · rw [main, hm]
    unfold oI
    have e0 : (0 : Int) + (dN all : Int) = (dN all : Int) := by omega
    rw [e0]
    refine vU (fun k i s => gM all (dN all : Nat) l k i s) all (fun r => r.Must || decide ((nJ all r : Int) < l.Counts - dN all)) (fun s => some s) (fun k i hi s hs => ?_) (fun k s => ?_) BIG (cG (by omega))
    · have hlt : decide ((i : Int) < (all.length : Int)) = true := decide_eq_true (by omega)
      have hsl : s.length ≤ i := by rw [hs]; exact Nat.le_trans (List.length_filter_le _ _) (by simp; omega)
      simp only [gM, hlt, cond_true]
      have hbt : ∀ (l : List aB) (n : Int), l.foldl (fun n q => bif (!q.Must && (decide (all[i].Points < q.Points) || (decide (q.Points = all[i].Points) && decide (q.Id < all[i].Id)))) then n + 1 else n) n = n + nJ l all[i] := by
        intro l
        induction l with
        | nil => intro n; simp [nJ]
        | cons x l ih =>
          intro n
          rw [List.foldl_cons, ih]
          unfold nJ
          rw [List.filter_cons]
          cases (!x.Must && (decide (all[i].Points < x.Points) || (decide (x.Points = all[i].Points) && decide (x.Id < all[i].Id)))) <;> simp <;> omega
      have inner := jR (fun k4 q n => iT (gM all (dN all : Nat) l k) all (dN all : Nat) (i : Nat) l s k4 n q) all (fun n q => bif (!q.Must && (decide (all[i].Points < q.Points) || (decide (q.Points = all[i].Points) && decide (q.Id < all[i].Id)))) then n + 1 else n)
        (fun n => oK (gM all (dN all : Nat) l k) all (dN all : Nat) (i : Nat) n l s) 0 ?_ ?_ BIG (cG (by omega))
      · rw [inner, hbt]
        have e1 : (0 : Int) + (nJ all all[i] : Int) = (nJ all all[i] : Int) := by omega
        have e2 : w64 (l.Counts - (dN all : Int)) = l.Counts - (dN all : Int) := bY (by omega) (by omega)
        rw [e1]
        unfold oK oJ
        rw [cE hi, Option.bind_some, e2, eL, Option.bind_some, Option.bind_some, fY (by simp; omega), Option.bind_some, bI (by omega)]
        cases (all[i].Must || decide ((nJ all all[i] : Int) < l.Counts - (dN all : Int))) <;> rfl
      · intro k4 q hq n hn
        have hlt2 : decide ((q : Int) < (all.length : Int)) = true := decide_eq_true (by omega)
        have hbl : nJ (all.take q) all[i] ≤ q := Nat.le_trans (List.length_filter_le _ _) (by simp; omega)
        rw [hbt] at hn
        have hid : decide ((q : Int) < (i : Int)) = decide (all[q].Id < all[i].Id) := by
          rw [decide_eq_decide]
          have h1 := List.pairwise_iff_getElem.1 hst
          constructor
          · intro h; exact h1 q i hq hi (by omega)
          · intro h
            rcases Nat.lt_trichotomy q i with h2 | h2 | h2
            · omega
            · subst h2; omega
            · have := h1 i q hi hq h2; omega
        simp only [iT, hlt2, cond_true, cE hq, cE hi, Option.bind_some, fW, eL, hid, bI (show q < 9223372036854775807 by omega)]
        cases (!all[q].Must && (decide (all[i].Points < all[q].Points) || (decide (all[q].Points = all[i].Points) && decide (all[q].Id < all[i].Id))))
        · rfl
        · simp only [cond_true]; rw [bY (by omega) (by omega)]
      · intro k4 n
        have hlt2 : decide ((all.length : Int) < (all.length : Int)) = false := decide_eq_false (by omega)
        simp only [iT, hlt2, cond_false]
    · have hlt : decide ((all.length : Int) < (all.length : Int)) = false := decide_eq_false (by omega)
      simp only [gM, hlt, cond_false, rY]
  · intro k i hi n hn
    have hlt : decide ((i : Int) < (all.length : Int)) = true := decide_eq_true (by omega)
    have hmi : dN (all.take i) ≤ i := Nat.le_trans (List.length_filter_le _ _) (by simp; omega)
    rw [hm] at hn
    simp only [gL, hlt, cond_true, cE hi, Option.bind_some, bI (show i < 9223372036854775807 by omega)]
    cases all[i].Must
    · rfl
    · simp only [cond_true]; rw [bY (by omega) (by omega)]
  · intro k n
    have hlt : decide ((all.length : Int) < (all.length : Int)) = false := decide_eq_false (by omega)
    simp only [gL, hlt, cond_false]
theorem GD.taken {l : aH} {z : List aB} (h : GD l z) {p w : Int} (hw : 0 ≤ w) (hw1 : w ≤ 1000) : qQ l p w = some (pE l.Counts (dM l z p w)) := by
  unfold qQ
  rw [h.count hw hw1, Option.bind_some]
  have := h.len
  exact aIz l _ (zV h.st) (Nat.le_trans nN (by omega)) (by have := (nT h.rest).2.1; omega)
theorem aFz (C : Int) (all : List aB) : jG (pE C all) = jG all := by
  unfold jG pE
  rw [List.filter_filter]
  congr 1
  exact List.filter_congr fun r _ => by cases r.Must <;> simp
theorem GD.points {l : aH} {z : List aB} (h : GD l z) {p w : Int} (hw : 0 ≤ w) (hw1 : w ≤ 1000) : nF l p w = some (uO l z p w, jG (dM l z p w)) := by
  unfold nF
  rw [h.taken hw hw1, Option.bind_some]
  obtain ⟨t, ht⟩ : ∃ t, t = pE l.Counts (dM l z p w) := ⟨_, rfl⟩
  have hp : ∀ r ∈ t, 0 ≤ r.Points ∧ r.Points ≤ 2000 := fun r hr => (qP h.reps r (mN (ht ▸ hr))).2
  have hlen : t.length ≤ 1000 := by rw [ht]; exact Nat.le_trans (List.length_filter_le _ _) (Nat.le_trans nN (Nat.le_trans h.len (by omega)))
  have hf : ∀ (l : List aB) (s : Int × Int), l.foldl (fun s r => (s.1 + r.Points, bif r.Must then s.2 + r.Points else s.2)) s = (s.1 + mA l, s.2 + jG l) := by
    intro l
    induction l with
    | nil => intro s; simp [mA, jG]
    | cons x l ih =>
      intro s
      rw [List.foldl_cons, ih]
      unfold jG
      rw [List.filter_cons]
      cases x.Must <;> simp [mA] <;> omega
  have main := jR (S := Int × Int) (fun k i s => iF t k s.1 s.2 i) t (fun s r => (s.1 + r.Points, bif r.Must then s.2 + r.Points else s.2)) (fun s => some s) (0, 0) ?_ ?_ BIG (cG (by omega))
  · rw [← ht]
    refine Eq.trans main ?_
    rw [hf]
    unfold uO
    have hmt : jG t = jG (dM l z p w) := by rw [ht, aFz]
    rw [← ht, hmt]
    simp
  · intro k i hi s hs
    have hlt : decide ((i : Int) < (t.length : Int)) = true := decide_eq_true (by omega)
    have h1 := pQ (l := t.take i) fun r hr => hp r (List.mem_of_mem_take hr)
    have h3 := pQ (l := (t.take i).filter fun r => r.Must) fun r hr => hp r (List.mem_of_mem_take (mN hr))
    have h4 := List.length_filter_le (fun r : aB => r.Must) (t.take i)
    have h2 := hp _ (List.getElem_mem hi)
    simp only [List.length_take] at h1 h4
    rw [hf] at hs
    subst hs
    simp only [iF, hlt, cond_true, cE hi, Option.bind_some, bI (show i < 9223372036854775807 by omega)]
    have e1 : w64 (0 + mA (t.take i) + t[i].Points) = 0 + mA (t.take i) + t[i].Points := bY (by omega) (by omega)
    have e2 : w64 (0 + jG (t.take i) + t[i].Points) = 0 + jG (t.take i) + t[i].Points := bY (by unfold jG; omega) (by unfold jG; omega)
    rw [e1, e2]
    cases t[i].Must <;> rfl
  · intro k s
    have hlt : decide ((t.length : Int) < (t.length : Int)) = false := decide_eq_false (by omega)
    simp only [iF, hlt, cond_false, rE]
end Go.Am

end
section
namespace Go.Am

theorem xL {α : Type} {R : α → α → Prop} (hirr : ∀ x, ¬ R x x) (hasym : ∀ x y, R x y → ¬ R y x) : ∀ {xs ys : List α}, xs.Pairwise R → ys.Pairwise R → (∀ x, x ∈ xs ↔ x ∈ ys) → xs = ys
  | [], [], _, _, _ => rfl
  | [], y :: ys, _, _, h => by have := (h y).2 (by simp); simp at this
  | x :: xs, [], _, _, h => by have := (h x).1 (by simp); simp at this
  | x :: xs, y :: ys, h1, h2, h => by
    have a1 := List.pairwise_cons.1 h1
    have a2 := List.pairwise_cons.1 h2
    have hxy : x = y := by
      rcases List.mem_cons.1 ((h x).1 (by simp)) with e | e
      · exact e
      · rcases List.mem_cons.1 ((h y).2 (by simp)) with e2 | e2
        · exact e2.symm
        · exact absurd (a2.1 x e) (hasym _ _ (a1.1 y e2))
    subst hxy
    have := xL hirr hasym a1.2 a2.2 fun z => by
      have hz := h z
      simp only [List.mem_cons] at hz
      constructor
      · intro hm
        rcases hz.1 (.inr hm) with e | e
        · have := a1.1 z hm; rw [e] at this; exact absurd this (hirr _)
        · exact e
      · intro hm
        rcases hz.2 (.inr hm) with e | e
        · have := a2.1 z hm; rw [e] at this; exact absurd this (hirr _)
        · exact e
    rw [this]

/-- The order of the lines. -/
def leL (x y : aP) : Prop := y.points < x.points ∨ (x.points = y.points ∧ (y.musts < x.musts ∨ (x.musts = y.musts ∧ (x.many < y.many ∨ (x.many = y.many ∧ x.player ≤ y.player)))))
def ltL (x y : aP) : Prop := y.points < x.points ∨ (x.points = y.points ∧ (y.musts < x.musts ∨ (x.musts = y.musts ∧ (x.many < y.many ∨ (x.many = y.many ∧ x.player < y.player)))))
def aDr (x : aP) : Prop := (0 ≤ x.points ∧ x.points ≤ 1000000000) ∧ (0 ≤ x.musts ∧ x.musts ≤ 1000000000) ∧ (0 ≤ x.many ∧ x.many ≤ 1000000000) ∧ (0 ≤ x.player ∧ x.player ≤ 1000000000)
theorem aKn : mC (fun x y => jO x y) aDr leL where
  run x y hx hy := by
    unfold aDr at hx hy
    unfold jO leL
    have e1 : w64 (y.points - x.points) = y.points - x.points := bY (by omega) (by omega)
    have e2 : w64 (y.musts - x.musts) = y.musts - x.musts := bY (by omega) (by omega)
    have e3 : w64 (x.many - y.many) = x.many - y.many := bY (by omega) (by omega)
    have e4 : w64 (x.player - y.player) = x.player - y.player := bY (by omega) (by omega)
    rw [e1, e2, e3, e4, aFj _ (by simp), Option.bind_some]
    refine ⟨_, rfl, ?_⟩
    simp only [orF]
    split
    · split
      · split
        · split <;> omega
        · omega
      · omega
    · omega
  tot x y _ _ := by unfold leL; omega
  tr x y z _ _ _ h1 h2 := by unfold leL at *; omega

/-- A player's line. -/
def oP (l : aH) (z : List aB) (w p : Int) : aP := ⟨p, uO l z p w, jG (dM l z p w), ((dM l z p w).length : Nat)⟩
def lR (l : aH) (z : List aB) (w p : Int) : Bool := !jT l.Bans p w && !decide ((dM l z p w).length = 0)
/-- One player stands before another. -/
def bef (l : aH) (z : List aB) (w : Int) (a b : Int) : Prop := ltL (oP l z w a) (oP l z w b)
theorem yV (l : aH) (z : List aB) (w a : Int) : ¬ bef l z w a a := by unfold bef ltL; omega
theorem aDd (l : aH) (z : List aB) (w a b : Int) (h : bef l z w a b) : ¬ bef l z w b a := by unfold bef ltL at *; omega
theorem aJv {l : aH} {z : List aB} {w a b c : Int} (h : bef l z w a b) (h2 : bef l z w b c) : bef l z w a c := by unfold bef ltL at *; omega
theorem aIq (l : aH) (z : List aB) (w a b : Int) (h : a ≠ b) : bef l z w a b ∨ bef l z w b a := by unfold bef ltL oP; simp only; omega
/-- A list of players that is as the document says. -/
structure IsList (l : aH) (z : List aB) (w : Int) (out : List Int) : Prop where
  st : out.Pairwise (bef l z w)
  mem : ∀ p, p ∈ out ↔ (0 ≤ p ∧ p < l.Players) ∧ lR l z w p = true
theorem IsList.uniq {l : aH} {z : List aB} {w : Int} {a b : List Int} (h : IsList l z w a) (k : IsList l z w b) : a = b :=
  xL (yV l z w) (aDd l z w) h.st k.st fun x => (h.mem x).trans (k.mem x).symm

section list
variable {l : aH} {z : List aB} (hl : sN l = true) (hz : ∀ x ∈ z, uW l.Players x = true) (hst : z.Pairwise fun x y => x.Id < y.Id) (hlen : z.length ≤ 1000) {w : Int} (hw : 0 ≤ w) (hw1 : w ≤ 1000)
include hl hz hlen hw hw1
omit hl hw hw1 in
theorem aJf (p : Int) (hp : 0 ≤ p ∧ p ≤ 100) : aDr (oP l z w p) := by
  have h1 : ∀ r ∈ dM l z p w, 0 ≤ r.Points ∧ r.Points ≤ 2000 := fun r hr => (qP hz r hr).2
  have h2 := pQ (l := pE l.Counts (dM l z p w)) fun r hr => h1 r (mN hr)
  have h3 := pQ (l := (dM l z p w).filter fun r => r.Must) fun r hr => h1 r (mN hr)
  have h4 : (pE l.Counts (dM l z p w)).length ≤ 1000 := Nat.le_trans (List.length_filter_le _ _) (Nat.le_trans nN hlen)
  have h5 : ((dM l z p w).filter fun r => r.Must).length ≤ 1000 := Nat.le_trans (List.length_filter_le _ _) (Nat.le_trans nN hlen)
  have h6 : (dM l z p w).length ≤ 1000 := Nat.le_trans nN hlen
  unfold aDr oP uO jG
  simp only
  omega
include hst
omit hw in
theorem aKp (hP : l.Players ≤ 12) : ∃ out, fP (gP l z) w = some out ∧ IsList l z w out := by
  have hf := nT hl
  obtain ⟨P, hPe⟩ : ∃ P : Nat, l.Players = P := ⟨l.Players.toNat, by omega⟩
  -- the lines
  have hfold : ∀ (ps : List Nat) (s : List aP), ps.foldl (fun s p => bif lR l z w (p : Nat) then s ++ [oP l z w (p : Nat)] else s) s = s ++ (ps.filter fun p => lR l z w (p : Nat)).map fun p => oP l z w (p : Nat) := by
    intro ps
    induction ps with
    | nil => intro s; simp
    | cons p ps ih =>
      intro s
      rw [List.foldl_cons, ih]
      cases h : lR l z w (p : Nat) <;> simp [h]
  obtain ⟨lines, hlines⟩ : ∃ lines, lines = ((List.range P).filter fun p => lR l z w (p : Nat)).map fun p => oP l z w (p : Nat) := ⟨_, rfl⟩
  have hll : lines.length ≤ P := by rw [hlines, List.length_map]; exact Nat.le_trans (List.length_filter_le _ _) (by simp)
  have step1 : fP (gP l z) w = lG lines := by
    unfold fP
    have main := jR (fun k i s => eE (gP l z) w l.Players k i s) (List.range P) (fun s p => bif lR l z w (p : Nat) then s ++ [oP l z w (p : Nat)] else s) (fun s => lG s) [] ?_ ?_ BIG (cG (by simp; omega))
    · refine Eq.trans main ?_
      rw [hfold, hlines]; simp
    · intro k i hi s hs
      have hi' : i < P := by simpa using hi
      have hlt : decide ((i : Int) < l.Players) = true := decide_eq_true (by omega)
      have hsl : s.length ≤ i := by
        rw [hs, hfold]
        simp only [List.nil_append, List.length_map]
        exact Nat.le_trans (List.length_filter_le _ _) (by simp; omega)
      have haw : mP (gP l z).Ledger.Bans (i : Int) w = some (jT l.Bans (i : Int) w) := aIk _ _ _ (show l.Bans.length ≤ 1000000 by omega)
      have hcl : (dM l z (i : Int) w).length ≤ 1000 := Nat.le_trans nN hlen
      have eg : (List.range P)[i] = i := by simp
      have hdz : decide (((dM l z (i : Int) w).length : Int) = 0) = decide ((dM l z (i : Int) w).length = 0) := by rw [decide_eq_decide]; omega
      simp only [eE, hlt, cond_true, aHb hl hz hlen hw1, haw, Option.bind_some, eL, eg, hdz]
      have hlb : lR l z w (i : Int) = !(jT l.Bans (i : Int) w || decide ((dM l z (i : Int) w).length = 0)) := by unfold lR; cases jT l.Bans (i : Int) w <;> simp
      rw [hlb]
      cases hb : (jT l.Bans (i : Int) w || decide ((dM l z (i : Int) w).length = 0)) with
      | true =>
        simp only [cond_true, Bool.not_true, cond_false, jM, bI (show i < 9223372036854775807 by omega)]
      | false =>
        simp only [cond_false, Bool.not_false, cond_true]
        obtain ⟨t, h1, h2⟩ := aHd (gP l z) (dM l z (i : Int) w) (zV hst) (qP hz) hcl (by have := hf.2.1; show 0 ≤ l.Counts ∧ l.Counts ≤ 1000; omega)
        have ht : ∀ r ∈ t, 0 ≤ r.Points ∧ r.Points ≤ 2000 := fun r hr => (qP hz r (mN (h2.mem_iff.1 hr))).2
        have htl : t.length ≤ 1000 := by rw [h2.length_eq]; exact Nat.le_trans (List.length_filter_le _ _) hcl
        rw [h1, Option.bind_some, aKh t ht (by omega), Option.bind_some, aCn h2]
        obtain ⟨c, hc⟩ : ∃ c, c = dM l z (i : Int) w := ⟨_, rfl⟩
        have hcp : ∀ r ∈ c, 0 ≤ r.Points ∧ r.Points ≤ 2000 := fun r hr => (qP hz r (hc ▸ hr)).2
        have hmf : ∀ (c : List aB) (x : aP), c.foldl (fun (x : aP) r => bif r.Must then aP.mk x.player x.points (x.musts + r.Points) x.many else x) x = aP.mk x.player x.points (x.musts + jG c) x.many := by
          intro c
          induction c with
          | nil => intro x; simp [jG, mA]
          | cons r c ih =>
            intro x
            rw [List.foldl_cons, ih]
            unfold jG
            rw [List.filter_cons]
            cases r.Must <;> simp [mA] <;> omega
        have inner := jR (fun k2 q x => gH (eE (gP l z) w l.Players k) (gP l z) w l.Players (i : Nat) c (c.length : Int) s k2 q x) c (fun (x : aP) r => bif r.Must then aP.mk x.player x.points (x.musts + r.Points) x.many else x)
          (fun x => nH (eE (gP l z) w l.Players k) (gP l z) w l.Players (i : Nat) s x) (aP.mk (i : Int) (mA (pE (gP l z).Ledger.Counts (dM l z (i : Int) w))) 0 ((dM l z (i : Int) w).length : Nat)) ?_ ?_ BIG (cG (by rw [hc]; omega))
        · rw [← hc] at inner ⊢
          refine Eq.trans inner ?_
          rw [hmf]
          unfold nH jM
          rw [fY (by simp; omega), Option.bind_some, bI (by omega)]
          unfold oP uO
          rw [← hc]
          simp [gP]
        · intro k2 q hq x hx
          have hlt2 : decide ((q : Int) < (c.length : Int)) = true := decide_eq_true (by omega)
          rw [hmf] at hx
          have h3 := pQ (l := (c.take q).filter fun r => r.Must) fun r hr => hcp r (List.mem_of_mem_take (mN hr))
          have h4 := List.length_filter_le (fun r : aB => r.Must) (c.take q)
          have h5 := hcp _ (List.getElem_mem hq)
          have hcl' : c.length ≤ 1000 := hc ▸ hcl
          simp only [List.length_take] at h4
          have hxm : x.musts = 0 + jG (c.take q) := by rw [hx]
          simp only [gH, hlt2, cond_true, cE hq, Option.bind_some, bI (show q < 9223372036854775807 by omega)]
          rw [bY (by rw [hxm]; unfold jG; omega) (by rw [hxm]; unfold jG; omega)]
          cases c[q].Must <;> rfl
        · intro k2 x
          have hlt2 : decide ((c.length : Int) < (c.length : Int)) = false := decide_eq_false (by omega)
          simp only [gH, hlt2, cond_false]
    · intro k s
      have hlt : decide ((((List.range P).length : Nat) : Int) < l.Players) = false := decide_eq_false (by simp; omega)
      simp only [eE, hlt, cond_false]
  have hlok : ∀ y ∈ lines, aDr y ∧ y = oP l z w y.player ∧ (0 ≤ y.player ∧ y.player < l.Players) ∧ lR l z w y.player = true := by
    intro y hy
    rw [hlines] at hy
    obtain ⟨p, hp, rfl⟩ := List.mem_map.1 hy
    have h1 := List.mem_filter.1 hp
    have h2 := List.mem_range.1 h1.1
    exact ⟨aJf hz hlen p (by omega), rfl, by show 0 ≤ (p : Int) ∧ (p : Int) < l.Players; omega, h1.2⟩
  obtain ⟨s, hp, hs, hr⟩ := aCr aKn lines (fun y hy => (hlok y hy).1) (by omega)
  have hnd : (lines.map (·.player)).Nodup := by
    rw [hlines, List.map_map]
    have : ((fun y : aP => y.player) ∘ fun p : Nat => oP l z w (p : Nat)) = fun p : Nat => (p : Int) := rfl
    rw [this]
    refine List.Pairwise.map _ (fun a b h => ?_) (List.Pairwise.sublist List.filter_sublist (List.nodup_range (n := P)))
    omega
  have hnd2 : (s.map (·.player)).Nodup := (hp.map _).nodup_iff.2 hnd
  refine ⟨s.map (·.player), ?_, ?_, fun p => ?_⟩
  · rw [step1]
    unfold lG
    rw [hr, Option.bind_some]
    have hsl : s.length ≤ 12 := by rw [hp.length_eq]; omega
    have hmf : ∀ (t : List aP) (o : List Int), t.foldl (fun o x => o ++ [x.player]) o = o ++ t.map (·.player) := by
      intro t
      induction t with
      | nil => intro o; simp
      | cons x t ih => intro o; rw [List.foldl_cons, ih]; simp
    have main := jR (fun k i o => iL (s.length : Int) s k i o) s (fun o x => o ++ [x.player]) (fun o => some o) [] ?_ ?_ BIG (cG (by omega))
    · refine Eq.trans main ?_
      rw [hmf]; simp
    · intro k i hi o ho
      have hlt : decide ((i : Int) < (s.length : Int)) = true := decide_eq_true (by omega)
      have hol : o.length ≤ i := by rw [ho, hmf]; simp; omega
      simp only [iL, hlt, cond_true, cE hi, Option.bind_some, fY (show (o.length + [s[i].player].length) * 8 ≤ 140737488355328 by simp; omega), bI (show i < 9223372036854775807 by omega)]
    · intro k o
      have hlt : decide ((s.length : Int) < (s.length : Int)) = false := decide_eq_false (by omega)
      simp only [iL, hlt, cond_false, pX]
  · refine List.pairwise_iff_getElem.2 fun i j hi hj hij => ?_
    simp only [List.length_map] at hi hj
    simp only [List.getElem_map]
    have h1 := List.pairwise_iff_getElem.1 hs i j hi hj hij
    have h2 := hlok _ (hp.mem_iff.1 (List.getElem_mem hi))
    have h3 := hlok _ (hp.mem_iff.1 (List.getElem_mem hj))
    have h4 := List.pairwise_iff_getElem.1 hnd2 i j (by simpa using hi) (by simpa using hj) hij
    simp only [List.getElem_map] at h4
    unfold bef
    rw [← h2.2.1, ← h3.2.1]
    unfold leL at h1
    unfold ltL
    omega
  · rw [List.mem_map]
    constructor
    · rintro ⟨y, hy, rfl⟩
      exact (hlok y (hp.mem_iff.1 hy)).2.2
    · rintro ⟨h1, h2⟩
      obtain ⟨q, rfl⟩ : ∃ q : Nat, p = q := ⟨p.toNat, by omega⟩
      refine ⟨oP l z w (q : Nat), hp.mem_iff.2 ?_, rfl⟩
      rw [hlines]
      exact List.mem_map.2 ⟨q, List.mem_filter.2 ⟨List.mem_range.2 (by omega), h2⟩, rfl⟩
end list
end Go.Am

end
section
namespace Go.Am

instance (l : aH) (z : List aB) (w a b : Int) : Decidable (bef l z w a b) := by unfold bef ltL; infer_instance
section list
variable {l : aH} {z : List aB} (h : GD l z) {w : Int} (hw : 0 ≤ w) (hw1 : w ≤ 1000)
include h hw hw1
theorem aIs (a b : Int) : pW l a b w = some (decide (bef l z w a b)) := by
  unfold pW
  rw [h.points hw hw1, Option.bind_some, h.points hw hw1, Option.bind_some, h.count hw hw1, Option.bind_some, h.count hw hw1, Option.bind_some]
  unfold bef ltL oP
  simp only
  by_cases h1 : uO l z a w = uO l z b w
  · by_cases h2 : jG (dM l z a w) = jG (dM l z b w)
    · by_cases h3 : (dM l z a w).length = (dM l z b w).length
      · simp [h1, h2, h3]
      · have h3' : ¬ (((dM l z a w).length : Int) = ((dM l z b w).length : Int)) := by omega
        simp [h1, h2, h3']
    · simp [h1, h2]
  · simp [h1]
theorem aIw (p : Int) : pT l p w = some (lR l z w p) := by
  have hf := nT h.rest
  unfold pT lR
  rw [aFu _ _ _ (by omega), Option.bind_some, h.count hw hw1, Option.bind_some, fW, Option.bind_some]
  congr 2
  rw [Bool.eq_iff_iff, decide_eq_true_eq, Bool.not_eq_true', decide_eq_false_iff_not]
  omega
theorem aIu (again : List Int → Int → Option (List Int)) (out : List Int) (p : Nat) (hp : p ≤ 100) (hs : out.Pairwise (bef l z w)) (hne : ∀ x ∈ out, x ≠ (p : Int)) (hb : out.length ≤ 1000) :
    ∃ out', jB again w out (p : Nat) l BIG 0 = again out' ((p + 1 : Nat) : Int) ∧ out'.Pairwise (bef l z w) ∧ out'.Perm ((p : Int) :: out) := by
  have main : ∀ (d a k : Nat), out.length - a = d → d < k → a ≤ out.length → (∀ (j : Nat) (hj : j < out.length), j < a → bef l z w out[j] (p : Nat)) →
      ∃ out', jB again w out (p : Nat) l k (a : Nat) = again out' ((p + 1 : Nat) : Int) ∧ out'.Pairwise (bef l z w) ∧ out'.Perm ((p : Int) :: out) := by
    intro d
    induction d with
    | zero =>
      intro a k hd hk ha hlo
      obtain ⟨k, rfl⟩ : ∃ q, k = q + 1 := ⟨k - 1, by omega⟩
      have : a = out.length := by omega
      subst this
      have hlt : decide ((out.length : Int) < (out.length : Int)) = false := decide_eq_false (by omega)
      refine ⟨out ++ [(p : Int)], ?_, ?_, List.perm_append_singleton _ _⟩
      · simp only [jB, hlt, cond_false, Option.bind_some]
        unfold oV kO
        rw [xF (Nat.le_refl _), Option.bind_some, fY (by simp), Option.bind_some, uA (Nat.le_refl _), Option.bind_some, fY (by simp; omega), Option.bind_some, fY (by simp; omega), Option.bind_some, bI (by omega)]
        simp
      · refine List.pairwise_append.2 ⟨hs, List.pairwise_singleton _ _, fun x hx y hy => ?_⟩
        simp at hy; subst hy
        obtain ⟨j, hj, rfl⟩ := List.getElem_of_mem hx
        exact hlo j hj hj
    | succ d ih =>
      intro a k hd hk ha hlo
      obtain ⟨k, rfl⟩ : ∃ q, k = q + 1 := ⟨k - 1, by omega⟩
      have hal : a < out.length := by omega
      have hlt : decide ((a : Int) < (out.length : Int)) = true := decide_eq_true (by omega)
      simp only [jB, hlt, cond_true, cE hal, Option.bind_some, aIs h hw hw1, bI (show a < 9223372036854775807 by omega)]
      by_cases hb' : bef l z w out[a] (p : Nat)
      · rw [decide_eq_true hb', cond_true]
        refine ih (a + 1) k (by omega) (by omega) (by omega) fun j hj hja => ?_
        rcases Nat.eq_or_lt_of_le (Nat.le_of_lt_succ hja) with rfl | h5
        · exact hb'
        · exact hlo j hj h5
      · rw [decide_eq_false hb', cond_false]
        unfold oV kO
        rw [xF ha, Option.bind_some, fY (by simp; omega), Option.bind_some, uA ha, Option.bind_some, fY (by simp; omega), Option.bind_some, fY (by simp; omega), Option.bind_some, bI (by omega)]
        have hpb : bef l z w (p : Nat) out[a] := (aIq l z w _ _ (hne _ (List.getElem_mem hal))).resolve_left hb'
        refine ⟨[] ++ out.take a ++ ([(p : Int)] ++ out.drop a), rfl, ?_, ?_⟩
        · have e1 : [] ++ out.take a ++ ([(p : Int)] ++ out.drop a) = out.take a ++ (p : Int) :: out.drop a := by simp
          rw [e1]
          have h5 := List.pairwise_append.1 (show (out.take a ++ out.drop a).Pairwise (bef l z w) by rw [List.take_append_drop]; exact hs)
          refine List.pairwise_append.2 ⟨h5.1, List.pairwise_cons.2 ⟨fun y hy => ?_, h5.2.1⟩, fun x hx y hy => ?_⟩
          · obtain ⟨q, hq, rfl⟩ := List.getElem_of_mem hy
            simp only [List.length_drop] at hq
            rw [List.getElem_drop]
            rcases Nat.eq_zero_or_pos q with rfl | hq0
            · exact hpb
            · exact aJv hpb (List.pairwise_iff_getElem.1 hs a (a + q) hal (by omega) (by omega))
          · rcases List.mem_cons.1 hy with rfl | hy
            · obtain ⟨q, hq, rfl⟩ := List.getElem_of_mem hx
              simp only [List.length_take] at hq
              rw [List.getElem_take]
              exact hlo q (by omega) (by omega)
            · exact h5.2.2 x hx y hy
        · have e1 : [] ++ out.take a ++ ([(p : Int)] ++ out.drop a) = out.take a ++ (p : Int) :: out.drop a := by simp
          rw [e1]
          have : (out.take a ++ (p : Int) :: out.drop a).Perm ((p : Int) :: (out.take a ++ out.drop a)) := List.perm_middle
          rwa [List.take_append_drop] at this
  exact main _ 0 BIG rfl (cG (by omega)) (Nat.zero_le _) fun j _ hj => by omega
theorem aKm : ∃ out, oO l w = some out ∧ IsList l z w out := by
  have hf := nT h.rest
  obtain ⟨P, hPe⟩ : ∃ P : Nat, l.Players = P := ⟨l.Players.toNat, by omega⟩
  have main : ∀ (d p k : Nat) (out : List Int), P - p = d → d < k → p ≤ P → out.Pairwise (bef l z w) → (∀ q, q ∈ out ↔ (0 ≤ q ∧ q < p) ∧ lR l z w q = true) → out.length ≤ p →
      ∃ out', hG w l k out (p : Nat) = some out' ∧ IsList l z w out' := by
    intro d
    induction d with
    | zero =>
      intro p k out hd hk hp hs hm hl
      obtain ⟨k, rfl⟩ : ∃ q, k = q + 1 := ⟨k - 1, by omega⟩
      have : p = P := by omega
      subst this
      have hlt : decide ((p : Int) < l.Players) = false := decide_eq_false (by omega)
      refine ⟨out, ?_, hs, fun q => by rw [hm, hPe]⟩
      simp only [hG, hlt, cond_false, sS]
    | succ d ih =>
      intro p k out hd hk hp hs hm hl
      obtain ⟨k, rfl⟩ : ∃ q, k = q + 1 := ⟨k - 1, by omega⟩
      have hlt : decide ((p : Int) < l.Players) = true := decide_eq_true (by omega)
      simp only [hG, hlt, cond_true, aIw h hw hw1, Option.bind_some]
      cases hb : lR l z w (p : Nat) with
      | false =>
        simp only [Bool.not_false, cond_true]
        unfold kO
        rw [bI (by omega)]
        refine ih (p + 1) k out (by omega) (by omega) (by omega) hs (fun q => ?_) (by omega)
        rw [hm]
        constructor
        · rintro ⟨h1, h2⟩; exact ⟨by omega, h2⟩
        · rintro ⟨h1, h2⟩
          refine ⟨⟨h1.1, ?_⟩, h2⟩
          rcases Int.lt_or_eq_of_le (show q ≤ p by omega) with h3 | h3
          · exact h3
          · rw [h3, hb] at h2; cases h2
      | true =>
        simp only [Bool.not_true, cond_false]
        obtain ⟨out', he, hs', hp'⟩ := aIu h hw hw1 (hG w l k) out p (by omega) hs (fun x hx => by have := (hm x).1 hx; omega) (by omega)
        rw [he]
        refine ih (p + 1) k out' (by omega) (by omega) (by omega) hs' (fun q => ?_) (by rw [hp'.length_eq]; simp; omega)
        rw [hp'.mem_iff, List.mem_cons, hm]
        constructor
        · rintro (h1 | ⟨h1, h2⟩)
          · subst h1; exact ⟨by omega, hb⟩
          · exact ⟨by omega, h2⟩
        · rintro ⟨h1, h2⟩
          rcases Int.lt_or_eq_of_le (show q ≤ p by omega) with h3 | h3
          · exact .inr ⟨⟨h1.1, h3⟩, h2⟩
          · exact .inl h3
  exact main _ 0 BIG [] rfl (cG (by omega)) (Nat.zero_le _) .nil (fun q => by simp; omega) (Nat.le_refl _)
end list
/-- The list of a week. -/
def oQ (l : aH) (z : List aB) (w : Int) : List Int := (fP (gP l z) w).getD []
theorem aJg {l : aH} {z : List aB} (hl : sN l = true) (hz : ∀ x ∈ z, uW l.Players x = true) (hst : z.Pairwise fun x y => x.Id < y.Id) (hlen : z.length ≤ 1000) {w : Int} (hw : 0 ≤ w) (hw1 : w ≤ 1000) (hP : l.Players ≤ 12) : fP (gP l z) w = some (oQ l z w) ∧ IsList l z w (oQ l z w) := by
  obtain ⟨out, h1, h2⟩ := aKp hl hz hst hlen hw1 hP
  unfold oQ
  rw [h1]
  exact ⟨rfl, h2⟩
theorem GD.list {l : aH} {z : List aB} (h : GD l z) {w : Int} (hw : 0 ≤ w) (hw1 : w ≤ 1000) (hP : l.Players ≤ 12) : fP (gP l z) w = some (oQ l z w) ∧ IsList l z w (oQ l z w) ∧ oO l w = some (oQ l z w) := by
  obtain ⟨h1, h2⟩ := aJg h.rest h.reps h.st (Nat.le_trans h.len (by omega)) hw hw1 hP
  obtain ⟨out, h3, h4⟩ := aKm h hw hw1
  exact ⟨h1, h2, by rw [h3, h4.uniq h2]⟩
theorem GL.list {l : aH} {z : List aB} (h : GL l z) {w : Int} (hw : 0 ≤ w) (hw1 : w ≤ 1000) (hP : l.Players ≤ 12) : fP (gP l z) w = some (oQ l z w) ∧ IsList l z w (oQ l z w) ∧ oO l w = some (oQ l z w) := h.gd.list hw hw1 hP
theorem IsList.len {l : aH} {z : List aB} {w : Int} {out : List Int} (h : IsList l z w out) (hP : l.Players ≤ 16) : out.length ≤ 16 := by
  have hnd : out.Nodup := h.st.imp fun {a b} hb he => by subst he; exact yV _ _ _ _ hb
  have hsub : out ⊆ (List.range 16).map fun n : Nat => (n : Int) := fun x hx => by
    have := (h.mem x).1 hx
    exact List.mem_map.2 ⟨x.toNat, List.mem_range.2 (by omega), by omega⟩
  have hnr : ((List.range 16).map fun n : Nat => (n : Int)).Nodup := List.Pairwise.map _ (fun a b h => by omega) (List.nodup_range (n := 16))
  have hp : out.Perm (((List.range 16).map fun n : Nat => (n : Int)).filter fun x => decide (x ∈ out)) := (List.perm_ext_iff_of_nodup hnd (hnr.sublist List.filter_sublist)).2 fun x => by
    rw [List.mem_filter, decide_eq_true_eq]
    exact ⟨fun hx => ⟨hsub hx, hx⟩, fun hx => hx.2⟩
  rw [hp.length_eq]
  exact Nat.le_trans (List.length_filter_le _ _) (by simp)
/-- The place of a player in a list, 0 without one. -/
def wQ (out : List Int) (p : Int) : Int := sM (fun x => decide (p = x)) out + 1
theorem aIx (out : List Int) (p : Int) (hb : out.length ≤ 1000) : gK p out BIG 0 = some (wQ out p) := by
  have main := aCb (fun k i => (gK p out k i).map (· - 1)) out (fun x => decide (p = x)) (fun k i hi => ?_) (fun k => ?_) BIG (cG (by omega))
  · cases hq : gK p out BIG 0 with
    | none => rw [hq] at main; cases main
    | some x =>
      rw [hq] at main
      have : x - 1 = sM (fun x => decide (p = x)) out := Option.some.inj main
      unfold wQ
      congr 1; omega
  · have hlt : decide ((i : Int) < (out.length : Int)) = true := decide_eq_true (by omega)
    have hsw : decide (out[i] = p) = decide (p = out[i]) := by rw [decide_eq_decide]; exact eq_comm
    simp only [gK, hlt, cond_true, cE hi, Option.bind_some, bI (show i < 9223372036854775807 by omega), hsw]
    cases decide (p = out[i])
    · rfl
    · simp only [cond_true, Option.map_some]; congr 1; omega
  · have hlt : decide ((out.length : Int) < (out.length : Int)) = false := decide_eq_false (by omega)
    simp only [gK, hlt, cond_false, rX, Option.map_some]; rfl
theorem GD.place {l : aH} {z : List aB} (h : GD l z) {w : Int} (hw : 0 ≤ w) (hw1 : w ≤ 1000) (hP : l.Players ≤ 12) (p : Int) : uF l p w = some (wQ (oQ l z w) p) := by
  obtain ⟨_, h2, h3⟩ := h.list hw hw1 hP
  have h4 := h2.len (by omega)
  unfold uF
  rw [h3, Option.bind_some]
  exact aIx _ _ (by omega)
end Go.Am

end
