/- Plain laws, one behind the other. -/
import Derived.Test.YtoflekecpkjghaaGreatPgSh
import Derived.Test.YtoflekecpkjghaaGreatAmPlain
import Derived.Test.YtoflekecpkjghaaGreatBkDet
import Derived.KernelRfl
section
namespace Go.Am

section lists
variable {α : Type}
theorem pA {A : List α} {x : α} {B : List α} {p : Int} (h : p = (A.length : Int)) : idx (A ++ x :: B) p = some x := by
  subst h; rw [bY (by simp)]; simp
theorem aBy {A : List α} {x y : α} {B : List α} {p : Nat} (h : p = A.length) : (A ++ x :: B).set p y = A ++ y :: B := by
  subst h; simp
theorem vL {A : List α} {x y : α} {B : List α} {p : Int} (h : p = ((A.length + 1 : Nat) : Int)) : idx (A ++ x :: y :: B) p = some y := by
  have : A ++ x :: y :: B = (A ++ [x]) ++ y :: B := by simp
  rw [this, pA (by simp [h])]
theorem aLq {A : List α} {x y z : α} {B : List α} {p : Nat} (h : p = A.length + 1) : (A ++ x :: y :: B).set p z = A ++ x :: z :: B := by
  have : A ++ x :: y :: B = (A ++ [x]) ++ y :: B := by simp
  rw [this, aBy (by simp [h])]; simp
theorem aFz (L : List α) : L = [] ∨ ∃ A x, L = A ++ [x] := by
  rcases List.eq_nil_or_concat L with h | ⟨A, x, h⟩
  · exact .inl h
  · exact .inr ⟨A, x, by simpa using h⟩
end lists

/-- A comparison orders some elements. -/
structure vX {α : Type} (cmp : α → α → Option Int) (ok : α → Prop) (le : α → α → Prop) : Prop where
  run : ∀ x y, ok x → ok y → ∃ n, cmp x y = some n ∧ (n < 0 ↔ ¬ le y x)
  tot : ∀ x y, ok x → ok y → le x y ∨ le y x
  tr : ∀ x y z, ok x → ok y → ok z → le x y → le y z → le x z

section sorted
variable {α : Type} {ok : α → Prop} {le : α → α → Prop} {cmp : α → α → Option Int}
theorem aVh (hc : vX cmp ok le) {x : α} (hx : ok x) {L1 L2 : List α} (hs : (L1 ++ L2).Pairwise le) (hok : ∀ y ∈ L1 ++ L2, ok y) (h2 : ∀ y ∈ L2, ¬ le y x) (h1 : ∀ y, L1.getLast? = some y → le y x) : (L1 ++ x :: L2).Pairwise le := by
  have hp := List.pairwise_append.1 hs
  refine List.pairwise_append.2 ⟨hp.1, List.pairwise_cons.2 ⟨fun y hy => ?_, hp.2.1⟩, fun y hy z hz => ?_⟩
  · exact (hc.tot x y hx (hok y (by simp [hy]))).resolve_right (h2 y hy)
  · rcases List.mem_cons.1 hz with rfl | hz
    · rcases aFz L1 with rfl | ⟨A, q, rfl⟩
      · cases hy
      · have hq := h1 q (by simp)
        rcases List.mem_append.1 hy with h | h
        · have := (List.pairwise_append.1 hp.1).2.2 y h q (by simp)
          exact hc.tr y q _ (hok y (by simp [h])) (hok q (by simp)) hx this hq
        · simp at h; subst h; exact hq
    · exact hp.2.2 y hy z hz
end sorted

section insertion
variable {cmp : aG → aG → Option Int} {ok : aG → Prop} {le : aG → aG → Prop}
theorem aWf (hc : vX cmp ok le) (again : Int → List aG → Option (List aG)) {a b i : Int} {P : List aG} (ha : a = P.length) (x : aG) (hx : ok x) :
    ∀ (n : Nat) (L R : List aG) (k : Nat), L.length = n → (∀ y ∈ L, ok y) → n < k → (P ++ L).length < 4611686018427387904 →
      ∃ L1 L2, L = L1 ++ L2 ∧ (∀ y ∈ L2, ¬ le y x) ∧ (∀ y, L1.getLast? = some y → le y x) ∧
        cZ again a b cmp i k ((P ++ L).length : Nat) (P ++ L ++ x :: R) = again (w64 (i + 1)) (P ++ (L1 ++ x :: L2) ++ R) := by
  intro n
  induction n with
  | zero =>
    intro L R k hl hok hk hb
    have : L = [] := List.length_eq_zero_iff.1 hl
    subst this
    obtain ⟨k, rfl⟩ : ∃ q, k = q + 1 := ⟨k - 1, by omega⟩
    refine ⟨[], [], rfl, by simp, by simp, ?_⟩
    simp only [cZ, ha, List.append_nil, Int.lt_irrefl, decide_false, cond_false, Option.bind_some, gT, gS, List.nil_append]
    simp
  | succ n ih =>
    intro L R k hl hok hk hb
    obtain ⟨k, rfl⟩ : ∃ q, k = q + 1 := ⟨k - 1, by omega⟩
    rcases aFz L with rfl | ⟨L', y, rfl⟩
    · simp at hl
    simp only [List.length_append, List.length_singleton] at hl hb
    have hoy : ok y := hok y (by simp)
    have hA : P ++ (L' ++ [y]) ++ x :: R = (P ++ L') ++ y :: x :: R := by simp
    have hj : ((P ++ (L' ++ [y])).length : Nat) = (P ++ L').length + 1 := by simp [Nat.add_assoc]
    have hAl : (P ++ L').length = P.length + L'.length := by simp
    have hlt : decide (a < (((P ++ L').length + 1 : Nat) : Int)) = true := decide_eq_true (by omega)
    have hw : w64 ((((P ++ L').length + 1 : Nat) : Int) - 1) = ((P ++ L').length : Int) := by rw [cC (by omega) (by omega)]; omega
    obtain ⟨r, hr, hlr⟩ := hc.run x y hx hoy
    rw [hA, hj]
    by_cases h : r < 0
    · obtain ⟨L1, L2, rfl, h2, h1, he⟩ := ih L' (y :: R) k (by omega) (fun z hz => hok z (by simp [hz])) (by omega) (by omega)
      refine ⟨L1, L2 ++ [y], by simp, fun z hz => ?_, h1, ?_⟩
      · rcases List.mem_append.1 hz with hz | hz
        · exact h2 z hz
        · simp at hz; subst hz; exact hlr.1 h
      · simp only [cZ, hlt, cond_true, vL rfl, hw, pA rfl, Option.bind_some, hr, decide_eq_true h]
        have hn : (((P ++ (L1 ++ L2)).length + 1 : Nat) : Int).toNat = (P ++ (L1 ++ L2)).length + 1 := rfl
        have hn2 : (((P ++ (L1 ++ L2)).length : Nat) : Int).toNat = (P ++ (L1 ++ L2)).length := rfl
        rw [hn, hn2, aLq rfl, pA rfl, Option.bind_some, aBy rfl, he]
        simp
    · refine ⟨L' ++ [y], [], by simp, by simp, fun z hz => ?_, ?_⟩
      · simp at hz; subst hz; exact Classical.byContradiction fun hn => h (hlr.2 hn)
      · simp only [cZ, hlt, cond_true, vL rfl, hw, pA rfl, Option.bind_some, hr, decide_eq_false h, cond_false, gT, gS]
        simp

theorem aEy (hc : vX cmp ok le) (P M S : List aG) (hok : ∀ y ∈ M, ok y) (hb : (P ++ M).length < 4611686018427387904) :
    ∃ M', M'.Perm M ∧ M'.Pairwise le ∧ dO (P ++ M ++ S) (P.length : Nat) ((P ++ M).length : Nat) cmp = some (P ++ M' ++ S) := by
  have main : ∀ (n : Nat) (L R : List aG) (k : Nat), R.length = n → n < k → (∀ y ∈ L ++ R, ok y) → (P ++ L ++ R).length < 4611686018427387904 → L.Pairwise le →
      ∃ M', M'.Perm (L ++ R) ∧ M'.Pairwise le ∧ cM (P.length : Nat) ((P ++ L ++ R).length : Nat) cmp k ((P ++ L).length : Nat) (P ++ L ++ R ++ S) = some (P ++ M' ++ S) := by
    intro n
    induction n with
    | zero =>
      intro L R k hl hk hok hb hs
      have : R = [] := List.length_eq_zero_iff.1 hl
      subst this
      obtain ⟨k, rfl⟩ : ∃ q, k = q + 1 := ⟨k - 1, by omega⟩
      refine ⟨L, by simp, hs, ?_⟩
      simp [cM, gR]
    | succ n ih =>
      intro L R k hl hk hok hb hs
      obtain ⟨k, rfl⟩ : ∃ q, k = q + 1 := ⟨k - 1, by omega⟩
      match R, hl with
      | x :: R, hl =>
        simp only [List.length_cons] at hl
        have hbl : (P ++ L ++ x :: R).length = P.length + L.length + (R.length + 1) := by simp [Nat.add_assoc]
        have hox : ok x := hok x (by simp)
        obtain ⟨L1, L2, rfl, h2, h1, he⟩ := aWf hc (cM (P.length : Nat) ((P ++ L ++ x :: R).length : Nat) cmp k) (b := ((P ++ L ++ x :: R).length : Nat)) (i := ((P ++ L).length : Nat)) (a := (P.length : Nat)) rfl x hox L.length L (R ++ S) BIG rfl
          (fun y hy => hok y (by simp [hy])) (cL (by omega)) (by simp only [List.length_append]; omega)
        have hlt : decide (((P ++ (L1 ++ L2)).length : Int) < ((P ++ (L1 ++ L2) ++ x :: R).length : Int)) = true := decide_eq_true (by simp only [List.length_append, List.length_cons]; omega)
        obtain ⟨M', hp, hss, hr⟩ := ih (L1 ++ x :: L2) R k (by omega) (by omega) (fun y hy => hok y (by
            simp only [List.mem_append, List.mem_cons] at hy ⊢
            rcases hy with (h | h | h) | h <;> simp [h])) (by simp only [List.length_append, List.length_cons] at hb ⊢; omega)
            (aVh hc hox hs (fun y hy => hok y (by simp only [List.mem_append] at hy ⊢; exact .inl hy)) h2 h1)
        refine ⟨M', hp.trans ?_, hss, ?_⟩
        · have : ((L1 ++ x :: L2) ++ R).Perm (L1 ++ L2 ++ x :: R) := by
            rw [List.append_assoc, List.append_assoc, List.cons_append]
            exact List.Perm.append_left _ (List.perm_middle.symm)
          exact this
        · simp only [cM, hlt, cond_true]
          have e1 : P ++ (L1 ++ L2) ++ x :: R ++ S = P ++ (L1 ++ L2) ++ x :: (R ++ S) := by simp
          rw [e1, he, bM (by simp only [List.length_append, List.length_cons] at hb ⊢; omega)]
          have e2 : ((P ++ (L1 ++ L2) ++ x :: R).length : Nat) = (P ++ (L1 ++ x :: L2) ++ R).length := by simp only [List.length_append, List.length_cons]; omega
          have e3 : ((P ++ (L1 ++ L2)).length + 1 : Nat) = (P ++ (L1 ++ x :: L2)).length := by simp only [List.length_append, List.length_cons]; omega
          rw [e2, e3]
          have e4 : P ++ (L1 ++ x :: L2) ++ (R ++ S) = P ++ (L1 ++ x :: L2) ++ R ++ S := by simp
          rw [e4]
          exact hr
  match M, hok, hb with
  | [], hok, hb =>
    refine ⟨[], .refl _, .nil, ?_⟩
    have hlt : decide (((P.length + 1 : Nat) : Int) < (P.length : Int)) = false := decide_eq_false (by omega)
    unfold dO
    simp only [List.append_nil] at hb ⊢
    rw [aXy, bM (by omega)]
    generalize 18446744073709551615 = kk
    simp only [cM, hlt, cond_false, gR]
  | x :: M, hok, hb =>
    simp only [List.length_append, List.length_cons] at hb
    obtain ⟨M', h1, h2, h3⟩ := main M.length [x] M BIG rfl (cL (by omega)) (fun y hy => hok y (by simpa using hy)) (by simp only [List.length_append, List.length_cons, List.length_nil]; omega) (List.pairwise_singleton _ _)
    refine ⟨M', by simpa using h1, h2, ?_⟩
    unfold dO
    rw [bM (by omega)]
    have e1 : (P ++ [x]).length = P.length + 1 := by simp
    have e2 : P ++ [x] ++ M = P ++ x :: M := by simp
    rw [e1, e2] at h3
    exact h3
end insertion
end Go.Am

end
section
namespace Go.Am

section lists
variable {α : Type}
theorem aTp {A : List α} {u : α} {B : List α} {v : α} {C : List α} {p : Int} (h : p = ((A.length + 1 + B.length : Nat) : Int)) : idx (A ++ u :: (B ++ v :: C)) p = some v := by
  have : A ++ u :: (B ++ v :: C) = (A ++ u :: B) ++ v :: C := by simp
  rw [this, pA (by rw [h]; simp; omega)]
theorem bBc {A : List α} {u : α} {B : List α} {v w : α} {C : List α} {p : Nat} (h : p = A.length + 1 + B.length) : (A ++ u :: (B ++ v :: C)).set p w = A ++ u :: (B ++ w :: C) := by
  have : A ++ u :: (B ++ v :: C) = (A ++ u :: B) ++ v :: C := by simp
  rw [this, aBy (by rw [h]; simp; omega)]; simp
theorem zO {i j : Nat} (h : i + j < 4611686018427387904) : w64 ((IntKind.u64.wrap (w64 ((i : Int) + (j : Int)))).fdiv (2 ^ (min (1 : Int).toNat 64))) = (((i + j) / 2 : Nat) : Int) := by
  have e1 : w64 ((i : Int) + (j : Int)) = ((i + j : Nat) : Int) := by rw [cC (by omega) (by omega)]; omega
  have e2 : IntKind.u64.wrap ((i + j : Nat) : Int) = ((i + j : Nat) : Int) := by
    simp only [IntKind.wrap, IntKind.signed, IntKind.bits]
    simp
    omega
  have e3 : (2 : Int) ^ (min (1 : Int).toNat 64) = 2 := by decide
  rw [e1, e2, e3, Int.fdiv_eq_ediv_of_nonneg _ (by omega), cC (by omega) (by omega)]
  omega
/-- A search by halves. -/
theorem aNp {T : Type} (F : Nat → Int → Int → T) (K : Int → T) (good : Nat → Prop) (lo hi : Nat) (hstep : ∀ k (i j : Nat), lo ≤ i → i < j → j ≤ hi → (good ((i + j) / 2) ∧ F (k + 1) i j = F k (((i + j) / 2 + 1 : Nat) : Int) j) ∨ (¬ good ((i + j) / 2) ∧ F (k + 1) i j = F k i (((i + j) / 2 : Nat) : Int)))
    (hstop : ∀ k (i : Nat), F (k + 1) i i = K i) (mono : ∀ x y, lo ≤ x → x ≤ y → y < hi → good y → good x) (hlh : lo ≤ hi) {k : Nat} (hk : hi - lo < k) :
    ∃ r : Nat, lo ≤ r ∧ r ≤ hi ∧ F k lo hi = K r ∧ (∀ x, lo ≤ x → x < r → good x) ∧ (∀ x, r ≤ x → x < hi → ¬ good x) := by
  have main : ∀ (d : Nat) (i j : Nat) (k : Nat), j - i = d → d < k → lo ≤ i → i ≤ j → j ≤ hi → (∀ x, lo ≤ x → x < i → good x) → (∀ x, j ≤ x → x < hi → ¬ good x) →
      ∃ r : Nat, lo ≤ r ∧ r ≤ hi ∧ F k i j = K r ∧ (∀ x, lo ≤ x → x < r → good x) ∧ (∀ x, r ≤ x → x < hi → ¬ good x) := by
    intro d
    induction d using Nat.strongRecOn with
    | _ d ih =>
      intro i j k hd hk h1 h2 h3 h4 h5
      obtain ⟨k, rfl⟩ : ∃ q, k = q + 1 := ⟨k - 1, by omega⟩
      rcases Nat.eq_or_lt_of_le h2 with rfl | hlt
      · exact ⟨i, h1, h3, hstop k i, h4, h5⟩
      · rcases hstep k i j h1 hlt h3 with ⟨hg, he⟩ | ⟨hg, he⟩
        · rw [he]
          refine ih (j - ((i + j) / 2 + 1)) (by omega) _ j k rfl (by omega) (by omega) (by omega) h3 (fun x hx hxr => ?_) h5
          exact mono x ((i + j) / 2) hx (by omega) (by omega) hg
        · rw [he]
          refine ih ((i + j) / 2 - i) (by omega) i _ k rfl (by omega) h1 (by omega) (by omega) h4 fun x hx hxr hgx => ?_
          exact hg (mono _ x (by omega) hx hxr hgx)
  exact main _ lo hi k rfl hk (Nat.le_refl _) hlh (Nat.le_refl _) (fun x h1 h2 => by omega) (fun x h1 h2 => by omega)
end lists

section rotate
variable {cmp : aG → aG → Option Int}
theorem zT (P U Q V S : List aG) (hl : U.length = V.length) (hb : (P ++ U ++ Q ++ V ++ S).length < 4611686018427387904) :
    eO (P ++ U ++ Q ++ V ++ S) (P.length : Nat) ((P ++ U ++ Q).length : Nat) (U.length : Nat) cmp = some (P ++ V ++ Q ++ U ++ S) := by
  have main : ∀ (n : Nat) (U1 U2 V1 V2 : List aG) (k : Nat), U2.length = n → V2.length = n → U1.length = V1.length → n < k → (P ++ U1 ++ U2 ++ Q ++ V1 ++ V2).length < 4611686018427387904 →
      eA (P.length : Nat) ((P.length + (U1.length + U2.length) + Q.length : Nat) : Int) ((U1.length + U2.length : Nat) : Int) k (U1.length : Nat) (P ++ V1 ++ U2 ++ Q ++ U1 ++ V2 ++ S) = some (P ++ (V1 ++ V2) ++ Q ++ (U1 ++ U2) ++ S) := by
    intro n
    induction n with
    | zero =>
      intro U1 U2 V1 V2 k h1 h2 h3 hk hb
      have : U2 = [] := List.length_eq_zero_iff.1 h1
      subst this
      have : V2 = [] := List.length_eq_zero_iff.1 h2
      subst this
      obtain ⟨k, rfl⟩ : ∃ q, k = q + 1 := ⟨k - 1, by omega⟩
      simp [eA, kP]
    | succ n ih =>
      intro U1 U2 V1 V2 k h1 h2 h3 hk hb
      obtain ⟨k, rfl⟩ : ∃ q, k = q + 1 := ⟨k - 1, by omega⟩
      match U2, h1, V2, h2 with
      | u :: U2, h1, v :: V2, h2 =>
        simp only [List.length_cons] at h1 h2
        simp only [List.length_append, List.length_cons] at hb
        have hlt : decide ((U1.length : Int) < ((U1.length + (u :: U2).length : Nat) : Int)) = true := decide_eq_true (by simp only [List.length_cons]; omega)
        have ea : w64 ((P.length : Int) + (U1.length : Int)) = (((P ++ V1).length : Nat) : Int) := by rw [cC (by omega) (by omega)]; simp only [List.length_append]; omega
        have eb : w64 (((P.length + (U1.length + (u :: U2).length) + Q.length : Nat) : Int) + (U1.length : Int)) = (((P ++ V1).length + 1 + (U2 ++ Q ++ U1).length : Nat) : Int) := by
          rw [cC (by omega) (by simp only [List.length_cons]; omega)]; simp only [List.length_append, List.length_cons]; omega
        have ed : P ++ V1 ++ u :: U2 ++ Q ++ U1 ++ v :: V2 ++ S = (P ++ V1) ++ u :: ((U2 ++ Q ++ U1) ++ v :: (V2 ++ S)) := by simp
        rw [ed]
        simp only [eA, hlt, cond_true, ea, eb, aTp rfl, pA rfl, Option.bind_some]
        have t1 : (((P ++ V1).length : Nat) : Int).toNat = (P ++ V1).length := rfl
        have t2 : (((P ++ V1).length + 1 + (U2 ++ Q ++ U1).length : Nat) : Int).toNat = (P ++ V1).length + 1 + (U2 ++ Q ++ U1).length := rfl
        rw [t1, t2, aBy rfl, aTp rfl, Option.bind_some, bBc rfl, bM (by omega)]
        have := ih (U1 ++ [u]) U2 (V1 ++ [v]) V2 k (by omega) (by omega) (by simp [h3]) (by omega) (by simp only [List.length_append, List.length_cons, List.length_nil]; omega)
        have e1 : (U1 ++ [u]).length + U2.length = U1.length + (u :: U2).length := by simp; omega
        have e2 : (U1 ++ [u]).length = U1.length + 1 := by simp
        rw [e1, e2] at this
        have e3 : P ++ (V1 ++ [v]) ++ U2 ++ Q ++ (U1 ++ [u]) ++ V2 ++ S = (P ++ V1) ++ v :: ((U2 ++ Q ++ U1) ++ u :: (V2 ++ S)) := by simp
        rw [e3] at this
        rw [this]
        simp
  unfold eO
  simp only [List.length_append] at hb
  have := main U.length [] U [] V BIG rfl hl.symm rfl (cL (by omega)) (by simp only [List.length_append, List.length_nil]; omega)
  simp only [List.append_nil, List.nil_append, List.length_nil, Nat.zero_add] at this
  simp only [List.length_append]
  exact this

theorem aSu (P U V S : List aG) (hu : U ≠ []) (hv : V ≠ []) (hb : (P ++ U ++ V ++ S).length < 4611686018427387904) :
    gB (P ++ U ++ V ++ S) (P.length : Nat) ((P ++ U).length : Nat) ((P ++ U ++ V).length : Nat) cmp = some (P ++ V ++ U ++ S) := by
  have main : ∀ (d : Nat) (P U V S : List aG) (k : Nat), U.length + V.length = d → d < k → 0 < U.length → 0 < V.length → (P ++ U ++ V ++ S).length < 4611686018427387904 →
      dD ((P.length + U.length : Nat) : Int) cmp k (U.length : Nat) (V.length : Nat) (P ++ U ++ V ++ S) = some (P ++ V ++ U ++ S) := by
    intro d
    induction d using Nat.strongRecOn with
    | _ d ih =>
      intro P U V S k hd hk hu hv hb
      obtain ⟨k, rfl⟩ : ∃ q, k = q + 1 := ⟨k - 1, by omega⟩
      simp only [List.length_append] at hb
      have em : w64 (((P.length + U.length : Nat) : Int) - (U.length : Int)) = (P.length : Int) := by rw [cC (by omega) (by omega)]; omega
      by_cases h1 : U.length = V.length
      · have hd : (!decide ((U.length : Int) = (V.length : Int))) = false := by rw [decide_eq_true (by omega)]; rfl
        simp only [dD, hd, cond_false, lW, em]
        have := zT (cmp := cmp) P U [] V S h1 (by simp only [List.length_append, List.length_nil]; omega)
        simp only [List.append_nil, List.length_append] at this
        rw [this]; rfl
      · have hd' : (!decide ((U.length : Int) = (V.length : Int))) = true := by rw [decide_eq_false (by omega)]; rfl
        by_cases h2 : V.length < U.length
        · obtain ⟨U1, U2, rfl, hl1⟩ : ∃ U1 U2, U = U1 ++ U2 ∧ U1.length = V.length := ⟨U.take V.length, U.drop V.length, by simp, by simp; omega⟩
          simp only [List.length_append] at h1 h2 hd hu hb em hd'
          have hlt : decide ((V.length : Int) < ((U1.length + U2.length : Nat) : Int)) = true := decide_eq_true (by omega)
          simp only [dD, List.length_append, hd', cond_true, hlt, em]
          have sw := zT (cmp := cmp) P U1 U2 V S hl1 (by simp only [List.length_append]; omega)
          simp only [List.length_append] at sw
          have e1 : P ++ (U1 ++ U2) ++ V ++ S = P ++ U1 ++ U2 ++ V ++ S := by simp
          rw [e1, show P.length + (U1.length + U2.length) = P.length + U1.length + U2.length by omega, ← hl1, sw, Option.bind_some]
          have hw : w64 (((U1.length + U2.length : Nat) : Int) - (U1.length : Int)) = (U2.length : Int) := by rw [cC (by omega) (by omega)]; omega
          rw [hw]
          have := ih (U2.length + U1.length) (by omega) (P ++ V) U2 U1 S k rfl (by omega) (by omega) (by omega) (by simp only [List.length_append]; omega)
          simp only [List.length_append] at this
          rw [show P.length + V.length + U2.length = P.length + U1.length + U2.length by omega] at this
          rw [this]; simp
        · obtain ⟨V1, V2, rfl, hl2⟩ : ∃ V1 V2, V = V1 ++ V2 ∧ V2.length = U.length := ⟨V.take (V.length - U.length), V.drop (V.length - U.length), by simp, by simp; omega⟩
          simp only [List.length_append] at h1 h2 hd hv hb hd'
          have hlt : decide (((V1.length + V2.length : Nat) : Int) < (U.length : Int)) = false := decide_eq_false (by omega)
          have hw1 : w64 (((P.length + U.length : Nat) : Int) + ((V1.length + V2.length : Nat) : Int)) = ((P.length + U.length + (V1.length + V2.length) : Nat) : Int) := by rw [cC (by omega) (by omega)]; omega
          have hw2 : w64 (((P.length + U.length + (V1.length + V2.length) : Nat) : Int) - (U.length : Int)) = ((P.length + U.length + V1.length : Nat) : Int) := by rw [cC (by omega) (by omega)]; omega
          have hw3 : w64 (((V1.length + V2.length : Nat) : Int) - (U.length : Int)) = (V1.length : Int) := by rw [cC (by omega) (by omega)]; omega
          simp only [dD, List.length_append, hd', cond_true, hlt, cond_false, em, hw1, hw2, hw3]
          have sw := zT (cmp := cmp) P U V1 V2 S hl2.symm (by simp only [List.length_append]; omega)
          simp only [List.length_append] at sw
          have e1 : P ++ U ++ (V1 ++ V2) ++ S = P ++ U ++ V1 ++ V2 ++ S := by simp
          rw [e1, sw, Option.bind_some]
          have := ih (V2.length + V1.length) (by omega) P V2 V1 (U ++ S) k rfl (by omega) (by omega) (by omega) (by simp only [List.length_append]; omega)
          rw [hl2] at this
          have e2 : P ++ V2 ++ V1 ++ U ++ S = P ++ V2 ++ V1 ++ (U ++ S) := by simp
          rw [e2, this]; simp
  have hu' : 0 < U.length := List.length_pos_iff.2 hu
  have hv' : 0 < V.length := List.length_pos_iff.2 hv
  unfold gB
  simp only [List.length_append] at hb ⊢
  have e1 : w64 (((P.length + U.length : Nat) : Int) - (P.length : Int)) = (U.length : Int) := by rw [cC (by omega) (by omega)]; omega
  have e2 : w64 (((P.length + U.length + V.length : Nat) : Int) - ((P.length + U.length : Nat) : Int)) = (V.length : Int) := by rw [cC (by omega) (by omega)]; omega
  rw [e1, e2]
  exact main _ P U V S BIG rfl (cL (by omega)) hu' hv' (by simp only [List.length_append]; omega)
end rotate
end Go.Am

end
section
namespace Go.Am

section shift
variable {cmp : aG → aG → Option Int}
theorem aTd (again : List aG → Int → Int → Int → Option (List aG)) {i : Nat} (x : aG) (R : List aG) : ∀ (V A : List aG) (k : Nat), A.length + V.length + 1 = i → i < 4611686018427387904 → V.length < k →
    eF again (i : Nat) k (A.length : Nat) (A ++ x :: (V ++ R)) = some (A ++ V ++ x :: R) := by
  intro V
  induction V with
  | nil =>
    intro A k h1 h2 hk
    obtain ⟨k, rfl⟩ : ∃ q, k = q + 1 := ⟨k - 1, by omega⟩
    have hw : w64 ((i : Int) - 1) = (A.length : Int) := by rw [cC (by omega) (by omega)]; simp at h1; omega
    simp [eF, hw, kY]
  | cons v V ih =>
    intro A k h1 h2 hk
    obtain ⟨k, rfl⟩ : ∃ q, k = q + 1 := ⟨k - 1, by omega⟩
    simp only [List.length_cons] at h1 hk
    have hw : w64 ((i : Int) - 1) = ((i - 1 : Nat) : Int) := by rw [cC (by omega) (by omega)]; omega
    have hlt : decide ((A.length : Int) < ((i - 1 : Nat) : Int)) = true := decide_eq_true (by omega)
    have hw1 : w64 ((A.length : Int) + 1) = ((A.length + 1 : Nat) : Int) := bM (by omega)
    have e1 : A ++ x :: (v :: V ++ R) = A ++ x :: v :: (V ++ R) := by simp
    have t1 : ((A.length : Nat) : Int).toNat = A.length := rfl
    have t2 : ((A.length + 1 : Nat) : Int).toNat = A.length + 1 := rfl
    simp only [eF, hw, hlt, cond_true, hw1, e1, vL rfl, pA rfl, Option.bind_some, t1, t2, aBy rfl, aLq rfl]
    have := ih (A ++ [v]) k (by simp; omega) h2 (by omega)
    simp only [List.length_append, List.length_singleton] at this
    have e2 : (A ++ [v]) ++ x :: (V ++ R) = A ++ v :: x :: (V ++ R) := by simp
    rw [e2] at this
    rw [this]; simp
theorem aTc (again : List aG → Int → Int → Int → Option (List aG)) {i : Nat} (y : aG) (A : List aG) (hi : i = A.length) : ∀ (n : Nat) (U R : List aG) (k : Nat), U.length = n → (A ++ U).length < 4611686018427387904 → n < k →
    eG again (i : Nat) k ((A ++ U).length : Nat) (A ++ U ++ y :: R) = some (A ++ y :: (U ++ R)) := by
  subst hi
  intro n
  induction n with
  | zero =>
    intro U R k h1 h2 hk
    have : U = [] := List.length_eq_zero_iff.1 h1
    subst this
    obtain ⟨k, rfl⟩ : ∃ q, k = q + 1 := ⟨k - 1, by omega⟩
    simp [eG, kZ]
  | succ n ih =>
    intro U R k h1 h2 hk
    obtain ⟨k, rfl⟩ : ∃ q, k = q + 1 := ⟨k - 1, by omega⟩
    rcases aFz U with rfl | ⟨U', u, rfl⟩
    · simp at h1
    simp only [List.length_append, List.length_singleton] at h1 h2
    have hA : A ++ (U' ++ [u]) ++ y :: R = (A ++ U') ++ u :: y :: R := by simp
    have hj : ((A ++ (U' ++ [u])).length : Nat) = (A ++ U').length + 1 := by simp; omega
    have hlt : decide ((A.length : Int) < (((A ++ U').length + 1 : Nat) : Int)) = true := decide_eq_true (by simp only [List.length_append]; omega)
    have hw : w64 ((((A ++ U').length + 1 : Nat) : Int) - 1) = ((A ++ U').length : Int) := by rw [cC (by simp only [List.length_append]; omega) (by simp only [List.length_append]; omega)]; omega
    have t1 : (((A ++ U').length : Nat) : Int).toNat = (A ++ U').length := rfl
    have t2 : (((A ++ U').length + 1 : Nat) : Int).toNat = (A ++ U').length + 1 := rfl
    rw [hA, hj]
    simp only [eG, hlt, cond_true, hw, pA rfl, vL rfl, Option.bind_some, t1, t2, aLq rfl, aBy rfl]
    rw [ih U' (u :: R) k (by omega) (by simp only [List.length_append]; omega) (by omega)]
    simp
end shift

section merge
variable {cmp : aG → aG → Option Int} {ok : aG → Prop} {le : aG → aG → Prop}
theorem rW (hc : vX cmp ok le) {L : List aG} (hs : L.Pairwise le) (hok : ∀ y ∈ L, ok y) {i j : Nat} (hij : i ≤ j) (hj : j < L.length) : le (L[i]'(by omega)) L[j] := by
  rcases Nat.eq_or_lt_of_le hij with rfl | h
  · have h1 := hok L[i] (List.getElem_mem _)
    exact (hc.tot _ _ h1 h1).elim id id
  · exact List.pairwise_iff_getElem.1 hs i j (by omega) hj h

/-- What one call of the merge does, if the calls inside do so. -/
def aHl (ok : aG → Prop) (le : aG → aG → Prop) (f : List aG → Int → Int → Int → Option (List aG)) (N : Nat) : Prop :=
  ∀ (P U V S : List aG), U.length + V.length < N → 0 < U.length → 0 < V.length → (∀ y ∈ U ++ V, ok y) → U.Pairwise le → V.Pairwise le → (P ++ U ++ V ++ S).length < 1152921504606846976 →
    ∃ W, W.Perm (U ++ V) ∧ W.Pairwise le ∧ f (P ++ U ++ V ++ S) (P.length : Nat) ((P ++ U).length : Nat) ((P ++ U ++ V).length : Nat) = some (P ++ W ++ S)

theorem aUt (hc : vX cmp ok le) (again : List aG → Int → Int → Int → Option (List aG)) (P : List aG) (x : aG) (V S : List aG) (hok : ∀ y ∈ x :: V, ok y) (hs : V.Pairwise le) (hb : (P ++ x :: V ++ S).length < 1152921504606846976) :
    ∃ W, W.Perm (x :: V) ∧ W.Pairwise le ∧ cX again (P.length : Nat) cmp (P ++ x :: V ++ S) BIG ((P.length + 1 : Nat) : Int) ((P.length + 1 + V.length : Nat) : Int) = some (P ++ W ++ S) := by
  simp only [List.length_append, List.length_cons] at hb
  have hox := hok x (by simp)
  have hdat : ∀ t (ht : t < V.length), idx (P ++ x :: V ++ S) ((P.length + 1 + t : Nat) : Int) = some V[t] := by
    intro t ht
    rw [bY (by simp; omega)]
    simp only [Option.some.injEq]
    rw [List.getElem_append_left (by simp; omega), List.getElem_append_right (by omega)]
    simp only [show P.length + 1 + t - P.length = t + 1 by omega, List.getElem_cons_succ]
  have hdx : idx (P ++ x :: V ++ S) (P.length : Nat) = some x := by
    have : P ++ x :: V ++ S = P ++ x :: (V ++ S) := by simp
    rw [this, pA rfl]
  have hbs := aNp (fun k i j => cX again (P.length : Nat) cmp (P ++ x :: V ++ S) k i j) (fun i => iT again (P.length : Nat) i (P ++ x :: V ++ S))
    (fun h => ∀ v, V[h - (P.length + 1)]? = some v → ¬ le x v) (P.length + 1) (P.length + 1 + V.length) (k := BIG) ?_ ?_ ?_ (by omega) (cL (by omega))
  · obtain ⟨r, h1, h2, h3, h4, h5⟩ := hbs
    obtain ⟨t, rfl⟩ : ∃ t, r = P.length + 1 + t := ⟨r - (P.length + 1), by omega⟩
    have htl : t ≤ V.length := by omega
    refine ⟨V.take t ++ x :: V.drop t, ?_, ?_, ?_⟩
    · have : (V.take t ++ x :: V.drop t).Perm (x :: (V.take t ++ V.drop t)) := List.perm_middle
      rwa [List.take_append_drop] at this
    · have hp := List.pairwise_append.1 (show (V.take t ++ V.drop t).Pairwise le by rw [List.take_append_drop]; exact hs)
      have hlo : ∀ y ∈ V.take t, ¬ le x y := by
        intro y hy
        obtain ⟨q, hq, rfl⟩ := List.getElem_of_mem hy
        have hq' : q < t := by simp at hq; omega
        refine h4 (P.length + 1 + q) (by omega) (by omega) _ ?_
        rw [show P.length + 1 + q - (P.length + 1) = q by omega, List.getElem_take, List.getElem?_eq_getElem]
      have hhi : ∀ y ∈ V.drop t, le x y := by
        intro y hy
        obtain ⟨q, hq, rfl⟩ := List.getElem_of_mem hy
        simp only [List.length_drop] at hq
        have := h5 (P.length + 1 + (t + q)) (by omega) (by omega)
        refine Classical.byContradiction fun hn => this fun v hv => ?_
        rw [show P.length + 1 + (t + q) - (P.length + 1) = t + q by omega, List.getElem?_eq_getElem (by omega)] at hv
        cases hv
        rwa [List.getElem_drop] at hn
      refine List.pairwise_append.2 ⟨hp.1, List.pairwise_cons.2 ⟨hhi, hp.2.1⟩, fun y hy z hz => ?_⟩
      rcases List.mem_cons.1 hz with rfl | hz
      · exact (hc.tot y z (hok y (List.mem_cons_of_mem _ (List.mem_of_mem_take hy))) hox).resolve_right (hlo y hy)
      · exact hp.2.2 y hy z hz
    · rw [h3]
      unfold iT
      have hvd : V = V.take t ++ V.drop t := (List.take_append_drop t V).symm
      have e1 : P ++ x :: V ++ S = P ++ x :: (V.take t ++ (V.drop t ++ S)) := by rw [← List.append_assoc (V.take t), List.take_append_drop]; simp
      rw [e1]
      have := aTd again (i := P.length + 1 + t) x (V.drop t ++ S) (V.take t) P BIG (by simp; omega) (by omega) (cL (by simp; omega))
      rw [this]; simp
  · intro k i j hi hij hj
    have hh : i + j < 4611686018427387904 := by omega
    have hlt : decide ((i : Int) < (j : Int)) = true := decide_eq_true (by omega)
    obtain ⟨t, ht, htv⟩ : ∃ t, (i + j) / 2 = P.length + 1 + t ∧ t < V.length := ⟨(i + j) / 2 - (P.length + 1), by omega, by omega⟩
    obtain ⟨n, hn, hiff⟩ := hc.run V[t] x (hok _ (List.mem_cons_of_mem _ (List.getElem_mem htv))) hox
    have hg : (∀ v, V[(i + j) / 2 - (P.length + 1)]? = some v → ¬ le x v) ↔ ¬ le x V[t] := by
      rw [ht, show P.length + 1 + t - (P.length + 1) = t by omega, List.getElem?_eq_getElem htv]
      exact ⟨fun h => h _ rfl, fun h v hv => by cases hv; exact h⟩
    by_cases h : n < 0
    · refine .inl ⟨hg.2 (hiff.1 h), ?_⟩
      simp only [cX, hlt, cond_true, zO hh, ht, hdat t htv, hdx, Option.bind_some, hn, decide_eq_true h, bM (show P.length + 1 + t < 9223372036854775807 by omega)]
    · refine .inr ⟨fun hgg => h (hiff.2 (hg.1 hgg)), ?_⟩
      simp only [cX, hlt, cond_true, zO hh, ht, hdat t htv, hdx, Option.bind_some, hn, decide_eq_false h, cond_false]
  · intro k i
    have hlt : decide ((i : Int) < (i : Int)) = false := decide_eq_false (by omega)
    simp only [cX, hlt, cond_false]
  · intro p q hp hpq hq hg v hv hle
    have hq' : q - (P.length + 1) < V.length := by omega
    have hp' : p - (P.length + 1) < V.length := by omega
    rw [List.getElem?_eq_getElem hp'] at hv
    cases hv
    have hm := rW hc hs (fun y hy => hok y (List.mem_cons_of_mem _ hy)) (i := p - (P.length + 1)) (j := q - (P.length + 1)) (by omega) hq'
    exact hg _ (List.getElem?_eq_getElem hq') (hc.tr x _ _ hox (hok _ (List.mem_cons_of_mem _ (List.getElem_mem _))) (hok _ (List.mem_cons_of_mem _ (List.getElem_mem _))) hle hm)

theorem aSn (hc : vX cmp ok le) (again : List aG → Int → Int → Int → Option (List aG)) (P U : List aG) (y : aG) (S : List aG) (hok : ∀ z ∈ U ++ [y], ok z) (hs : U.Pairwise le) (hb : (P ++ U ++ y :: S).length < 1152921504606846976) :
    ∃ W, W.Perm (U ++ [y]) ∧ W.Pairwise le ∧ cY again ((P.length + U.length : Nat) : Int) cmp (P ++ U ++ y :: S) BIG (P.length : Nat) ((P.length + U.length : Nat) : Int) = some (P ++ W ++ S) := by
  simp only [List.length_append, List.length_cons] at hb
  have hoy := hok y (by simp)
  have hdat : ∀ t (ht : t < U.length), idx (P ++ U ++ y :: S) ((P.length + t : Nat) : Int) = some U[t] := by
    intro t ht
    rw [bY (by simp; omega)]
    simp only [Option.some.injEq]
    rw [List.getElem_append_left (by simp; omega), List.getElem_append_right (by omega)]
    simp only [show P.length + t - P.length = t by omega]
  have hdy : idx (P ++ U ++ y :: S) ((P.length + U.length : Nat) : Int) = some y := pA (by simp)
  have hbs := aNp (fun k i j => cY again ((P.length + U.length : Nat) : Int) cmp (P ++ U ++ y :: S) k i j) (fun i => iU again ((P.length + U.length : Nat) : Int) i (P ++ U ++ y :: S))
    (fun h => ∀ v, U[h - P.length]? = some v → le v y) P.length (P.length + U.length) (k := BIG) ?_ ?_ ?_ (by omega) (cL (by omega))
  · obtain ⟨r, h1, h2, h3, h4, h5⟩ := hbs
    obtain ⟨t, rfl⟩ : ∃ t, r = P.length + t := ⟨r - P.length, by omega⟩
    have htl : t ≤ U.length := by omega
    refine ⟨U.take t ++ y :: U.drop t, ?_, ?_, ?_⟩
    · have h1 : (U.take t ++ y :: U.drop t).Perm (y :: (U.take t ++ U.drop t)) := List.perm_middle
      rw [List.take_append_drop] at h1
      exact h1.trans (List.perm_append_singleton y U).symm
    · have hp := List.pairwise_append.1 (show (U.take t ++ U.drop t).Pairwise le by rw [List.take_append_drop]; exact hs)
      have hlo : ∀ z ∈ U.take t, le z y := by
        intro z hz
        obtain ⟨q, hq, rfl⟩ := List.getElem_of_mem hz
        have hq' : q < t := by simp at hq; omega
        refine h4 (P.length + q) (by omega) (by omega) _ ?_
        rw [show P.length + q - P.length = q by omega, List.getElem_take, List.getElem?_eq_getElem]
      have hhi : ∀ z ∈ U.drop t, le y z := by
        intro z hz
        obtain ⟨q, hq, rfl⟩ := List.getElem_of_mem hz
        simp only [List.length_drop] at hq
        have hnot := h5 (P.length + (t + q)) (by omega) (by omega)
        have hzu : (U.drop t)[q] ∈ U := List.mem_of_mem_drop (List.getElem_mem _)
        refine (hc.tot y _ hoy (hok _ (by simp [hzu]))).resolve_right fun hn => hnot fun v hv => ?_
        rw [show P.length + (t + q) - P.length = t + q by omega, List.getElem?_eq_getElem (by omega)] at hv
        cases hv
        rwa [List.getElem_drop] at hn
      refine List.pairwise_append.2 ⟨hp.1, List.pairwise_cons.2 ⟨hhi, hp.2.1⟩, fun z hz w hw => ?_⟩
      rcases List.mem_cons.1 hw with rfl | hw
      · exact hlo z hz
      · exact hp.2.2 z hz w hw
    · rw [h3]
      unfold iU
      have e1 : P ++ U ++ y :: S = (P ++ U.take t) ++ U.drop t ++ y :: S := by rw [List.append_assoc P (U.take t), List.take_append_drop]
      rw [e1]
      have := aTc again (i := P.length + t) y (P ++ U.take t) (by simp; omega) (U.drop t).length (U.drop t) S BIG rfl (by simp; omega) (cL (by simp; omega))
      have e2 : ((P ++ U.take t ++ U.drop t).length : Nat) = P.length + U.length := by simp [htl]
      rw [e2] at this
      rw [this]; simp
  · intro k i j hi hij hj
    have hh : i + j < 4611686018427387904 := by omega
    have hlt : decide ((i : Int) < (j : Int)) = true := decide_eq_true (by omega)
    obtain ⟨t, ht, htv⟩ : ∃ t, (i + j) / 2 = P.length + t ∧ t < U.length := ⟨(i + j) / 2 - P.length, by omega, by omega⟩
    obtain ⟨n, hn, hiff⟩ := hc.run y U[t] hoy (hok _ (by simp))
    have hg : (∀ v, U[(i + j) / 2 - P.length]? = some v → le v y) ↔ le U[t] y := by
      rw [ht, show P.length + t - P.length = t by omega, List.getElem?_eq_getElem htv]
      exact ⟨fun h => h _ rfl, fun h v hv => by cases hv; exact h⟩
    by_cases h : n < 0
    · refine .inr ⟨fun hgg => (hiff.1 h) (hg.1 hgg), ?_⟩
      simp only [cY, hlt, cond_true, zO hh, ht, hdat t htv, hdy, Option.bind_some, hn, decide_eq_true h, Bool.not_true, cond_false]
    · refine .inl ⟨hg.2 (Classical.byContradiction fun hle => h (hiff.2 hle)), ?_⟩
      simp only [cY, hlt, cond_true, zO hh, ht, hdat t htv, hdy, Option.bind_some, hn, decide_eq_false h, Bool.not_false, bM (show P.length + t < 9223372036854775807 by omega)]
  · intro k i
    have hlt : decide ((i : Int) < (i : Int)) = false := decide_eq_false (by omega)
    simp only [cY, hlt, cond_false]
  · intro p q hp hpq hq hg v hv
    have hq' : q - P.length < U.length := by omega
    have hp' : p - P.length < U.length := by omega
    rw [List.getElem?_eq_getElem hp'] at hv
    cases hv
    have hm := rW hc hs (fun z hz => hok z (by simp [hz])) (i := p - P.length) (j := q - P.length) (by omega) hq'
    exact hc.tr _ _ y (hok _ (by simp)) (hok _ (by simp)) hoy hm (hg _ (List.getElem?_eq_getElem hq'))
end merge
end Go.Am

end
section
namespace Go.Am

section merge
variable {cmp : aG → aG → Option Int} {ok : aG → Prop} {le : aG → aG → Prop}
theorem bAg (hc : vX cmp ok le) {again : List aG → Int → Int → Int → Option (List aG)} {N : Nat} (ih : aHl ok le again N) (P U1 U2 V1 V2 S : List aG) (h1 : U1.length + V1.length < N) (h2 : U2.length + V2.length < N)
    (hok : ∀ y ∈ U1 ++ U2 ++ V1 ++ V2, ok y) (s1 : U1.Pairwise le) (s2 : U2.Pairwise le) (s3 : V1.Pairwise le) (s4 : V2.Pairwise le) (hb : (P ++ U1 ++ U2 ++ V1 ++ V2 ++ S).length < 1152921504606846976)
    {a m b mid n start : Int} (ea : a = (P.length : Nat)) (em : m = ((P.length + U1.length + U2.length : Nat) : Int)) (eb : b = ((P.length + U1.length + U2.length + V1.length + V2.length : Nat) : Int)) (emid : mid = ((P.length + U1.length + V1.length : Nat) : Int)) (en : n = mid + m) (es : start = ((P.length + U1.length : Nat) : Int)) :
    ∃ W1 W2, W1.Perm (U1 ++ V1) ∧ W1.Pairwise le ∧ W2.Perm (U2 ++ V2) ∧ W2.Pairwise le ∧ dG again a m b cmp mid n start (P ++ U1 ++ U2 ++ V1 ++ V2 ++ S) = some (P ++ W1 ++ W2 ++ S) := by
  simp only [List.length_append] at hb
  have eend : w64 (n - start) = ((P.length + U1.length + U2.length + V1.length : Nat) : Int) := by rw [cC (by omega) (by omega)]; omega
  -- the three steps
  have step1 : (bif decide (start < m) then some (decide (m < w64 (n - start))) else some false).bind (fun q => bif q then gB (P ++ U1 ++ U2 ++ V1 ++ V2 ++ S) start m (w64 (n - start)) cmp else some (P ++ U1 ++ U2 ++ V1 ++ V2 ++ S)) = some (P ++ U1 ++ V1 ++ U2 ++ V2 ++ S) := by
    rw [eend, dY, Option.bind_some]
    by_cases hh : 0 < U2.length ∧ 0 < V1.length
    · have : (decide (start < m) && decide (m < ((P.length + U1.length + U2.length + V1.length : Nat) : Int))) = true := by simp only [Bool.and_eq_true, decide_eq_true_eq]; omega
      rw [this, cond_true]
      have hr := aSu (cmp := cmp) (P ++ U1) U2 V1 (V2 ++ S) (List.length_pos_iff.1 hh.1) (List.length_pos_iff.1 hh.2) (by simp only [List.length_append]; omega)
      simp only [List.length_append] at hr
      rw [es, em]
      have e1 : P ++ U1 ++ U2 ++ V1 ++ V2 ++ S = P ++ U1 ++ U2 ++ V1 ++ (V2 ++ S) := by simp
      rw [e1, hr]; simp
    · have : (decide (start < m) && decide (m < ((P.length + U1.length + U2.length + V1.length : Nat) : Int))) = false := by
        rw [Bool.eq_false_iff]; simp only [ne_eq, Bool.and_eq_true, decide_eq_true_eq]; omega
      rw [this, cond_false]
      rcases Nat.eq_zero_or_pos U2.length with h | h
      · rw [List.length_eq_zero_iff.1 h]; simp
      · have : V1 = [] := List.length_eq_zero_iff.1 (by omega)
        rw [this]; simp
  obtain ⟨W1, p1, q1, step2⟩ : ∃ W1, W1.Perm (U1 ++ V1) ∧ W1.Pairwise le ∧ (bif decide (a < start) then some (decide (start < mid)) else some false).bind (fun q => bif q then again (P ++ U1 ++ V1 ++ U2 ++ V2 ++ S) a start mid else some (P ++ U1 ++ V1 ++ U2 ++ V2 ++ S)) = some (P ++ W1 ++ U2 ++ V2 ++ S) := by
    rw [dY, Option.bind_some]
    by_cases hh : 0 < U1.length ∧ 0 < V1.length
    · have : (decide (a < start) && decide (start < mid)) = true := by simp only [Bool.and_eq_true, decide_eq_true_eq]; omega
      rw [this]
      obtain ⟨W, hp, hs, hr⟩ := ih P U1 V1 (U2 ++ V2 ++ S) h1 hh.1 hh.2 (fun y hy => hok y (by simp only [List.mem_append] at hy ⊢; rcases hy with h | h <;> simp [h])) s1 s3 (by simp only [List.length_append]; omega)
      simp only [List.length_append] at hr
      refine ⟨W, hp, hs, ?_⟩
      rw [cond_true, ea, es, emid]
      have e1 : P ++ U1 ++ V1 ++ U2 ++ V2 ++ S = P ++ U1 ++ V1 ++ (U2 ++ V2 ++ S) := by simp
      rw [e1, hr]; simp
    · have : (decide (a < start) && decide (start < mid)) = false := by
        rw [Bool.eq_false_iff]; simp only [ne_eq, Bool.and_eq_true, decide_eq_true_eq]; omega
      rw [this]
      refine ⟨U1 ++ V1, .refl _, ?_, by rw [cond_false]; simp⟩
      rcases Nat.eq_zero_or_pos U1.length with h | h
      · rw [List.length_eq_zero_iff.1 h]; simpa using s3
      · have : V1 = [] := List.length_eq_zero_iff.1 (by omega)
        rw [this]; simpa using s1
  have hW1 : W1.length = U1.length + V1.length := by rw [p1.length_eq, List.length_append]
  obtain ⟨W2, p2, q2, step3⟩ : ∃ W2, W2.Perm (U2 ++ V2) ∧ W2.Pairwise le ∧ (bif decide (mid < w64 (n - start)) then some (decide (w64 (n - start) < b)) else some false).bind (fun q => bif q then again (P ++ W1 ++ U2 ++ V2 ++ S) mid (w64 (n - start)) b else some (P ++ W1 ++ U2 ++ V2 ++ S)) = some (P ++ W1 ++ W2 ++ S) := by
    rw [eend, dY, Option.bind_some]
    by_cases hh : 0 < U2.length ∧ 0 < V2.length
    · have : (decide (mid < ((P.length + U1.length + U2.length + V1.length : Nat) : Int)) && decide (((P.length + U1.length + U2.length + V1.length : Nat) : Int) < b)) = true := by simp only [Bool.and_eq_true, decide_eq_true_eq]; omega
      rw [this]
      obtain ⟨W, hp, hs, hr⟩ := ih (P ++ W1) U2 V2 S h2 hh.1 hh.2 (fun y hy => hok y (by simp only [List.mem_append] at hy ⊢; rcases hy with h | h <;> simp [h])) s2 s4 (by simp only [List.length_append]; omega)
      simp only [List.length_append] at hr
      refine ⟨W, hp, hs, ?_⟩
      rw [cond_true, emid, eb]
      rw [show P.length + U1.length + V1.length = P.length + W1.length by omega, show P.length + U1.length + U2.length + V1.length = P.length + W1.length + U2.length by omega, show P.length + W1.length + U2.length + V2.length = P.length + W1.length + U2.length + V2.length from rfl]
      exact hr
    · have : (decide (mid < ((P.length + U1.length + U2.length + V1.length : Nat) : Int)) && decide (((P.length + U1.length + U2.length + V1.length : Nat) : Int) < b)) = false := by
        rw [Bool.eq_false_iff]; simp only [ne_eq, Bool.and_eq_true, decide_eq_true_eq]; omega
      rw [this]
      refine ⟨U2 ++ V2, .refl _, ?_, by rw [cond_false]; simp⟩
      rcases Nat.eq_zero_or_pos U2.length with h | h
      · rw [List.length_eq_zero_iff.1 h]; simpa using s4
      · have : V2 = [] := List.length_eq_zero_iff.1 (by omega)
        rw [this]; simpa using s2
  refine ⟨W1, W2, p1, q1, p2, q2, ?_⟩
  -- the text
  have fin : ∀ (d : List aG) (x : Option (List aG)) (k : List aG → Option (List aG)) (q : Bool), (bif q then x.bind k else k d) = (bif q then x else some d).bind k := by intro d x k q; cases q <;> rfl
  unfold dG
  have h3 : ∀ d, d = P ++ W1 ++ U2 ++ V2 ++ S → ((bif decide (mid < w64 (n - start)) then some (decide (w64 (n - start) < b)) else some false).bind fun q => bif q then ((again d mid (w64 (n - start)) b).bind fun r => some r) else some d) = some (P ++ W1 ++ W2 ++ S) := by
    rintro d rfl
    rw [← step3]
    congr 1
    funext q
    cases q
    · rfl
    · simp only [cond_true]; cases again (P ++ W1 ++ U2 ++ V2 ++ S) mid (w64 (n - start)) b <;> rfl
  have h2 : ∀ d, d = P ++ U1 ++ V1 ++ U2 ++ V2 ++ S → ((bif decide (a < start) then some (decide (start < mid)) else some false).bind fun q => bif q then ((again d a start mid).bind fun r =>
      (bif decide (mid < w64 (n - start)) then some (decide (w64 (n - start) < b)) else some false).bind fun q => bif q then ((again r mid (w64 (n - start)) b).bind fun r => some r) else some r) else
      ((bif decide (mid < w64 (n - start)) then some (decide (w64 (n - start) < b)) else some false).bind fun q => bif q then ((again d mid (w64 (n - start)) b).bind fun r => some r) else some d)) = some (P ++ W1 ++ W2 ++ S) := by
    rintro d rfl
    rw [dY, Option.bind_some] at step2 ⊢
    cases hq : (decide (a < start) && decide (start < mid)) with
    | true =>
      rw [hq, cond_true] at step2
      rw [cond_true, step2, Option.bind_some]
      exact h3 _ rfl
    | false =>
      rw [hq, cond_false] at step2
      rw [cond_false]
      exact h3 _ (Option.some.inj step2)
  rw [dY, Option.bind_some] at step1 ⊢
  cases hq : (decide (start < m) && decide (m < w64 (n - start))) with
  | true =>
    rw [hq, cond_true] at step1
    rw [cond_true, step1, Option.bind_some]
    exact h2 _ rfl
  | false =>
    rw [hq, cond_false] at step1
    rw [cond_false]
    exact h2 _ (Option.some.inj step1)

theorem aPi (hc : vX cmp ok le) : ∀ (kr N : Nat), N ≤ kr → aHl ok le (bJ cmp kr) N := by
  intro kr
  induction kr with
  | zero => intro N hN P U V S hlt; omega
  | succ kr ih =>
    intro N hN P U V S hlt hu hv hok su sv hb
    simp only [List.length_append] at hb
    have eU : w64 (((P ++ U).length : Int) - (P.length : Int)) = (U.length : Int) := by simp only [List.length_append]; rw [cC (by omega) (by omega)]; omega
    have eV : w64 (((P ++ U ++ V).length : Int) - ((P ++ U).length : Int)) = (V.length : Int) := by simp only [List.length_append]; rw [cC (by omega) (by omega)]; omega
    simp only [bJ, eU, eV]
    by_cases hu1 : U.length = 1
    · match U, hu1 with
      | [x], _ =>
        obtain ⟨W, h1, h2, h3⟩ := aUt hc (bJ cmp kr) P x V S (fun y hy => hok y (by simpa using hy)) sv (by simp only [List.length_append, List.length_cons]; simp at hb; omega)
        refine ⟨W, by simpa using h1, h2, ?_⟩
        have hd : decide ((([x] : List aG).length : Int) = 1) = true := decide_eq_true (by simp)
        rw [hd, cond_true]
        have e1 : P ++ [x] ++ V ++ S = P ++ x :: V ++ S := by simp
        have e2 : (P ++ [x]).length = P.length + 1 := by simp
        have e3 : (P ++ [x] ++ V).length = P.length + 1 + V.length := by simp <;> omega
        rw [e1, e2, e3]
        exact h3
    have hd : decide ((U.length : Int) = 1) = false := decide_eq_false (by omega)
    rw [hd, cond_false]
    by_cases hv1 : V.length = 1
    · match V, hv1 with
      | [y], _ =>
        obtain ⟨W, h1, h2, h3⟩ := aSn hc (bJ cmp kr) P U y S hok su (by simp only [List.length_append, List.length_cons]; simp at hb; omega)
        refine ⟨W, h1, h2, ?_⟩
        have hd : decide ((([y] : List aG).length : Int) = 1) = true := decide_eq_true (by simp)
        rw [hd, cond_true]
        have e1 : P ++ U ++ [y] ++ S = P ++ U ++ y :: S := by simp
        have e2 : (P ++ U).length = P.length + U.length := by simp
        rw [e1, e2]
        exact h3
    have hd2 : decide ((V.length : Int) = 1) = false := decide_eq_false (by omega)
    rw [hd2, cond_false]
    -- by halves
    have eh : w64 ((IntKind.u64.wrap (w64 ((P.length : Int) + ((P ++ U ++ V).length : Int)))).fdiv (2 ^ (min (1 : Int).toNat 64))) = (((P.length + (P ++ U ++ V).length) / 2 : Nat) : Int) := zO (by simp only [List.length_append]; omega)
    rw [eh]
    obtain ⟨mid, hmid⟩ : ∃ mid, mid = (P.length + (P ++ U ++ V).length) / 2 := ⟨_, rfl⟩
    rw [← hmid]
    simp only [List.length_append] at hmid
    have en : w64 ((mid : Int) + ((P ++ U).length : Int)) = ((mid + (P.length + U.length) : Nat) : Int) := by simp only [List.length_append]; rw [cC (by omega) (by omega)]; omega
    have ep : w64 (((mid + (P.length + U.length) : Nat) : Int) - 1) = ((mid + (P.length + U.length) - 1 : Nat) : Int) := by rw [cC (by omega) (by omega)]; omega
    rw [en, ep]
    have hok1 : ∀ y ∈ U, ok y := fun y hy => hok y (by simp [hy])
    have hok2 : ∀ y ∈ V, ok y := fun y hy => hok y (by simp [hy])
    have hdU : ∀ t (ht : t < U.length), idx (P ++ U ++ V ++ S) ((P.length + t : Nat) : Int) = some U[t] := by
      intro t ht
      rw [bY (by simp; omega)]
      simp only [Option.some.injEq]
      rw [List.getElem_append_left (by simp; omega), List.getElem_append_left (by simp; omega), List.getElem_append_right (by omega)]
      simp only [show P.length + t - P.length = t by omega]
    have hdV : ∀ t (ht : t < V.length), idx (P ++ U ++ V ++ S) ((P.length + U.length + t : Nat) : Int) = some V[t] := by
      intro t ht
      rw [bY (by simp; omega)]
      simp only [Option.some.injEq]
      rw [List.getElem_append_left (by simp; omega), List.getElem_append_right (by simp)]
      simp only [List.length_append, show P.length + U.length + t - (P.length + U.length) = t by omega]
    -- the search
    have search : ∀ lo hi : Nat, P.length ≤ lo → lo ≤ hi → hi ≤ P.length + U.length → (∀ c, lo ≤ c → c < hi → P.length + U.length ≤ mid + (P.length + U.length) - 1 - c ∧ mid + (P.length + U.length) - 1 - c < P.length + U.length + V.length ∧ c < mid + (P.length + U.length)) →
        ∃ r : Nat, lo ≤ r ∧ r ≤ hi ∧ cH (bJ cmp kr) (P.length : Nat) ((P ++ U).length : Nat) ((P ++ U ++ V).length : Nat) cmp mid ((mid + (P.length + U.length) : Nat) : Int) ((mid + (P.length + U.length) - 1 : Nat) : Int) (P ++ U ++ V ++ S) BIG lo hi =
          dG (bJ cmp kr) (P.length : Nat) ((P ++ U).length : Nat) ((P ++ U ++ V).length : Nat) cmp mid ((mid + (P.length + U.length) : Nat) : Int) r (P ++ U ++ V ++ S) ∧
          (∀ x, lo ≤ x → x < r → ∀ u v, U[x - P.length]? = some u → V[mid + (P.length + U.length) - 1 - x - (P.length + U.length)]? = some v → le u v) ∧ (∀ x, r ≤ x → x < hi → ¬ ∀ u v, U[x - P.length]? = some u → V[mid + (P.length + U.length) - 1 - x - (P.length + U.length)]? = some v → le u v) := by
      intro lo hi hlo hlh hhi hc'
      refine aNp (fun k i j => cH (bJ cmp kr) (P.length : Nat) ((P ++ U).length : Nat) ((P ++ U ++ V).length : Nat) cmp mid ((mid + (P.length + U.length) : Nat) : Int) ((mid + (P.length + U.length) - 1 : Nat) : Int) (P ++ U ++ V ++ S) k i j)
        (fun i => dG (bJ cmp kr) (P.length : Nat) ((P ++ U).length : Nat) ((P ++ U ++ V).length : Nat) cmp mid ((mid + (P.length + U.length) : Nat) : Int) i (P ++ U ++ V ++ S))
        (fun x => ∀ u v, U[x - P.length]? = some u → V[mid + (P.length + U.length) - 1 - x - (P.length + U.length)]? = some v → le u v) lo hi ?_ ?_ ?_ hlh (cL (by omega))
      · intro k i j hi' hij hj
        have hh : i + j < 4611686018427387904 := by omega
        have hlt : decide ((i : Int) < (j : Int)) = true := decide_eq_true (by omega)
        obtain ⟨c, hcd⟩ : ∃ c, c = (i + j) / 2 := ⟨_, rfl⟩
        obtain ⟨g1, g2, g3⟩ := hc' c (by omega) (by omega)
        have t1 : c - P.length < U.length := by omega
        have t2 : mid + (P.length + U.length) - 1 - c - (P.length + U.length) < V.length := by omega
        have i1 := hdU (c - P.length) t1
        have i2 := hdV (mid + (P.length + U.length) - 1 - c - (P.length + U.length)) t2
        rw [show P.length + (c - P.length) = c by omega] at i1
        rw [show P.length + U.length + (mid + (P.length + U.length) - 1 - c - (P.length + U.length)) = mid + (P.length + U.length) - 1 - c by omega] at i2
        have ew : w64 (((mid + (P.length + U.length) - 1 : Nat) : Int) - (c : Int)) = ((mid + (P.length + U.length) - 1 - c : Nat) : Int) := by rw [cC (by omega) (by omega)]; omega
        obtain ⟨q, hq, hiff⟩ := hc.run _ _ (hok2 _ (List.getElem_mem t2)) (hok1 _ (List.getElem_mem t1))
        have hg : (∀ u v, U[c - P.length]? = some u → V[mid + (P.length + U.length) - 1 - c - (P.length + U.length)]? = some v → le u v) ↔ le U[c - P.length] V[mid + (P.length + U.length) - 1 - c - (P.length + U.length)] := by
          rw [List.getElem?_eq_getElem t1, List.getElem?_eq_getElem t2]
          exact ⟨fun h => h _ _ rfl rfl, fun h u v h1 h2 => by cases h1; cases h2; exact h⟩
        simp only [← hcd]
        by_cases h : q < 0
        · refine .inr ⟨fun hgg => hiff.1 h (hg.1 hgg), ?_⟩
          simp only [cH, hlt, cond_true, zO hh, ← hcd, ew, i1, i2, Option.bind_some, hq, decide_eq_true h, Bool.not_true, cond_false]
        · refine .inl ⟨hg.2 (Classical.byContradiction fun hle => h (hiff.2 hle)), ?_⟩
          simp only [cH, hlt, cond_true, zO hh, ← hcd, ew, i1, i2, Option.bind_some, hq, decide_eq_false h, Bool.not_false, bM (show c < 9223372036854775807 by omega)]
      · intro k i
        have hlt : decide ((i : Int) < (i : Int)) = false := decide_eq_false (by omega)
        simp only [cH, hlt, cond_false]
      · intro p q hp hpq hq hg u v hu' hv'
        obtain ⟨g1, g2, g3⟩ := hc' p (by omega) (by omega)
        obtain ⟨g4, g5, g6⟩ := hc' q (by omega) hq
        have t1 : q - P.length < U.length := by omega
        have t2 : mid + (P.length + U.length) - 1 - q - (P.length + U.length) < V.length := by omega
        have t3 : p - P.length < U.length := by omega
        have t4 : mid + (P.length + U.length) - 1 - p - (P.length + U.length) < V.length := by omega
        rw [List.getElem?_eq_getElem t3] at hu'
        rw [List.getElem?_eq_getElem t4] at hv'
        cases hu'; cases hv'
        have m1 := rW hc su hok1 (i := p - P.length) (j := q - P.length) (by omega) t1
        have m2 := rW hc sv hok2 (i := mid + (P.length + U.length) - 1 - q - (P.length + U.length)) (j := mid + (P.length + U.length) - 1 - p - (P.length + U.length)) (by omega) t4
        have m3 := hg _ _ (List.getElem?_eq_getElem t1) (List.getElem?_eq_getElem t2)
        exact hc.tr _ _ _ (hok1 _ (List.getElem_mem _)) (hok1 _ (List.getElem_mem _)) (hok2 _ (List.getElem_mem _)) m1 (hc.tr _ _ _ (hok1 _ (List.getElem_mem _)) (hok2 _ (List.getElem_mem _)) (hok2 _ (List.getElem_mem _)) m3 m2)
    -- what follows
    have finish : ∀ lo hi r : Nat, P.length ≤ lo → lo ≤ r → r ≤ hi → hi ≤ P.length + U.length → P.length + U.length ≤ mid + (P.length + U.length) - r → mid + (P.length + U.length) - r ≤ P.length + U.length + V.length → r ≤ mid →
        (P.length < lo → lo = mid + (P.length + U.length) - (P.length + U.length + V.length)) → (hi < P.length + U.length → hi = mid) →
        (∀ x, lo ≤ x → x < r → ∀ u v, U[x - P.length]? = some u → V[mid + (P.length + U.length) - 1 - x - (P.length + U.length)]? = some v → le u v) → (∀ x, r ≤ x → x < hi → ¬ ∀ u v, U[x - P.length]? = some u → V[mid + (P.length + U.length) - 1 - x - (P.length + U.length)]? = some v → le u v) →
        ∃ W, W.Perm (U ++ V) ∧ W.Pairwise le ∧ dG (bJ cmp kr) (P.length : Nat) ((P ++ U).length : Nat) ((P ++ U ++ V).length : Nat) cmp mid ((mid + (P.length + U.length) : Nat) : Int) r (P ++ U ++ V ++ S) = some (P ++ W ++ S) := by
      intro lo hi0 r hlo hlr hrh hhi he1 he2 hrm hlo' hhi' hlow hhigh
      obtain ⟨s, hs⟩ : ∃ s, s = r - P.length := ⟨_, rfl⟩
      obtain ⟨e, he⟩ : ∃ e, e = mid + (P.length + U.length) - r - (P.length + U.length) := ⟨_, rfl⟩
      have hsU : s ≤ U.length := by omega
      have heV : e ≤ V.length := by omega
      have lU1 : (U.take s).length = s := by simp; omega
      have lU2 : (U.drop s).length = U.length - s := by simp
      have lV1 : (V.take e).length = e := by simp; omega
      have lV2 : (V.drop e).length = V.length - e := by simp
      have dU : U.take s ++ U.drop s = U := List.take_append_drop s U
      have dV : V.take e ++ V.drop e = V := List.take_append_drop e V
      have pU := List.pairwise_append.1 (show (U.take s ++ U.drop s).Pairwise le by rw [dU]; exact su)
      have pV := List.pairwise_append.1 (show (V.take e ++ V.drop e).Pairwise le by rw [dV]; exact sv)
      have ihN : aHl ok le (bJ cmp kr) (U.length + V.length) := ih _ (by omega)
      obtain ⟨W1, W2, p1, q1, p2, q2, hK⟩ := bAg hc ihN P (U.take s) (U.drop s) (V.take e) (V.drop e) S (by rw [lU1, lV1]; omega) (by rw [lU2, lV2]; omega)
        (fun y hy => by
          simp only [List.mem_append] at hy
          rcases hy with ((h | h) | h) | h
          · exact hok1 y (List.mem_of_mem_take h)
          · exact hok1 y (List.mem_of_mem_drop h)
          · exact hok2 y (List.mem_of_mem_take h)
          · exact hok2 y (List.mem_of_mem_drop h)) pU.1 pU.2.1 pV.1 pV.2.1 (by simp only [List.length_append, lU1, lU2, lV1, lV2]; omega)
        (a := (P.length : Nat)) (m := ((P ++ U).length : Nat)) (b := ((P ++ U ++ V).length : Nat)) (mid := mid) (n := ((mid + (P.length + U.length) : Nat) : Int)) (start := r) rfl
        (by simp only [List.length_append, lU1, lU2]; omega) (by simp only [List.length_append, lU1, lU2, lV1, lV2]; omega) (by rw [lU1, lV1]; omega) (by simp only [List.length_append]; omega) (by rw [lU1]; omega)
      have ed : P ++ U.take s ++ U.drop s ++ V.take e ++ V.drop e ++ S = P ++ U ++ V ++ S := by
        rw [List.append_assoc P, dU, List.append_assoc (P ++ U), dV]
      rw [ed] at hK
      refine ⟨W1 ++ W2, ?_, ?_, by rw [hK]; simp⟩
      · refine (p1.append p2).trans ?_
        have : (U.take s ++ V.take e ++ (U.drop s ++ V.drop e)).Perm ((U.take s ++ U.drop s) ++ (V.take e ++ V.drop e)) := by
          rw [List.append_assoc, List.append_assoc]
          refine List.Perm.append_left _ ?_
          rw [← List.append_assoc, ← List.append_assoc]
          exact List.Perm.append_right _ List.perm_append_comm
        rwa [dU, dV] at this
      · refine List.pairwise_append.2 ⟨q1, q2, fun x hx y hy => ?_⟩
        have hx' := p1.mem_iff.1 hx
        have hy' := p2.mem_iff.1 hy
        rcases List.mem_append.1 hx' with hx1 | hx1 <;> rcases List.mem_append.1 hy' with hy1 | hy1
        · exact pU.2.2 x hx1 y hy1
        · -- the first of U, the last of V
          obtain ⟨i, hi, rfl⟩ := List.getElem_of_mem hx1
          obtain ⟨j, hj, rfl⟩ := List.getElem_of_mem hy1
          rw [lU1] at hi
          rw [lV2] at hj
          have hlo2 : lo ≤ r - 1 := by
            rcases Nat.lt_or_ge P.length lo with h | h
            · have := hlo' h; omega
            · omega
          have t1 : r - 1 - P.length < U.length := by omega
          have t2 : mid + (P.length + U.length) - 1 - (r - 1) - (P.length + U.length) < V.length := by omega
          have m3 := hlow (r - 1) hlo2 (by omega) _ _ (List.getElem?_eq_getElem t1) (List.getElem?_eq_getElem t2)
          have m1 := rW hc su hok1 (i := i) (j := r - 1 - P.length) (by omega) t1
          have m2 := rW hc sv hok2 (i := mid + (P.length + U.length) - 1 - (r - 1) - (P.length + U.length)) (j := e + j) (by omega) (by omega)
          rw [List.getElem_take, List.getElem_drop]
          exact hc.tr _ _ _ (hok1 _ (List.getElem_mem _)) (hok1 _ (List.getElem_mem _)) (hok2 _ (List.getElem_mem _)) m1 (hc.tr _ _ _ (hok1 _ (List.getElem_mem _)) (hok2 _ (List.getElem_mem _)) (hok2 _ (List.getElem_mem _)) m3 m2)
        · obtain ⟨i, hi, rfl⟩ := List.getElem_of_mem hx1
          obtain ⟨j, hj, rfl⟩ := List.getElem_of_mem hy1
          rw [lV1] at hi
          rw [lU2] at hj
          have hh2 : r < hi0 := by
            rcases Nat.lt_or_ge hi0 (P.length + U.length) with h | h
            · have := hhi' h; omega
            · omega
          have t1 : r - P.length < U.length := by omega
          have t2 : mid + (P.length + U.length) - 1 - r - (P.length + U.length) < V.length := by omega
          have hnot := hhigh r (Nat.le_refl _) hh2
          have m3 : le V[mid + (P.length + U.length) - 1 - r - (P.length + U.length)] U[r - P.length] := by
            refine (hc.tot _ _ (hok2 _ (List.getElem_mem t2)) (hok1 _ (List.getElem_mem t1))).resolve_right fun hn => hnot fun u v h1 h2 => ?_
            rw [List.getElem?_eq_getElem t1] at h1
            rw [List.getElem?_eq_getElem t2] at h2
            cases h1; cases h2; exact hn
          have m1 := rW hc sv hok2 (i := i) (j := mid + (P.length + U.length) - 1 - r - (P.length + U.length)) (by omega) t2
          have m2 := rW hc su hok1 (i := r - P.length) (j := s + j) (by omega) (by omega)
          rw [List.getElem_take, List.getElem_drop]
          exact hc.tr _ _ _ (hok2 _ (List.getElem_mem _)) (hok2 _ (List.getElem_mem _)) (hok1 _ (List.getElem_mem _)) m1 (hc.tr _ _ _ (hok2 _ (List.getElem_mem _)) (hok1 _ (List.getElem_mem _)) (hok1 _ (List.getElem_mem _)) m3 m2)
        · exact pV.2.2 x hx1 y hy1
    by_cases hm : mid < P.length + U.length
    · have hd3 : decide ((mid : Int) < ((P ++ U).length : Int)) = true := decide_eq_true (by simp only [List.length_append]; omega)
      have es : w64 (((mid + (P.length + U.length) : Nat) : Int) - ((P ++ U ++ V).length : Int)) = ((mid + (P.length + U.length) - (P.length + U.length + V.length) : Nat) : Int) := by simp only [List.length_append]; rw [cC (by omega) (by omega)]; omega
      rw [hd3, cond_true, es]
      obtain ⟨r, h1, h2, h3, h4, h5⟩ := search (mid + (P.length + U.length) - (P.length + U.length + V.length)) mid (by omega) (by omega) (by omega) (fun c h1 h2 => by omega)
      rw [h3]
      exact finish _ mid r (by omega) h1 h2 (by omega) (by omega) (by omega) h2 (fun _ => rfl) (fun _ => rfl) h4 h5
    · have hd3 : decide ((mid : Int) < ((P ++ U).length : Int)) = false := decide_eq_false (by simp only [List.length_append]; omega)
      rw [hd3, cond_false]
      have eu : ((P ++ U).length : Nat) = P.length + U.length := by simp
      obtain ⟨r, h1, h2, h3, h4, h5⟩ := search P.length (P.length + U.length) (by omega) (by omega) (by omega) (fun c h1 h2 => by omega)
      have hf := finish P.length (P.length + U.length) r (by omega) h1 h2 (by omega) (by omega) (by omega) (by omega) (fun h => by omega) (fun h => by omega) h4 h5
      simp only [eu] at h3 hf ⊢
      rw [h3]
      exact hf
end merge
end Go.Am

end
section
namespace Go.Am

section stable
variable {cmp : aG → aG → Option Int} {ok : aG → Prop} {le : aG → aG → Prop}
/-- Each block of a length is sorted. -/
def Blk (le : aG → aG → Prop) (bs : Nat) (L : List aG) : Prop := ∀ (i j : Nat) (_ : i < j) (hj : j < L.length), i / bs = j / bs → le (L[i]'(by omega)) L[j]
theorem yE {bs c : Nat} {P M : List aG} (hb : 0 < bs) (hP : P.length = c * bs) (h1 : Blk le bs P) (h2 : M.Pairwise le) (_ : M.length ≤ bs) : Blk le bs (P ++ M) := by
  intro i j hij hj hd
  simp only [List.length_append] at hj
  rcases Nat.lt_or_ge j P.length with h | h
  · rw [List.getElem_append_left (by omega), List.getElem_append_left h]
    exact h1 i j hij h hd
  · rcases Nat.lt_or_ge i P.length with h3 | h3
    · exfalso
      have e1 : i / bs < c := (Nat.div_lt_iff_lt_mul hb).2 (by omega)
      have e2 : c ≤ j / bs := (Nat.le_div_iff_mul_le hb).2 (by omega)
      omega
    · rw [List.getElem_append_right h3, List.getElem_append_right h]
      exact List.pairwise_iff_getElem.1 h2 _ _ (by omega) (by omega) (by omega)
theorem vZ {bs : Nat} {L : List aG} (h : Blk le bs L) (hl : L.length ≤ bs) : L.Pairwise le :=
  List.pairwise_iff_getElem.2 fun i j hi hj hij => h i j hij hj (by rw [Nat.div_eq_of_lt (by omega), Nat.div_eq_of_lt (by omega)])
theorem aKy {bs n : Nat} {L : List aG} (h : Blk le bs L) : Blk le bs (L.take n) := by
  intro i j hij hj hd
  simp only [List.length_take] at hj
  rw [List.getElem_take, List.getElem_take]
  exact h i j hij (by omega) hd
theorem aKx {bs c n : Nat} {L : List aG} (hb : 0 < bs) (hn : n = c * bs) (h : Blk le bs L) : Blk le bs (L.drop n) := by
  intro i j hij hj hd
  simp only [List.length_drop] at hj
  rw [List.getElem_drop, List.getElem_drop]
  refine h (n + i) (n + j) (by omega) (by omega) ?_
  rw [hn, Nat.add_comm (c * bs) i, Nat.add_comm (c * bs) j, Nat.add_mul_div_right _ _ hb, Nat.add_mul_div_right _ _ hb, hd]

theorem aHh (hc : vX cmp ok le) (P U V S : List aG) (h1 : 0 < U.length) (h2 : 0 < V.length) (hok : ∀ y ∈ U ++ V, ok y) (su : U.Pairwise le) (sv : V.Pairwise le) (hb : (P ++ U ++ V ++ S).length < 1152921504606846976) :
    ∃ W, W.Perm (U ++ V) ∧ W.Pairwise le ∧ jR (P ++ U ++ V ++ S) (P.length : Nat) ((P ++ U).length : Nat) ((P ++ U ++ V).length : Nat) cmp = some (P ++ W ++ S) :=
  aPi hc BIG BIG (Nat.le_refl _) P U V S (cL (by simp only [List.length_append] at hb; omega)) h1 h2 hok su sv hb

theorem bCb (hc : vX cmp ok le) (F : Int → List aG → Option (List aG)) {bs : Nat} (hbs : 0 < bs) (hbb : bs < 1152921504606846976) : ∀ (d : Nat) (P R : List aG) (k c : Nat), R.length = d → d < k → P.length = c * (2 * bs) → Blk le (2 * bs) P → Blk le bs R → (∀ y ∈ P ++ R, ok y) → (P ++ R).length < 576460752303423488 →
    ∃ L, L.Perm (P ++ R) ∧ Blk le (2 * bs) L ∧ eN F ((P ++ R).length : Nat) cmp (bs : Nat) k (P.length : Nat) ((P.length + 2 * bs : Nat) : Int) (P ++ R) = F ((bs * 2 : Nat) : Int) L := by
  intro d
  induction d using Nat.strongRecOn with
  | _ d ih =>
    intro P R k c hd hk hP hPb hRb hok hb
    obtain ⟨k, rfl⟩ : ∃ q, k = q + 1 := ⟨k - 1, by omega⟩
    simp only [List.length_append] at hb
    have e2 : w64 ((bs : Int) * 2) = ((bs * 2 : Nat) : Int) := by rw [cC (by omega) (by omega)]; omega
    have e2' : w64 (2 * (bs : Int)) = ((2 * bs : Nat) : Int) := by rw [cC (by omega) (by omega)]; omega
    have em : w64 ((P.length : Int) + (bs : Int)) = ((P.length + bs : Nat) : Int) := by rw [cC (by omega) (by omega)]; omega
    by_cases hfull : 2 * bs ≤ R.length
    · -- two whole blocks
      obtain ⟨U, V, S, rfl, hU, hV, hUd, hVd, hSd⟩ : ∃ U V S, R = U ++ V ++ S ∧ U.length = bs ∧ V.length = bs ∧ U = R.take bs ∧ V = (R.drop bs).take bs ∧ S = R.drop (2 * bs) := by
        refine ⟨R.take bs, (R.drop bs).take bs, R.drop (2 * bs), ?_, by simp; omega, by simp; omega, rfl, rfl, rfl⟩
        rw [show R.drop (2 * bs) = (R.drop bs).drop bs by rw [List.drop_drop]; congr 1; omega, List.append_assoc, List.take_append_drop, List.take_append_drop]
      have bU : Blk le bs U := by rw [hUd]; exact aKy hRb
      have bV : Blk le bs V := by rw [hVd]; exact aKy (aKx (c := 1) hbs (by omega) hRb)
      have bS : Blk le bs S := by rw [hSd]; exact aKx (c := 2) hbs (by omega) hRb
      clear hUd hVd hSd
      simp only [List.length_append] at hb hd hfull
      obtain ⟨W, p1, s1, hr⟩ := aHh hc P U V S (by omega) (by omega) (fun y hy => hok y (by simp only [List.mem_append] at hy ⊢; rcases hy with h | h <;> simp [h])) (vZ bU (by omega)) (vZ bV (by omega)) (by simp only [List.length_append]; omega)
      have hW : W.length = 2 * bs := by rw [p1.length_eq, List.length_append]; omega
      have hlt : decide (((P.length + 2 * bs : Nat) : Int) ≤ ((P ++ (U ++ V ++ S)).length : Int)) = true := decide_eq_true (by simp only [List.length_append]; omega)
      obtain ⟨L, p2, b2, hL⟩ := ih S.length (by omega) (P ++ W) S k (c + 1) rfl (by omega) (by rw [List.length_append, hP, hW, Nat.add_mul]; omega) (yE (c := c) (by omega) hP hPb s1 (by omega)) bS
        (fun y hy => by
          simp only [List.mem_append] at hy
          rcases hy with (h | h) | h
          · exact hok y (by simp [h])
          · have := p1.mem_iff.1 h
            simp only [List.mem_append] at this
            rcases this with h | h <;> exact hok y (by simp [h])
          · exact hok y (by simp [h])) (by simp only [List.length_append]; omega)
      refine ⟨L, p2.trans ?_, b2, ?_⟩
      · have : (P ++ W ++ S).Perm (P ++ (U ++ V) ++ S) := List.Perm.append_right _ (List.Perm.append_left _ p1)
        simpa using this
      · have ed : P ++ (U ++ V ++ S) = P ++ U ++ V ++ S := by simp
        have ex : (P ++ U).length = P.length + bs := by rw [List.length_append, hU]
        have ey : (P ++ U ++ V).length = P.length + 2 * bs := by rw [List.length_append, List.length_append, hU, hV]; omega
        rw [ex, ey] at hr
        simp only [eN, hlt, cond_true, em, e2']
        rw [ed, hr, Option.bind_some]
        have eb : w64 (((P.length + 2 * bs : Nat) : Int) + ((2 * bs : Nat) : Int)) = (((P ++ W).length + 2 * bs : Nat) : Int) := by rw [cC (by omega) (by omega), List.length_append, hW]; omega
        have ea : ((P.length + 2 * bs : Nat) : Int) = (((P ++ W).length : Nat) : Int) := by rw [List.length_append, hW]
        have el : (P ++ W ++ S).length = (P ++ U ++ V ++ S).length := by simp only [List.length_append, hW]; omega
        rw [eb, ea, ← el]
        exact hL
    · have hlt : decide (((P.length + 2 * bs : Nat) : Int) ≤ ((P ++ R).length : Int)) = false := decide_eq_false (by simp only [List.length_append]; omega)
      simp only [eN, hlt, cond_false, lZ, em, hJ, e2]
      by_cases hm : bs < R.length
      · have hd3 : decide (((P.length + bs : Nat) : Int) < ((P ++ R).length : Int)) = true := decide_eq_true (by simp only [List.length_append]; omega)
        obtain ⟨U, V, rfl, hU, hUd, hVd⟩ : ∃ U V, R = U ++ V ∧ U.length = bs ∧ U = R.take bs ∧ V = R.drop bs := ⟨R.take bs, R.drop bs, by simp, by simp; omega, rfl, rfl⟩
        have bU : Blk le bs U := by rw [hUd]; exact aKy hRb
        have bV : Blk le bs V := by rw [hVd]; exact aKx (c := 1) hbs (by omega) hRb
        clear hUd hVd
        simp only [List.length_append] at hb hm hfull
        obtain ⟨W, p1, s1, hr⟩ := aHh hc P U V [] (by omega) (by omega) (fun y hy => hok y (by simp only [List.mem_append] at hy ⊢; rcases hy with h | h <;> simp [h])) (vZ bU (by omega)) (vZ bV (by omega)) (by simp only [List.length_append, List.length_nil]; omega)
        have hW : W.length = U.length + V.length := by rw [p1.length_eq, List.length_append]
        simp only [List.append_nil] at hr
        have ex : (P ++ U).length = P.length + bs := by rw [List.length_append, hU]
        rw [ex, List.append_assoc P U V] at hr
        refine ⟨P ++ W, List.Perm.append_left _ p1, yE (c := c) (by omega) hP hPb s1 (by omega), ?_⟩
        rw [hd3, cond_true, hr, Option.bind_some]
      · have hd3 : decide (((P.length + bs : Nat) : Int) < ((P ++ R).length : Int)) = false := decide_eq_false (by simp only [List.length_append]; omega)
        refine ⟨P ++ R, .refl _, yE (c := c) (by omega) hP hPb (vZ hRb (by omega)) (by omega), ?_⟩
        rw [hd3, cond_false]

theorem bCj (hc : vX cmp ok le) : ∀ (d : Nat) (xs : List aG) (bs k : Nat), xs.length - bs = d → d < k → 0 < bs → bs < 1152921504606846976 → Blk le bs xs → (∀ y ∈ xs, ok y) → xs.length < 288230376151711744 →
    ∃ ys, ys.Perm xs ∧ ys.Pairwise le ∧ dE (xs.length : Nat) cmp k (bs : Nat) xs = some ys := by
  intro d
  induction d using Nat.strongRecOn with
  | _ d ih =>
    intro xs bs k hd hk hbs hbb hbl hok hb
    obtain ⟨k, rfl⟩ : ∃ q, k = q + 1 := ⟨k - 1, by omega⟩
    by_cases h : bs < xs.length
    · have hlt : decide ((bs : Int) < (xs.length : Int)) = true := decide_eq_true (by omega)
      have e2' : w64 (2 * (bs : Int)) = ((2 * bs : Nat) : Int) := by rw [cC (by omega) (by omega)]; omega
      simp only [dE, hlt, cond_true, e2']
      obtain ⟨L, p1, b1, hr⟩ := bCb hc (dE (xs.length : Nat) cmp k) hbs hbb xs.length [] xs BIG 0 rfl (cL (by omega)) (by simp) (fun i j _ hj => by simp at hj) hbl (by simpa using hok) (by simp; omega)
      simp only [List.nil_append, List.length_nil, Nat.zero_add] at hr p1
      have hL : L.length = xs.length := p1.length_eq
      obtain ⟨ys, p2, s2, hy⟩ := ih (L.length - bs * 2) (by omega) L (bs * 2) k rfl (by omega) (by omega) (by omega) (by rwa [Nat.mul_comm]) (fun y hy => hok y (p1.mem_iff.1 hy)) (by omega)
      rw [hL] at hy
      refine ⟨ys, p2.trans p1, s2, ?_⟩
      rw [← hy]
      exact hr
    · have hlt : decide ((bs : Int) < (xs.length : Int)) = false := decide_eq_false (by omega)
      refine ⟨xs, .refl _, vZ hbl (by omega), ?_⟩
      simp only [dE, hlt, cond_false, lY]

theorem aTf (hc : vX cmp ok le) (xs : List aG) (hok : ∀ y ∈ xs, ok y) (hb : xs.length < 288230376151711744) : ∃ ys, ys.Perm xs ∧ ys.Pairwise le ∧ iI xs cmp = some ys := by
  have main : ∀ (d : Nat) (P R : List aG) (k c : Nat), R.length = d → d < k → P.length = c * 20 → Blk le 20 P → (∀ y ∈ P ++ R, ok y) → (P ++ R).length < 288230376151711744 →
      ∃ ys, ys.Perm (P ++ R) ∧ ys.Pairwise le ∧ eM ((P ++ R).length : Nat) cmp 20 k (P.length : Nat) ((P.length + 20 : Nat) : Int) (P ++ R) = some ys := by
    intro d
    induction d using Nat.strongRecOn with
    | _ d ih =>
      intro P R k c hd hk hP hPb hok hb
      obtain ⟨k, rfl⟩ : ∃ q, k = q + 1 := ⟨k - 1, by omega⟩
      simp only [List.length_append] at hb
      by_cases hfull : 20 ≤ R.length
      · obtain ⟨M, S, rfl, hM⟩ : ∃ M S, R = M ++ S ∧ M.length = 20 := ⟨R.take 20, R.drop 20, by simp, by simp; omega⟩
        simp only [List.length_append] at hb hd hfull
        have hlt : decide (((P.length + 20 : Nat) : Int) ≤ ((P ++ (M ++ S)).length : Int)) = true := decide_eq_true (by simp only [List.length_append]; omega)
        obtain ⟨M', p1, s1, hr⟩ := aEy hc P M S (fun y hy => hok y (by simp [hy])) (by simp only [List.length_append]; omega)
        have hM' : M'.length = 20 := by rw [p1.length_eq, hM]
        obtain ⟨ys, p2, s2, hy⟩ := ih S.length (by omega) (P ++ M') S k (c + 1) rfl (by omega) (by rw [List.length_append, hP, hM', Nat.add_mul]) (yE (c := c) (by omega) hP hPb s1 (by omega)) (fun y hy => by
          simp only [List.mem_append] at hy
          rcases hy with (h | h) | h
          · exact hok y (by simp [h])
          · exact hok y (by simp [p1.mem_iff.1 h])
          · exact hok y (by simp [h])) (by simp only [List.length_append]; omega)
        refine ⟨ys, p2.trans ?_, s2, ?_⟩
        · have : (P ++ M' ++ S).Perm (P ++ M ++ S) := List.Perm.append_right _ (List.Perm.append_left _ p1)
          simpa using this
        · have ex : (P ++ M).length = P.length + 20 := by rw [List.length_append, hM]
          rw [ex, List.append_assoc P M S] at hr
          simp only [eM, hlt, cond_true]
          rw [hr, Option.bind_some]
          have eb : w64 (((P.length + 20 : Nat) : Int) + 20) = (((P ++ M').length + 20 : Nat) : Int) := by rw [cC (by omega) (by omega), List.length_append, hM']; omega
          have ea : ((P.length + 20 : Nat) : Int) = (((P ++ M').length : Nat) : Int) := by rw [List.length_append, hM']
          have el : (P ++ M' ++ S).length = (P ++ (M ++ S)).length := by simp only [List.length_append, hM']; omega
          rw [eb, ea, ← el]
          exact hy
      · have hlt : decide (((P.length + 20 : Nat) : Int) ≤ ((P ++ R).length : Int)) = false := decide_eq_false (by simp only [List.length_append]; omega)
        obtain ⟨M', p1, s1, hr⟩ := aEy hc P R [] (fun y hy => hok y (by simp [hy])) (by simp only [List.length_append]; omega)
        have hM' : M'.length = R.length := p1.length_eq
        simp only [List.append_nil] at hr
        have hl : (P ++ M').length = (P ++ R).length := by rw [List.length_append, List.length_append, hM']
        obtain ⟨ys, p2, s2, hy⟩ := bCj hc _ (P ++ M') 20 BIG rfl (cL (by simp only [List.length_append]; omega)) (by omega) (by omega) (yE (c := c) (by omega) hP hPb s1 (by omega)) (fun y hy => by
          rcases List.mem_append.1 hy with h | h
          · exact hok y (by simp [h])
          · exact hok y (by simp [p1.mem_iff.1 h])) (by simp only [List.length_append]; omega)
        refine ⟨ys, p2.trans (List.Perm.append_left _ p1), s2, ?_⟩
        simp only [eM, hlt, cond_false, lX]
        rw [hr, Option.bind_some, ← hl]
        exact hy
  obtain ⟨ys, p, s, h⟩ := main xs.length [] xs BIG 0 rfl (cL (by omega)) (by simp) (fun i j _ hj => by simp at hj) (by simpa using hok) (by simpa using hb)
  refine ⟨ys, by simpa using p, s, ?_⟩
  unfold iI kF
  simp only [List.nil_append, List.length_nil, Nat.zero_add] at h
  have e0 : ((0 : Nat) : Int) = 0 := rfl
  have e20 : ((20 : Nat) : Int) = 20 := rfl
  rw [e0, e20] at h
  rw [h]; rfl
end stable
end Go.Am

end
section
namespace Go.Am

/-- What is left of a row when equal neighbours are one. -/
def uS (p : aG) : List aG → List aG
  | [] => []
  | y :: t => if y = p then uS p t else y :: uS y t
def tQ : List aG → List aG
  | [] => []
  | x :: t => x :: uS x t
theorem aUh (again : Int → List aG → Option (List aG)) {k0 : Nat} : ∀ (t : List aG) (p : aG) (W X : List aG) (k2 k : Nat), 1 ≤ k2 → W.length + X.length + 1 = k0 + k2 → k0 ≤ W.length → (W ++ X ++ p :: t).length < 4611686018427387904 → t.length < k →
    fF again (k0 : Nat) k (W.length : Nat) (k2 : Nat) (W ++ X ++ p :: t) = some (W ++ uS p t) := by
  intro t
  induction t with
  | nil =>
    intro p W X k2 k h1 h2 h3 hb hk
    obtain ⟨k, rfl⟩ : ∃ q, k = q + 1 := ⟨k - 1, by omega⟩
    simp only [List.length_append, List.length_cons, List.length_nil] at hb
    have t0 : ((k0 : Nat) : Int).toNat = k0 := rfl
    have t1 : ((W.length : Nat) : Int).toNat = W.length := rfl
    have hlt : decide ((k2 : Int) < (((W ++ X ++ [p]).drop k0).length : Int)) = false := decide_eq_false (by simp; omega)
    have c1 : (decide ((0 : Int) ≤ (W.length : Int)) && decide ((W.length : Int) ≤ ((W ++ X ++ [p]).length : Int))) = true := by simp; omega
    have c2 : decide (W.length ≤ (W ++ X ++ [p]).length) = true := by simp
    have c3 : decide ((0 : Int) ≤ (W.length : Int)) = true := by simp
    simp only [fF, t0, hlt, cond_false, pN]
    rw [c1, t1, c2, c3]
    simp [chk, uS]
  | cons y t ih =>
    intro p W X k2 k h1 h2 h3 hb hk
    obtain ⟨k, rfl⟩ : ∃ q, k = q + 1 := ⟨k - 1, by omega⟩
    simp only [List.length_append, List.length_cons] at hb hk
    have t0 : ((k0 : Nat) : Int).toNat = k0 := rfl
    have t1 : ((W.length : Nat) : Int).toNat = W.length := rfl
    have hlt : decide ((k2 : Int) < (((W ++ X ++ p :: y :: t).drop k0).length : Int)) = true := decide_eq_true (by simp; omega)
    have ed : (W ++ X ++ p :: y :: t).drop k0 = (W ++ X).drop k0 ++ p :: y :: t := by rw [List.drop_append_of_le_length (by simp; omega)]
    have hdl : ((W ++ X).drop k0).length = k2 - 1 := by simp; omega
    have i1 : idx ((W ++ X ++ p :: y :: t).drop k0) (k2 : Nat) = some y := by rw [ed]; exact vL (by rw [hdl]; omega)
    have i2 : idx ((W ++ X ++ p :: y :: t).drop k0) (w64 ((k2 : Int) - 1)) = some p := by rw [aHa (by omega) (by omega), ed]; exact pA (by rw [hdl])
    simp only [fF, t0, hlt, cond_true, i1, i2, Option.bind_some, bM (show k2 < 9223372036854775807 by omega)]
    by_cases hyp : y = p
    · subst hyp
      have := ih y W (X ++ [y]) (k2 + 1) k (by omega) (by simp; omega) h3 (by simp only [List.length_append, List.length_cons, List.length_nil]; omega) (by omega)
      have e1 : W ++ (X ++ [y]) ++ y :: t = W ++ X ++ y :: y :: t := by simp
      rw [e1] at this
      rw [decide_eq_true rfl, Bool.not_true, cond_false, this]
      simp [uS]
    · have hd : (!decide (y = p)) = true := by rw [decide_eq_false hyp]; rfl
      have i3 : ∃ z, idx (W ++ X ++ p :: y :: t) (W.length : Nat) = some z := ⟨_, bY (by simp; omega)⟩
      obtain ⟨z, i3⟩ := i3
      rw [hd, cond_true, i3, Option.bind_some, t1, bM (by omega)]
      obtain ⟨X', e2⟩ : ∃ X', (W ++ X ++ p :: y :: t).set W.length y = (W ++ [y]) ++ X' ++ y :: t ∧ X'.length = X.length := by
        cases X with
        | nil => exact ⟨[], by simp, rfl⟩
        | cons x X => exact ⟨X ++ [p], by simp, by simp⟩
      rw [e2.1]
      have := ih y (W ++ [y]) X' (k2 + 1) k (by omega) (by rw [List.length_append, e2.2]; simp; omega) (by simp; omega) (by simp only [List.length_append, List.length_cons, List.length_nil, e2.2]; omega) (by omega)
      have e3 : (W ++ [y]).length = W.length + 1 := by simp
      rw [e3] at this
      rw [this]
      simp [uS, hyp]
theorem aQc (s : List aG) (hb : s.length < 4611686018427387904) : kS s = some (tQ s) := by
  have main : ∀ (t A : List aG) (p : aG) (k : Nat), t.length < k → (A ++ p :: t).length < 4611686018427387904 → dT k ((A.length + 1 : Nat) : Int) (A ++ p :: t) = some (A ++ p :: uS p t) := by
    intro t
    induction t with
    | nil =>
      intro A p k hk hb
      obtain ⟨k, rfl⟩ : ∃ q, k = q + 1 := ⟨k - 1, by omega⟩
      have hlt : decide (((A.length + 1 : Nat) : Int) < ((A ++ [p]).length : Int)) = false := decide_eq_false (by simp)
      simp only [dT, hlt, cond_false, pL, uS]
    | cons y t ih =>
      intro A p k hk hb
      obtain ⟨k, rfl⟩ : ∃ q, k = q + 1 := ⟨k - 1, by omega⟩
      simp only [List.length_append, List.length_cons] at hb hk
      have hlt : decide (((A.length + 1 : Nat) : Int) < ((A ++ p :: y :: t).length : Int)) = true := decide_eq_true (by simp; omega)
      have i2 : w64 (((A.length + 1 : Nat) : Int) - 1) = (A.length : Int) := by rw [cC (by omega) (by omega)]; omega
      simp only [dT, hlt, cond_true, vL rfl, i2, pA rfl, Option.bind_some]
      by_cases hyp : y = p
      · subst hyp
        have c1 : (decide ((0 : Int) ≤ ((A.length + 1 : Nat) : Int)) && decide (((A.length + 1 : Nat) : Int) ≤ ((A ++ y :: y :: t).length : Int))) = true := by simp; omega
        rw [decide_eq_true rfl, cond_true, c1]
        simp only [chk, cond_true, Option.bind_some]
        have := aUh (dT k) (k0 := A.length + 1) t y (A ++ [y]) [] 1 BIG (Nat.le_refl _) (by simp) (by simp) (by simp only [List.length_append, List.length_cons, List.length_nil]; omega) (cL (by omega))
        have e3 : (A ++ [y]).length = A.length + 1 := by simp
        have e4 : A ++ [y] ++ [] ++ y :: t = A ++ y :: y :: t := by simp
        rw [e3, e4] at this
        have e5 : ((1 : Nat) : Int) = 1 := rfl
        rw [e5] at this
        rw [this]
        simp [uS]
      · rw [decide_eq_false hyp, cond_false]
        unfold pM
        rw [bM (by omega)]
        have := ih (A ++ [p]) y k (by omega) (by simp only [List.length_append, List.length_cons, List.length_nil]; omega)
        have e3 : (A ++ [p]).length = A.length + 1 := by simp
        have e4 : A ++ [p] ++ y :: t = A ++ p :: y :: t := by simp
        rw [e3, e4] at this
        rw [this]
        simp [uS, hyp]
  unfold kS
  match s, hb with
  | [], _ => simp [tQ]
  | x :: t, hb =>
    by_cases ht : t = []
    · subst ht; simp [tQ, uS]
    · have hl : 0 < t.length := List.length_pos_iff.2 ht
      have hd : decide (((x :: t).length : Int) < 2) = false := decide_eq_false (by simp; omega)
      rw [hd, cond_false]
      have := main t [] x BIG (cL (by simp at hb; omega)) (by simpa using hb)
      simp only [List.length_nil, List.nil_append, Nat.zero_add] at this
      have e5 : ((1 : Nat) : Int) = 1 := rfl
      rw [e5] at this
      rw [this]; rfl
theorem aYr (p x : aG) (t : List aG) : (x = p ∨ x ∈ uS p t) ↔ (x = p ∨ x ∈ t) := by
  induction t generalizing p with
  | nil => rfl
  | cons y t ih =>
    simp only [uS, List.mem_cons]
    by_cases h : y = p
    · subst h
      rw [if_pos rfl]
      have := ih y
      constructor
      · rintro (h | h)
        · exact .inl h
        · rcases this.1 (.inr h) with h | h
          · exact .inl h
          · exact .inr (.inr h)
      · rintro (h | h | h)
        · exact .inl h
        · exact .inl h
        · exact this.2 (.inr h)
    · rw [if_neg h, List.mem_cons]
      have := ih y
      constructor
      · rintro (h | h)
        · exact .inl h
        · exact .inr (this.1 h)
      · rintro (h | h)
        · exact .inl h
        · exact .inr (this.2 h)
theorem aSd (x : aG) (s : List aG) : x ∈ tQ s ↔ x ∈ s := by
  cases s with
  | nil => rfl
  | cons p t => simp only [tQ, List.mem_cons]; exact aYr p x t
theorem aYs (p : aG) (t : List aG) : (uS p t).Sublist t := by
  induction t generalizing p with
  | nil => exact .slnil
  | cons y t ih =>
    simp only [uS]
    split
    · exact (ih p).cons _
    · exact (ih y).cons_cons _
/-- In a weakly ordered row without a clash, what is left is strictly ordered. -/
theorem aSk (p : aG) (t : List aG) (hs : (p :: t).Pairwise fun x y => x.Id ≤ y.Id) (hcl : ∀ x ∈ p :: t, ∀ y ∈ p :: t, x.Id = y.Id → x = y) : (p :: uS p t).Pairwise fun x y => x.Id < y.Id := by
  induction t generalizing p with
  | nil => exact List.pairwise_singleton _ _
  | cons y t ih =>
    have h1 := List.pairwise_cons.1 hs
    have h2 := List.pairwise_cons.1 h1.2
    simp only [uS]
    by_cases h : y = p
    · subst h
      rw [if_pos rfl]
      exact ih y h1.2 (fun a ha b hb => hcl a (List.mem_cons_of_mem _ ha) b (List.mem_cons_of_mem _ hb))
    · rw [if_neg h]
      have h3 := ih y h1.2 (fun a ha b hb => hcl a (List.mem_cons_of_mem _ ha) b (List.mem_cons_of_mem _ hb))
      refine List.pairwise_cons.2 ⟨fun z hz => ?_, h3⟩
      have hpy : p.Id < y.Id := by
        have := h1.1 y (by simp)
        rcases Int.lt_or_eq_of_le this with h4 | h4
        · exact h4
        · exact absurd (hcl p (by simp) y (by simp) h4).symm h
      rcases List.mem_cons.1 hz with rfl | hz
      · exact hpy
      · exact Int.lt_trans hpy ((List.pairwise_cons.1 h3).1 z hz)
theorem xB {α : Type} {key : α → Int} : ∀ {xs ys : List α}, xs.Pairwise (fun x y => key x < key y) → ys.Pairwise (fun x y => key x < key y) → (∀ x, x ∈ xs ↔ x ∈ ys) → xs = ys
  | [], [], _, _, _ => rfl
  | [], y :: ys, _, _, h => by have := (h y).2 (by simp); simp at this
  | x :: xs, [], _, _, h => by have := (h x).1 (by simp); simp at this
  | x :: xs, y :: ys, h1, h2, h => by
    have a1 := List.pairwise_cons.1 h1
    have a2 := List.pairwise_cons.1 h2
    have hxy : x = y := by
      rcases List.mem_cons.1 ((h x).1 (by simp)) with e | e
      · exact e
      · rcases List.mem_cons.1 ((h y).2 (by simp)) with e2 | e2
        · exact e2.symm
        · have := a2.1 x e; have := a1.1 y e2; omega
    subst hxy
    have := xB a1.2 a2.2 fun z => by
      have hz := h z
      simp only [List.mem_cons] at hz
      constructor
      · intro hm
        rcases hz.1 (.inr hm) with e | e
        · have := a1.1 z hm; rw [e] at this; omega
        · exact e
      · intro hm
        rcases hz.2 (.inr hm) with e | e
        · have := a2.1 z hm; rw [e] at this; omega
        · exact e
    rw [this]

/-- The order of the Ids. -/
theorem bBz : vX (fun x y => sX x y) (fun x => 0 ≤ x.Id ∧ x.Id ≤ 99) (fun x y => x.Id ≤ y.Id) where
  run x y hx hy := ⟨x.Id - y.Id, by unfold sX; rw [cC (by omega) (by omega)], by omega⟩
  tot x y _ _ := by omega
  tr x y z _ _ _ h1 h2 := by omega
def aEs (xs : List aG) : Prop := ∃ x ∈ xs, ∃ y ∈ xs, x.Id = y.Id ∧ x ≠ y
theorem aWt (zs : List aG) (hb : zs.length < 4611686018427387904) : ∀ (d i k : Nat), zs.length - i = d → d < k → 1 ≤ i →
    (∃ j, i ≤ j ∧ ∃ (h : j < zs.length), (zs[j]).Id = (zs[j - 1]'(by omega)).Id ∧ zs[j] ≠ zs[j - 1]'(by omega)) ∧ lO zs k (i : Nat) = some ([], false) ∨
    (∀ j, i ≤ j → ∀ (h : j < zs.length), (zs[j]).Id = (zs[j - 1]'(by omega)).Id → zs[j] = zs[j - 1]'(by omega)) ∧ lO zs k (i : Nat) = some (tQ zs, true) := by
  intro d
  induction d with
  | zero =>
    intro i k hd hk hi
    obtain ⟨k, rfl⟩ : ∃ q, k = q + 1 := ⟨k - 1, by omega⟩
    have hlt : decide ((i : Int) < (zs.length : Int)) = false := decide_eq_false (by omega)
    refine .inr ⟨fun j hj h => by omega, ?_⟩
    rw [lO, hlt, cond_false]
    unfold aAy
    rw [aQc zs hb, Option.bind_some]
  | succ d ih =>
    intro i k hd hk hi
    obtain ⟨k, rfl⟩ : ∃ q, k = q + 1 := ⟨k - 1, by omega⟩
    have hil : i < zs.length := by omega
    have hlt : decide ((i : Int) < (zs.length : Int)) = true := decide_eq_true (by omega)
    have hp : w64 ((i : Int) - 1) = ((i - 1 : Nat) : Int) := aHa (by omega) (by omega)
    have hi1 : idx zs ((i - 1 : Nat) : Int) = some (zs[i - 1]'(by omega)) := bY (by omega)
    rw [lO, hlt, cond_true, bY hil, Option.bind_some, hp, hi1, Option.bind_some, Option.bind_some, Option.bind_some, dY, Option.bind_some]
    by_cases hc : (zs[i]).Id = (zs[i - 1]'(by omega)).Id ∧ zs[i] ≠ zs[i - 1]'(by omega)
    · left
      rw [decide_eq_true hc.1, decide_eq_false hc.2]
      exact ⟨⟨i, Nat.le_refl _, hil, hc⟩, rfl⟩
    · have hcf : (decide ((zs[i]).Id = (zs[i - 1]'(by omega)).Id) && !decide (zs[i] = zs[i - 1]'(by omega))) = false := by
        rw [Bool.eq_false_iff]; intro hn
        simp only [Bool.and_eq_true, decide_eq_true_eq, Bool.not_eq_true', decide_eq_false_iff_not] at hn
        exact hc hn
      rw [hcf, cond_false, bM (by omega)]
      rcases ih (i + 1) k (by omega) (by omega) (by omega) with ⟨⟨j, h1, h2⟩, h3⟩ | ⟨h1, h2⟩
      · exact .inl ⟨⟨j, by omega, h2⟩, h3⟩
      · refine .inr ⟨fun j hj h he => ?_, h2⟩
        rcases Nat.eq_or_lt_of_le hj with rfl | hj
        · exact Classical.byContradiction fun hne => hc ⟨he, hne⟩
        · exact h1 j hj h he
theorem aOq (xs : List aG) (hid : ∀ x ∈ xs, 0 ≤ x.Id ∧ x.Id ≤ 99) (hb : xs.length ≤ 1000000) :
    (aEs xs ∧ oF xs = some ([], false)) ∨ (¬ aEs xs ∧ ∃ zs, oF xs = some (zs, true) ∧ zs.Pairwise (fun x y => x.Id < y.Id) ∧ (∀ x, x ∈ zs ↔ x ∈ xs) ∧ zs.length ≤ xs.length) := by
  obtain ⟨ys, hp, hs, hr⟩ := aTf bBz xs hid (by omega)
  have hyl : ys.length = xs.length := hp.length_eq
  have hcl : mK xs = some xs := by
    unfold mK
    rw [eJ (by simp; omega)]; rfl
  have e : oF xs = lO ys BIG 1 := by
    unfold oF
    rw [hcl, Option.bind_some, hr, Option.bind_some]
  have e1 : ((1 : Nat) : Int) = 1 := rfl
  rw [e]
  rcases aWt ys (by omega) _ 1 BIG rfl (cL (by omega)) (Nat.le_refl _) with ⟨⟨j, h1, h2, h3, h3'⟩, h4⟩ | ⟨h1, h2⟩
  · exact .inl ⟨⟨_, hp.mem_iff.1 (List.getElem_mem h2), _, hp.mem_iff.1 (List.getElem_mem (show j - 1 < ys.length by omega)), h3, h3'⟩, by rw [← e1]; exact h4⟩
  · right
    -- equal Ids stand together, and are equal
    have heq : ∀ (n i : Nat) (h : i + n < ys.length), (ys[i + n]).Id = (ys[i]'(by omega)).Id → ys[i + n] = ys[i]'(by omega) := by
      intro n
      induction n with
      | zero => intro i h _; rfl
      | succ n ih =>
        intro i h he
        have a1 := List.pairwise_iff_getElem.1 hs
        have b1 : (ys[i]'(by omega)).Id ≤ (ys[i + n]'(by omega)).Id := by
          rcases Nat.eq_zero_or_pos n with rfl | hn
          · exact Int.le_refl _
          · exact a1 i (i + n) (by omega) (by omega) (by omega)
        have b2 : (ys[i + n]'(by omega)).Id ≤ (ys[i + (n + 1)]).Id := a1 (i + n) (i + (n + 1)) (by omega) h (by omega)
        have b3 : (ys[i + n]'(by omega)).Id = (ys[i]'(by omega)).Id := by omega
        have b4 := ih i (by omega) b3
        have b5 := h1 (i + (n + 1)) (by omega) h (by
          show (ys[i + (n + 1)]).Id = (ys[i + n]'(by omega)).Id
          omega)
        rw [← b4]; exact b5
    have hcl2 : ∀ x ∈ ys, ∀ y ∈ ys, x.Id = y.Id → x = y := by
      intro x hx y hy hxy
      obtain ⟨i, hi, rfl⟩ := List.getElem_of_mem hx
      obtain ⟨j, hj, rfl⟩ := List.getElem_of_mem hy
      rcases Nat.le_total i j with h | h
      · obtain ⟨n, rfl⟩ : ∃ n, j = i + n := ⟨j - i, by omega⟩
        exact (heq n i hj hxy.symm).symm
      · obtain ⟨n, rfl⟩ : ∃ n, i = j + n := ⟨i - j, by omega⟩
        exact heq n j hi hxy
    refine ⟨fun ⟨x, hx, y, hy, h3, h4⟩ => h4 (hcl2 x (hp.mem_iff.2 hx) y (hp.mem_iff.2 hy) h3), tQ ys, by rw [← e1]; exact h2, ?_, fun x => (aSd x ys).trans hp.mem_iff, ?_⟩
    · cases ys with
      | nil => exact .nil
      | cons p t => exact aSk p t hs hcl2
    · cases ys with
      | nil => simp [tQ]
      | cons p t => simp only [tQ, List.length_cons] at hyl ⊢; have := (aYs p t).length_le; omega
end Go.Am

end
section
namespace Go.Am

theorem tG {α S T : Type} (F : Nat → Int → S → T) (l : List α) (f : S → α → S) (K : S → T) (s0 : S) (h1 : ∀ k i (hi : i < l.length) s, s = (l.take i).foldl f s0 → F (k + 1) (i : Nat) s = F k ((i + 1 : Nat) : Int) (f s l[i])) (h2 : ∀ k s, F (k + 1) (l.length : Nat) s = K s) :
    ∀ k, l.length < k → F k 0 s0 = K (l.foldl f s0) := by
  intro k hk
  have := nX F l.length (fun i s => K ((l.drop i).foldl f s)) (fun i s => s = (l.take i).foldl f s0) (fun k i s hi hI ih => by
    rw [h1 k i hi s hI, ih _ (by rw [List.take_succ_eq_append_getElem hi, List.foldl_append, ← hI]; rfl), List.drop_eq_getElem_cons hi]; rfl)
    (fun k s _ => by rw [h2]; simp) k s0 hk (by simp)
  simpa using this
theorem aLj {α β : Type} (f : α → β) : ∀ (t : List α) (s : List β), t.foldl (fun s r => s ++ [f r]) s = s ++ t.map f
  | [], s => by simp
  | x :: t, s => by rw [List.foldl_cons, aLj f t]; simp
/-- A loop that asks all of a row. -/
theorem qV {α T : Type} (F : Nat → Int → T) (l : List α) (p : α → Bool) (bad K : T) (h1 : ∀ k i (hi : i < l.length), F (k + 1) (i : Nat) = bif p l[i] then F k ((i + 1 : Nat) : Int) else bad) (h2 : ∀ k, F (k + 1) (l.length : Nat) = K) (hb : l.length ≤ 1000000) :
    F BIG 0 = bif l.all p then K else bad := by
  have key : ∀ (d i k : Nat), l.length - i = d → d < k → i ≤ l.length → F k (i : Nat) = bif (l.drop i).all p then K else bad := by
    intro d
    induction d with
    | zero =>
      intro i k hd hk hi
      obtain ⟨k, rfl⟩ : ∃ q, k = q + 1 := ⟨k - 1, by omega⟩
      have : i = l.length := by omega
      subst this
      rw [h2, List.drop_length]; rfl
    | succ d ih =>
      intro i k hd hk hi
      obtain ⟨k, rfl⟩ : ∃ q, k = q + 1 := ⟨k - 1, by omega⟩
      have hil : i < l.length := by omega
      rw [h1 k i hil, List.drop_eq_getElem_cons hil, List.all_cons]
      cases p l[i] with
      | true => rw [cond_true, Bool.true_and]; exact ih (i + 1) k (by omega) (by omega) (by omega)
      | false => rw [cond_false, Bool.false_and, cond_false]
  exact key l.length 0 BIG rfl (cL (by omega)) (Nat.zero_le _)
def atB {α : Type} (l : List α) (p : List α → α → Bool) (i : Nat) : Bool := match l[i]? with | some x => p (l.take i) x | none => true
theorem aLw {α : Type} {l : List α} {p : List α → α → Bool} {i : Nat} (hi : i < l.length) : atB l p i = p (l.take i) l[i] := by unfold atB; rw [List.getElem?_eq_getElem hi]
def qB {α : Type} (l : List α) (p : List α → α → Bool) : Bool := (List.range l.length).all (atB l p)
/-- A loop that asks each of a row, with those before it. -/
theorem vP {α T : Type} (F : Nat → Int → T) (l : List α) (p : List α → α → Bool) (bad K : T) (h1 : ∀ k i (hi : i < l.length), F (k + 1) (i : Nat) = bif p (l.take i) l[i] then F k ((i + 1 : Nat) : Int) else bad) (h2 : ∀ k, F (k + 1) (l.length : Nat) = K) (hb : l.length ≤ 1000000) :
    F BIG 0 = bif qB l p then K else bad := by
  refine (aCm F l.length (atB l p) bad K (fun k i hi => ?_) h2 BIG (cL (by omega)))
  rw [h1 k i hi, aLw hi]
theorem aFe {α : Type} (l : List α) (p : List α → α → Bool) (Q : α → Prop) (R : α → α → Prop) (h : ∀ pre x, p pre x = true ↔ Q x ∧ ∀ y ∈ pre, R y x) : qB l p = true ↔ (∀ x ∈ l, Q x) ∧ l.Pairwise R := by
  unfold qB
  rw [List.all_eq_true]
  constructor
  · intro ha
    have key : ∀ (i : Nat) (hi : i < l.length), Q l[i] ∧ ∀ y ∈ l.take i, R y l[i] := fun i hi => by
      have := ha i (List.mem_range.2 hi)
      rw [aLw hi] at this
      exact (h _ _).1 this
    refine ⟨fun x hx => ?_, List.pairwise_iff_getElem.2 fun i j hi hj hij => ?_⟩
    · obtain ⟨i, hi, rfl⟩ := List.getElem_of_mem hx
      exact (key i hi).1
    · exact (key j hj).2 _ (List.mem_take_iff_getElem.2 ⟨i, by omega, rfl⟩)
  · rintro ⟨h1, h2⟩ i hi
    have hi' := List.mem_range.1 hi
    rw [aLw hi']
    refine (h _ _).2 ⟨h1 _ (List.getElem_mem hi'), fun y hy => ?_⟩
    obtain ⟨j, hj, rfl⟩ := List.mem_take_iff_getElem.1 hy
    exact List.pairwise_iff_getElem.1 h2 j i (by omega) hi' (by omega)
theorem zQ (n a b : Int) : gY n a b = some (decide (a ≤ n) && decide (n ≤ b)) := by unfold gY; rw [dY, Option.bind_some]
theorem wH (n a b : Int) : eD n a b = some (decide (a ≤ n) && decide (n ≤ b)) := by unfold eD; rw [dY, Option.bind_some]

/-- The persons of a team. -/
def kB (t : bE) : List Int := if t.Two = -1 then [t.One] else [t.One, t.Two]
def dF (p : aM) : List Int := p.Teams.flatMap kB
theorem wF (l : List bE) : (l.flatMap kB).length ≤ 2 * l.length := by
  induction l with
  | nil => simp
  | cons t l ih =>
    rw [List.flatMap_cons, List.length_append, List.length_cons]
    have : (kB t).length ≤ 2 := by unfold kB; split <;> simp
    omega
theorem aId {α β : Type} (g : α → List β) : ∀ (l : List α) (s : List β), l.foldl (fun s x => s ++ g x) s = s ++ l.flatMap g
  | [], s => by simp
  | x :: l, s => by rw [List.foldl_cons, aId g l]; simp
theorem aGg (p : aM) (hb : p.Teams.length ≤ 1000) : pJ p = some (fC (dF p)) := by
  unfold pJ
  have main := tG (fun k i s => kK p.Teams (p.Teams.length : Int) k i s) p.Teams (fun s t => s ++ kB t) (fun s => tW s) [] ?_ ?_ BIG (cL (by omega))
  · refine Eq.trans main ?_
    rw [aId, List.nil_append]
    have := wF p.Teams
    unfold tW slices_Sort_int
    rw [if_pos (by omega)]; rfl
  · intro k i hi s hs
    have hlt : decide ((i : Int) < (p.Teams.length : Int)) = true := decide_eq_true (by omega)
    have hsl : s.length ≤ 2 * i := by
      rw [hs, aId, List.nil_append]
      have := wF (p.Teams.take i)
      rw [List.length_take] at this
      omega
    rw [kK, hlt, cond_true, bY hi, Option.bind_some, eJ (by simp; omega), Option.bind_some]
    unfold kB
    by_cases h2 : p.Teams[i].Two = -1
    · rw [decide_eq_true h2, if_pos h2, Bool.not_true, cond_false, bM (by omega)]
    · rw [decide_eq_false h2, if_neg h2, Bool.not_false, cond_true, eJ (by simp; omega), Option.bind_some, bM (by omega), List.append_assoc]; rfl
  · intro k s
    have hlt : decide ((p.Teams.length : Int) < (p.Teams.length : Int)) = false := decide_eq_false (by omega)
    rw [kK, hlt, cond_false]
theorem aMy (p : aM) (n : Int) : n ∈ fC (dF p) ↔ ∃ t ∈ p.Teams, t.One = n ∨ (t.Two = n ∧ t.Two ≠ -1) := by
  rw [(mU (dF p)).mem_iff]
  unfold dF
  rw [List.mem_flatMap]
  constructor
  · rintro ⟨t, ht, hn⟩
    refine ⟨t, ht, ?_⟩
    unfold kB at hn
    split at hn
    · simp at hn; exact .inl hn.symm
    · rename_i h2
      simp at hn
      rcases hn with rfl | rfl
      · exact .inl rfl
      · exact .inr ⟨rfl, h2⟩
  · rintro ⟨t, ht, hn⟩
    refine ⟨t, ht, ?_⟩
    unfold kB
    split
    · rename_i h2
      rcases hn with rfl | ⟨_, h3⟩
      · simp
      · exact absurd h2 h3
    · rcases hn with rfl | ⟨rfl, _⟩ <;> simp
end Go.Am

end
section
namespace Go.Am

/-- What is left of a row when equal neighbours are one. -/
def rT (p : Int) : List Int → List Int
  | [] => []
  | y :: t => if y = p then rT p t else y :: rT y t
def aAf : List Int → List Int
  | [] => []
  | x :: t => x :: rT x t
theorem aSc (again : Int → List Int → Option (List Int)) {k0 : Nat} : ∀ (t : List Int) (p : Int) (W X : List Int) (k2 k : Nat), 1 ≤ k2 → W.length + X.length + 1 = k0 + k2 → k0 ≤ W.length → (W ++ X ++ p :: t).length < 4611686018427387904 → t.length < k →
    iB again (k0 : Nat) k (W.length : Nat) (k2 : Nat) (W ++ X ++ p :: t) = some (W ++ rT p t) := by
  intro t
  induction t with
  | nil =>
    intro p W X k2 k h1 h2 h3 hb hk
    obtain ⟨k, rfl⟩ : ∃ q, k = q + 1 := ⟨k - 1, by omega⟩
    simp only [List.length_append, List.length_cons, List.length_nil] at hb
    have t0 : ((k0 : Nat) : Int).toNat = k0 := rfl
    have t1 : ((W.length : Nat) : Int).toNat = W.length := rfl
    have hlt : decide ((k2 : Int) < (((W ++ X ++ [p]).drop k0).length : Int)) = false := decide_eq_false (by simp; omega)
    have c1 : (decide ((0 : Int) ≤ (W.length : Int)) && decide ((W.length : Int) ≤ ((W ++ X ++ [p]).length : Int))) = true := by simp; omega
    have c2 : decide (W.length ≤ (W ++ X ++ [p]).length) = true := by simp
    have c3 : decide ((0 : Int) ≤ (W.length : Int)) = true := by simp
    simp only [iB, t0, hlt, cond_false, tC]
    rw [c1, t1, c2, c3]
    simp [chk, rT]
  | cons y t ih =>
    intro p W X k2 k h1 h2 h3 hb hk
    obtain ⟨k, rfl⟩ : ∃ q, k = q + 1 := ⟨k - 1, by omega⟩
    simp only [List.length_append, List.length_cons] at hb hk
    have t0 : ((k0 : Nat) : Int).toNat = k0 := rfl
    have t1 : ((W.length : Nat) : Int).toNat = W.length := rfl
    have hlt : decide ((k2 : Int) < (((W ++ X ++ p :: y :: t).drop k0).length : Int)) = true := decide_eq_true (by simp; omega)
    have ed : (W ++ X ++ p :: y :: t).drop k0 = (W ++ X).drop k0 ++ p :: y :: t := by rw [List.drop_append_of_le_length (by simp; omega)]
    have hdl : ((W ++ X).drop k0).length = k2 - 1 := by simp; omega
    have i1 : idx ((W ++ X ++ p :: y :: t).drop k0) (k2 : Nat) = some y := by rw [ed]; exact vL (by rw [hdl]; omega)
    have i2 : idx ((W ++ X ++ p :: y :: t).drop k0) (w64 ((k2 : Int) - 1)) = some p := by rw [aHa (by omega) (by omega), ed]; exact pA (by rw [hdl])
    simp only [iB, t0, hlt, cond_true, i1, i2, Option.bind_some, bM (show k2 < 9223372036854775807 by omega)]
    by_cases hyp : y = p
    · subst hyp
      have := ih y W (X ++ [y]) (k2 + 1) k (by omega) (by simp; omega) h3 (by simp only [List.length_append, List.length_cons, List.length_nil]; omega) (by omega)
      have e1 : W ++ (X ++ [y]) ++ y :: t = W ++ X ++ y :: y :: t := by simp
      rw [e1] at this
      rw [decide_eq_true rfl, Bool.not_true, cond_false, this]
      simp [rT]
    · have hd : (!decide (y = p)) = true := by rw [decide_eq_false hyp]; rfl
      have i3 : ∃ z, idx (W ++ X ++ p :: y :: t) (W.length : Nat) = some z := ⟨_, bY (by simp; omega)⟩
      obtain ⟨z, i3⟩ := i3
      rw [hd, cond_true, i3, Option.bind_some, t1, bM (by omega)]
      obtain ⟨X', e2⟩ : ∃ X', (W ++ X ++ p :: y :: t).set W.length y = (W ++ [y]) ++ X' ++ y :: t ∧ X'.length = X.length := by
        cases X with
        | nil => exact ⟨[], by simp, rfl⟩
        | cons x X => exact ⟨X ++ [p], by simp, by simp⟩
      rw [e2.1]
      have := ih y (W ++ [y]) X' (k2 + 1) k (by omega) (by rw [List.length_append, e2.2]; simp; omega) (by simp; omega) (by simp only [List.length_append, List.length_cons, List.length_nil, e2.2]; omega) (by omega)
      have e3 : (W ++ [y]).length = W.length + 1 := by simp
      rw [e3] at this
      rw [this]
      simp [rT, hyp]
theorem aOz (s : List Int) (hb : s.length < 4611686018427387904) : slices_Compact_int s = some (aAf s) := by
  have main : ∀ (t A : List Int) (p : Int) (k : Nat), t.length < k → (A ++ p :: t).length < 4611686018427387904 → fH k ((A.length + 1 : Nat) : Int) (A ++ p :: t) = some (A ++ p :: rT p t) := by
    intro t
    induction t with
    | nil =>
      intro A p k hk hb
      obtain ⟨k, rfl⟩ : ∃ q, k = q + 1 := ⟨k - 1, by omega⟩
      have hlt : decide (((A.length + 1 : Nat) : Int) < ((A ++ [p]).length : Int)) = false := decide_eq_false (by simp)
      simp only [fH, hlt, cond_false, tA, rT]
    | cons y t ih =>
      intro A p k hk hb
      obtain ⟨k, rfl⟩ : ∃ q, k = q + 1 := ⟨k - 1, by omega⟩
      simp only [List.length_append, List.length_cons] at hb hk
      have hlt : decide (((A.length + 1 : Nat) : Int) < ((A ++ p :: y :: t).length : Int)) = true := decide_eq_true (by simp; omega)
      have i2 : w64 (((A.length + 1 : Nat) : Int) - 1) = (A.length : Int) := by rw [cC (by omega) (by omega)]; omega
      simp only [fH, hlt, cond_true, vL rfl, i2, pA rfl, Option.bind_some]
      by_cases hyp : y = p
      · subst hyp
        have c1 : (decide ((0 : Int) ≤ ((A.length + 1 : Nat) : Int)) && decide (((A.length + 1 : Nat) : Int) ≤ ((A ++ y :: y :: t).length : Int))) = true := by simp; omega
        rw [decide_eq_true rfl, cond_true, c1]
        simp only [chk, cond_true, Option.bind_some]
        have := aSc (fH k) (k0 := A.length + 1) t y (A ++ [y]) [] 1 BIG (Nat.le_refl _) (by simp) (by simp) (by simp only [List.length_append, List.length_cons, List.length_nil]; omega) (cL (by omega))
        have e3 : (A ++ [y]).length = A.length + 1 := by simp
        have e4 : A ++ [y] ++ [] ++ y :: t = A ++ y :: y :: t := by simp
        rw [e3, e4] at this
        have e5 : ((1 : Nat) : Int) = 1 := rfl
        rw [e5] at this
        rw [this]
        simp [rT]
      · rw [decide_eq_false hyp, cond_false]
        unfold tB
        rw [bM (by omega)]
        have := ih (A ++ [p]) y k (by omega) (by simp only [List.length_append, List.length_cons, List.length_nil]; omega)
        have e3 : (A ++ [p]).length = A.length + 1 := by simp
        have e4 : A ++ [p] ++ y :: t = A ++ p :: y :: t := by simp
        rw [e3, e4] at this
        rw [this]
        simp [rT, hyp]
  unfold slices_Compact_int
  match s, hb with
  | [], _ => simp [aAf]
  | x :: t, hb =>
    by_cases ht : t = []
    · subst ht; simp [aAf, rT]
    · have hl : 0 < t.length := List.length_pos_iff.2 ht
      have hd : decide (((x :: t).length : Int) < 2) = false := decide_eq_false (by simp; omega)
      rw [hd, cond_false]
      have := main t [] x BIG (cL (by simp at hb; omega)) (by simpa using hb)
      simp only [List.length_nil, List.nil_append, Nat.zero_add] at this
      have e5 : ((1 : Nat) : Int) = 1 := rfl
      rw [e5] at this
      rw [this]; rfl
theorem aWg (p : Int) (t : List Int) : (rT p t).Sublist t := by
  induction t generalizing p with
  | nil => exact .slnil
  | cons y t ih =>
    simp only [rT]
    split
    · exact (ih p).cons _
    · exact (ih y).cons_cons _
/-- In a weakly ordered row without a clash, what is left is strictly ordered. -/
theorem aQn : ∀ (t : List Int) (p : Int), (p :: t).Pairwise (fun x y => x ≤ y) → ((rT p t).length = t.length ↔ (p :: t).Nodup)
  | [], p, _ => by simp [rT]
  | y :: t, p, h => by
    have h1 := List.pairwise_cons.1 h
    have h2 := List.pairwise_cons.1 h1.2
    rw [rT]
    by_cases hy : y = p
    · subst hy
      rw [if_pos rfl]
      have := (aWg y t).length_le
      constructor
      · intro he
        rw [List.length_cons] at he
        omega
      · intro hn
        simp at hn
    · rw [if_neg hy, List.length_cons, List.length_cons, List.nodup_cons]
      have ih := aQn t y h1.2
      have hpy := h1.1 y List.mem_cons_self
      have hnp : p ∉ y :: t := fun hm => by
        rcases List.mem_cons.1 hm with e | e
        · exact hy e.symm
        · have := h2.1 p e; omega
      constructor
      · intro he; exact ⟨hnp, ih.1 (by omega)⟩
      · rintro ⟨_, hn⟩; have := ih.2 hn; omega
theorem aHz (xs : List Int) (hb : xs.length ≤ 100000) : pC (fC xs) = some (decide xs.Nodup) := by
  have hp := mU xs
  have hl := hp.length_eq
  have hs : (fC xs).Pairwise fun x y : Int => x ≤ y := by
    have := List.pairwise_mergeSort (le := fun x y : Int => decide (x ≤ y)) (by intro a b c; simp only [decide_eq_true_eq]; omega) (by intro a b; simp only [Bool.or_eq_true, decide_eq_true_eq]; omega) xs
    exact this.imp fun h => by simpa using h
  have hcl : slices_Clone_int (fC xs) = some (fC xs) := by
    unfold slices_Clone_int
    rw [eJ (by simp; omega)]; rfl
  unfold pC
  rw [hcl, Option.bind_some, aOz _ (by omega), Option.bind_some]
  congr 1
  rw [decide_eq_decide, ← hp.nodup_iff]
  cases hys : fC xs with
  | nil => simp [aAf]
  | cons p t =>
    rw [hys] at hs
    have := aQn t p hs
    rw [← this, aAf, List.length_cons, List.length_cons]
    omega
end Go.Am

end
section
namespace Go.Am

theorem aKw (b : Bool) : (bif b then some true else some false) = some b := by cases b <;> rfl
def wB (n a b : Int) : Bool := decide (a ≤ n) && decide (n ≤ b)
theorem wU {n a b : Int} : wB n a b = true ↔ a ≤ n ∧ n ≤ b := by unfold wB; simp
def mW (t : bE) : Bool := wB t.Player 0 999 && wB t.One 0 999 && wB t.Two (-1) 999
theorem tL {t : bE} : mW t = true ↔ (0 ≤ t.Player ∧ t.Player ≤ 999) ∧ (0 ≤ t.One ∧ t.One ≤ 999) ∧ (-1 ≤ t.Two ∧ t.Two ≤ 999) := by unfold mW; simp [wU, and_assoc]
def dM (p : aM) : List Int := p.Teams.map fun t => t.Player
def mN (p : aM) (n : Int) : Bool := decide (n ∈ dF p)
theorem xX (p : aM) (n : Int) : mN p n = decide (n ∈ fC (dF p)) := by unfold mN; rw [decide_eq_decide]; exact (mU _).mem_iff.symm
/-- The search for a team. -/
def tF (p : aM) (n : Int) : Option bE := p.Teams.find? fun t => decide (t.One = n) || (decide (t.Two = n) && decide (0 ≤ n))
theorem bCq (p : aM) (n : Int) (hb : p.Teams.length ≤ 1000) : rS p n = some (match tF p n with | some t => (t, decide (t.Two = n), true) | none => (⟨0, 0, 0⟩, false, false)) := by
  unfold rS tF
  have key : ∀ (d i k : Nat), p.Teams.length - i = d → d < k → i ≤ p.Teams.length → kI n p k (i : Nat) ⟨0, 0, 0⟩ = some (match (p.Teams.drop i).find? fun t => decide (t.One = n) || (decide (t.Two = n) && decide (0 ≤ n)) with | some t => (t, decide (t.Two = n), true) | none => (⟨0, 0, 0⟩, false, false)) := by
    intro d
    induction d with
    | zero =>
      intro i k hd hk hi
      obtain ⟨k, rfl⟩ : ∃ q, k = q + 1 := ⟨k - 1, by omega⟩
      have : i = p.Teams.length := by omega
      subst this
      have hlt : decide ((p.Teams.length : Int) < (p.Teams.length : Int)) = false := decide_eq_false (by omega)
      rw [kI, hlt, cond_false, List.drop_length]; rfl
    | succ d ih =>
      intro i k hd hk hi
      obtain ⟨k, rfl⟩ : ∃ q, k = q + 1 := ⟨k - 1, by omega⟩
      have hil : i < p.Teams.length := by omega
      have hlt : decide ((i : Int) < (p.Teams.length : Int)) = true := decide_eq_true (by omega)
      rw [kI, hlt, cond_true, bY hil, Option.bind_some, Option.bind_some, dY, Option.bind_some, dP, Option.bind_some, List.drop_eq_getElem_cons hil, List.find?_cons]
      cases (decide (p.Teams[i].One = n) || (decide (p.Teams[i].Two = n) && decide (0 ≤ n))) with
      | true => rw [cond_true, Option.bind_some, Option.bind_some]
      | false => rw [cond_false, bM (by omega)]; exact ih (i + 1) k (by omega) (by omega) (by omega)
  exact key p.Teams.length 0 BIG rfl (cL (by omega)) (Nat.zero_le _)
theorem aTv {p : aM} (ht : ∀ t ∈ p.Teams, mW t = true) (n : Int) : ((tF p n).isSome && decide (0 ≤ n)) = mN p n := by
  rw [xX]
  unfold tF
  rw [Bool.eq_iff_iff, Bool.and_eq_true, decide_eq_true_eq, decide_eq_true_eq, List.find?_isSome, aMy]
  constructor
  · rintro ⟨⟨t, h1, h2⟩, h3⟩
    simp only [Bool.or_eq_true, Bool.and_eq_true, decide_eq_true_eq] at h2
    refine ⟨t, h1, ?_⟩
    rcases h2 with h2 | h2
    · exact .inl h2
    · exact .inr ⟨h2.1, by omega⟩
  · rintro ⟨t, h1, h2⟩
    have := tL.1 (ht t h1)
    simp only [Bool.or_eq_true, Bool.and_eq_true, decide_eq_true_eq]
    rcases h2 with h2 | ⟨h2, h3⟩
    · exact ⟨⟨t, h1, .inl h2⟩, by omega⟩
    · exact ⟨⟨t, h1, .inr ⟨h2, by omega⟩⟩, by omega⟩
theorem aHv {p : aM} (ht : ∀ t ∈ p.Teams, mW t = true) (n : Int) (hb : p.Teams.length ≤ 1000) : jY p n = some (mN p n) := by
  unfold jY
  rw [bCq p n hb, Option.bind_some, ← aTv ht n]
  cases tF p n with
  | none => rfl
  | some t => rfl
theorem aQd (p : aM) (n : Int) (hb : p.Teams.length ≤ 1000) : mG p n = some (decide (n ∈ dM p)) := by
  unfold mG
  have main := qV (fun k i => iV n p k i) p.Teams (fun t => !decide (t.Player = n)) (some true) (some false) (fun k i hi => by
    have hlt : decide ((i : Int) < (p.Teams.length : Int)) = true := decide_eq_true (by omega)
    rw [iV, hlt, cond_true, bY hi, Option.bind_some, bM (by omega)]
    cases decide (p.Teams[i].Player = n) <;> rfl) (fun k => by
    have hlt : decide ((p.Teams.length : Int) < (p.Teams.length : Int)) = false := decide_eq_false (by omega)
    rw [iV, hlt, cond_false]; rfl) (by omega)
  refine Eq.trans main ?_
  have : (p.Teams.all fun t => !decide (t.Player = n)) = !decide (n ∈ dM p) := by
    unfold dM
    rw [Bool.eq_iff_iff, List.all_eq_true, Bool.not_eq_true', decide_eq_false_iff_not, List.mem_map]
    constructor
    · rintro h ⟨t, h1, h2⟩
      have := h t h1
      simp [h2] at this
    · intro h t h1
      simp only [Bool.not_eq_true', decide_eq_false_iff_not]
      exact fun h2 => h ⟨t, h1, h2⟩
  rw [this]
  cases decide (n ∈ dM p) <;> rfl
/-- Levies and rates: each of another person. -/
def aBi (p : aM) (pre : List cA) (x : cA) : Bool := mN p x.Person && wB x.Mille 0 500 && !decide (x.Person ∈ pre.map fun y => y.Person)
def aBk (p : aM) (pre : List bT) (x : bT) : Bool := mN p x.Person && wB x.Num 1 10000 && wB x.Den 1 10000 && !decide (x.Person ∈ pre.map fun y => y.Person)
def nB (p : aM) : Bool := qB p.Levies (aBi p)
def rI (p : aM) : Bool := qB p.Rates (aBk p)
theorem aUr (p : aM) (hb : p.Levies.length ≤ 1000) (ht : p.Teams.length ≤ 1000) : mH (fC (dF p)) p.Levies (fun y => lU y) = some (nB p) := by
  unfold mH nB
  have hpl : (fC (dF p)).length ≤ 2000 := by rw [(mU _).length_eq]; have := wF p.Teams; unfold dF; omega
  have main := vP (fun k i => gW (fC (dF p)) (fun y => lU y) p.Levies (p.Levies.length : Int) k i ((p.Levies.take i.toNat).map fun y => y.Person)) p.Levies (aBi p) (some false) (some true) (fun k i hi => by
    have hlt : decide ((i : Int) < (p.Levies.length : Int)) = true := decide_eq_true (by omega)
    have e1 : lU p.Levies[i] = some (p.Levies[i].Person, wB p.Levies[i].Mille 0 500) := by unfold lU; rw [zQ, Option.bind_some]; rfl
    have ei : ((i : Nat) : Int).toNat = i := rfl
    have ei2 : (((i + 1 : Nat) : Int)).toNat = i + 1 := rfl
    have hml : ((p.Levies.take i).map fun y => y.Person).length ≤ 1000 := by simp; omega
    rw [gW, hlt, cond_true, bY hi, Option.bind_some, e1, Option.bind_some, ei, iX _ (by omega), Option.bind_some, dP, Option.bind_some, iX _ (by omega), Option.bind_some, dP, Option.bind_some, ei2]
    unfold aBi
    rw [xX]
    cases hw : wB p.Levies[i].Mille 0 500 <;> cases hm : decide (p.Levies[i].Person ∈ fC (dF p)) <;> cases hd : decide (p.Levies[i].Person ∈ (p.Levies.take i).map fun y => y.Person) <;> simp only [Bool.not_true, Bool.not_false, Bool.true_or, Bool.or_true, Bool.false_or, Bool.or_false, cond_true, cond_false, Bool.and_true, Bool.and_false, Bool.true_and, Bool.false_and]
    rw [eJ (by rw [List.length_singleton]; omega), Option.bind_some, bM (by omega), List.take_succ_eq_append_getElem hi, List.map_append]; rfl) (fun k => by
    have hlt : decide ((p.Levies.length : Int) < (p.Levies.length : Int)) = false := decide_eq_false (by omega)
    rw [gW, hlt, cond_false]; rfl) (by omega)
  exact main.trans (aKw _)
theorem aXa (p : aM) (hb : p.Rates.length ≤ 1000) (ht : p.Teams.length ≤ 1000) : mI (fC (dF p)) p.Rates (fun y => lV y) = some (rI p) := by
  unfold mI rI
  have hpl : (fC (dF p)).length ≤ 2000 := by rw [(mU _).length_eq]; have := wF p.Teams; unfold dF; omega
  have main := vP (fun k i => gX (fC (dF p)) (fun y => lV y) p.Rates (p.Rates.length : Int) k i ((p.Rates.take i.toNat).map fun y => y.Person)) p.Rates (aBk p) (some false) (some true) (fun k i hi => by
    have hlt : decide ((i : Int) < (p.Rates.length : Int)) = true := decide_eq_true (by omega)
    have e1 : lV p.Rates[i] = some (p.Rates[i].Person, wB p.Rates[i].Num 1 10000 && wB p.Rates[i].Den 1 10000) := by unfold lV; simp only [zQ, Option.bind_some, dY]; rfl
    have ei : ((i : Nat) : Int).toNat = i := rfl
    have ei2 : (((i + 1 : Nat) : Int)).toNat = i + 1 := rfl
    have hml : ((p.Rates.take i).map fun y => y.Person).length ≤ 1000 := by simp; omega
    rw [gX, hlt, cond_true, bY hi, Option.bind_some, e1, Option.bind_some, ei, iX _ (by omega), Option.bind_some, dP, Option.bind_some, iX _ (by omega), Option.bind_some, dP, Option.bind_some, ei2]
    unfold aBk
    rw [xX]
    cases hw : wB p.Rates[i].Num 1 10000 <;> cases hw2 : wB p.Rates[i].Den 1 10000 <;> cases hm : decide (p.Rates[i].Person ∈ fC (dF p)) <;> cases hd : decide (p.Rates[i].Person ∈ (p.Rates.take i).map fun y => y.Person) <;> simp only [Bool.not_true, Bool.not_false, Bool.true_or, Bool.or_true, Bool.false_or, Bool.or_false, cond_true, cond_false, Bool.and_true, Bool.and_false, Bool.true_and, Bool.false_and]
    rw [eJ (by rw [List.length_singleton]; omega), Option.bind_some, bM (by omega), List.take_succ_eq_append_getElem hi, List.map_append]; rfl) (fun k => by
    have hlt : decide ((p.Rates.length : Int) < (p.Rates.length : Int)) = false := decide_eq_false (by omega)
    rw [gX, hlt, cond_false]; rfl) (by omega)
  exact main.trans (aKw _)
end Go.Am

end
section
namespace Go.Am

def yX (p : aM) : Bool := p.Tree.Slots.all fun x => decide (x = -1) || decide (x ∈ dM p)
def vN (p : aM) : Bool := p.Slips.all fun s => !decide (s.Kind = 5) || decide (s.Player ∈ dM p)
/-- Whether teams, levies and rates are as described. -/
def pT (p : aM) : Bool := decide (p.Teams.length ≤ 64) && p.Teams.all mW && decide (dM p).Nodup && decide (dF p).Nodup && yX p && vN p
/-- Sizes that any statement looks at. -/
structure Sz (p : aM) : Prop where
  slots : p.Tree.Slots.length ≤ 1000
  slips : p.Slips.length ≤ 1000
  prizes : p.Prizes.length ≤ 1000
  teams : p.Teams.length ≤ 1000
  levies : p.Levies.length ≤ 1000
  rates : p.Rates.length ≤ 1000
  items : p.Items.length ≤ 1000
section
variable {p : aM} (hz : Sz p)
include hz
theorem bCh : sW p = some (pT p && nB p && rI p) := by
  have h1 := hz.teams
  have hsp := hz.slips
  have hsl := hz.slots
  have hpp : (dF p).length ≤ 2000 := by have := wF p.Teams; unfold dF; omega
  have hpt : (dM p).length = p.Teams.length := by unfold dM; simp
  unfold sW
  by_cases h64 : p.Teams.length ≤ 64
  · rw [decide_eq_false (by omega), cond_false]
    have main := qV (fun k i => kU p.Teams (p.Teams.length : Int) p k i ((p.Teams.take i.toNat).map fun t => t.Player)) p.Teams mW (some false) (pQ p (dM p)) (fun k i hi => by
      have hlt : decide ((i : Int) < (p.Teams.length : Int)) = true := decide_eq_true (by omega)
      have ei : ((i : Nat) : Int).toNat = i := rfl
      have ei2 : (((i + 1 : Nat) : Int)).toNat = i + 1 := rfl
      rw [kU, hlt, cond_true, bY hi, Option.bind_some, zQ, Option.bind_some, zQ, Option.bind_some, dP, Option.bind_some, zQ, Option.bind_some, dP, Option.bind_some, ei, ei2]
      have e : (!(decide (0 ≤ p.Teams[i].Player) && decide (p.Teams[i].Player ≤ 999)) || !(decide (0 ≤ p.Teams[i].One) && decide (p.Teams[i].One ≤ 999)) || !(decide (-1 ≤ p.Teams[i].Two) && decide (p.Teams[i].Two ≤ 999))) = !mW p.Teams[i] := by unfold mW wB; simp only [Bool.not_and, Bool.or_assoc]
      rw [e]
      cases mW p.Teams[i] with
      | true => rw [Bool.not_true, cond_false, cond_true, eJ (by simp; omega), Option.bind_some, bM (by omega), List.take_succ_eq_append_getElem hi, List.map_append]; rfl
      | false => rfl) (fun k => by
      have hlt : decide ((p.Teams.length : Int) < (p.Teams.length : Int)) = false := decide_eq_false (by omega)
      have ei : ((p.Teams.length : Nat) : Int).toNat = p.Teams.length := rfl
      rw [kU, hlt, cond_false, ei, List.take_length]; rfl) (by omega)
    refine Eq.trans main ?_
    have hK4 : pS (fC (dF p)) p = some (nB p && rI p) := by
      unfold pS
      rw [aUr p hz.levies h1, Option.bind_some, aXa p hz.rates h1, Option.bind_some, dY, Option.bind_some]
    have hK2 : pR (fC (dF p)) p (fC (dM p)) = some (vN p && (nB p && rI p)) := by
      unfold pR
      have m := qV (fun k i => kV (fC (dF p)) p.Slips (p.Slips.length : Int) p (fC (dM p)) k i) p.Slips (fun s => !decide (s.Kind = 5) || decide (s.Player ∈ dM p)) (some false) (pS (fC (dF p)) p) (fun k i hi => by
        have hlt : decide ((i : Int) < (p.Slips.length : Int)) = true := decide_eq_true (by omega)
        have hc : decide (p.Slips[i].Player ∈ fC (dM p)) = decide (p.Slips[i].Player ∈ dM p) := by rw [decide_eq_decide]; exact (mU _).mem_iff
        rw [kV, hlt, cond_true, bY hi, Option.bind_some, iX _ (by rw [(mU _).length_eq]; omega), Option.bind_some, dY, Option.bind_some, hc, bM (by omega)]
        cases decide (p.Slips[i].Kind = 5) <;> cases decide (p.Slips[i].Player ∈ dM p) <;> rfl) (fun k => by
        have hlt : decide ((p.Slips.length : Int) < (p.Slips.length : Int)) = false := decide_eq_false (by omega)
        rw [kV, hlt, cond_false]) (by omega)
      refine Eq.trans m ?_
      rw [hK4]
      unfold vN
      cases p.Slips.all _ <;> rfl
    have hK0 : pQ p (dM p) = some (decide (dM p).Nodup && decide (dF p).Nodup && yX p && (vN p && (nB p && rI p))) := by
      unfold pQ slices_Sort_int
      rw [if_pos (by omega), Option.bind_some, aGg p h1, Option.bind_some, aHz _ (by omega), Option.bind_some, aHz _ (by omega), Option.bind_some, dP, Option.bind_some]
      have m := qV (fun k i => jV (fC (dF p)) p.Tree.Slots (p.Tree.Slots.length : Int) p (fC (dM p)) k i) p.Tree.Slots (fun x => decide (x = -1) || decide (x ∈ dM p)) (some false) (pR (fC (dF p)) p (fC (dM p))) (fun k i hi => by
        have hlt : decide ((i : Int) < (p.Tree.Slots.length : Int)) = true := decide_eq_true (by omega)
        have hc : decide (p.Tree.Slots[i] ∈ fC (dM p)) = decide (p.Tree.Slots[i] ∈ dM p) := by rw [decide_eq_decide]; exact (mU _).mem_iff
        rw [jV, hlt, cond_true, bY hi, Option.bind_some, iX _ (by rw [(mU _).length_eq]; omega), Option.bind_some, dY, Option.bind_some, hc, bM (by omega)]
        cases decide (p.Tree.Slots[i] = -1) <;> cases decide (p.Tree.Slots[i] ∈ dM p) <;> rfl) (fun k => by
        have hlt : decide ((p.Tree.Slots.length : Int) < (p.Tree.Slots.length : Int)) = false := decide_eq_false (by omega)
        rw [jV, hlt, cond_false]) (by omega)
      have m' : jV (fC (dF p)) p.Tree.Slots (p.Tree.Slots.length : Int) p (fC (dM p)) BIG 0 = some (yX p && (vN p && (nB p && rI p))) := by
        refine Eq.trans m ?_
        rw [hK2]
        unfold yX
        cases p.Tree.Slots.all _ <;> rfl
      rw [m']
      cases decide (dM p).Nodup <;> cases decide (dF p).Nodup <;> rfl
    rw [hK0]
    unfold pT
    rw [decide_eq_true h64]
    cases p.Teams.all mW <;> simp [Bool.and_assoc]
  · rw [decide_eq_true (by omega), cond_true]
    unfold pT
    rw [decide_eq_false h64]; simp
end
end Go.Am

end
section
namespace Go.Am

/-- Two teams have nobody in common. -/
def aGy (pre : List bE) (t : bE) : Bool := mW t && !decide (t.One = t.Two) && pre.all fun o => !(decide (o.Player = t.Player) || decide (o.One = t.One) || decide (o.Two = t.One) || (decide (0 ≤ t.Two) && (decide (o.One = t.Two) || decide (o.Two = t.Two))))
section
variable {p : aM} (hz : Sz p)
include hz
theorem aZm {i : Nat} (hi : i < p.Teams.length) (again : Int → Option Bool) (t : bE) : gN again (i : Nat) p t BIG 0 = bif (p.Teams.take i).all (fun o => !(decide (o.Player = t.Player) || decide (o.One = t.One) || decide (o.Two = t.One) || (decide (0 ≤ t.Two) && (decide (o.One = t.Two) || decide (o.Two = t.Two))))) then again ((i + 1 : Nat) : Int) else some false := by
  have h1 := hz.teams
  have hl : (p.Teams.take i).length = i := by simp; omega
  refine qV (fun k j => gN again (i : Nat) p t k j) (p.Teams.take i) _ (some false) (again ((i + 1 : Nat) : Int)) (fun k j hj => ?_) (fun k => ?_) (by omega)
  · have hj' : j < i := by omega
    have hlt : decide ((j : Int) < (i : Int)) = true := decide_eq_true (by omega)
    rw [gN, hlt, cond_true, bY (show j < p.Teams.length by omega), Option.bind_some, dP, Option.bind_some, dP, Option.bind_some, dP, Option.bind_some, dY, Option.bind_some, dP, Option.bind_some, bM (by omega), List.getElem_take]
    cases (decide (p.Teams[j].Player = t.Player) || decide (p.Teams[j].One = t.One) || decide (p.Teams[j].Two = t.One) || (decide (0 ≤ t.Two) && (decide (p.Teams[j].One = t.Two) || decide (p.Teams[j].Two = t.Two)))) <;> rfl
  · rw [hl]
    have hlt : decide ((i : Int) < (i : Int)) = false := decide_eq_false (by omega)
    rw [gN, hlt, cond_false]
    unfold sH sG
    rw [bM (by omega)]
theorem bAj : lC p = some (qB p.Teams aGy && (yX p && (vN p && decide (p.Teams.length ≤ 64)))) := by
  have h1 := hz.teams
  have hsp := hz.slips
  have hsl := hz.slots
  unfold lC
  have main := vP (fun k i => gM p k i) p.Teams aGy (some false) (lE p) (fun k i hi => by
    have hlt : decide ((i : Int) < (p.Teams.length : Int)) = true := decide_eq_true (by omega)
    rw [gM, hlt, cond_true, bY hi, Option.bind_some, wH, Option.bind_some, wH, Option.bind_some, dP, Option.bind_some, wH, Option.bind_some, dP, Option.bind_some, dP, Option.bind_some, aZm hz hi]
    have e : (!(decide (0 ≤ p.Teams[i].Player) && decide (p.Teams[i].Player ≤ 999)) || !(decide (0 ≤ p.Teams[i].One) && decide (p.Teams[i].One ≤ 999)) || !(decide (-1 ≤ p.Teams[i].Two) && decide (p.Teams[i].Two ≤ 999))) = !mW p.Teams[i] := by unfold mW wB; simp only [Bool.not_and, Bool.or_assoc]
    rw [e]
    unfold aGy
    cases mW p.Teams[i] with
    | false => rfl
    | true =>
      cases decide (p.Teams[i].One = p.Teams[i].Two) with
      | true => rfl
      | false => rfl) (fun k => by
    have hlt : decide ((p.Teams.length : Int) < (p.Teams.length : Int)) = false := decide_eq_false (by omega)
    rw [gM, hlt, cond_false]) (by omega)
  refine Eq.trans main ?_
  have hK4 : lF p = some (vN p && decide (p.Teams.length ≤ 64)) := by
    unfold lF
    have m := qV (fun k i => iK p k i) p.Slips (fun s => !decide (s.Kind = 5) || decide (s.Player ∈ dM p)) (some false) (oD p) (fun k i hi => by
      have hlt : decide ((i : Int) < (p.Slips.length : Int)) = true := decide_eq_true (by omega)
      rw [iK, hlt, cond_true, bY hi, Option.bind_some, Option.bind_some, aQd p _ h1, Option.bind_some, dY, Option.bind_some, bM (by omega)]
      cases decide (p.Slips[i].Kind = 5) <;> cases decide (p.Slips[i].Player ∈ dM p) <;> rfl) (fun k => by
      have hlt : decide ((p.Slips.length : Int) < (p.Slips.length : Int)) = false := decide_eq_false (by omega)
      rw [iK, hlt, cond_false]) (by omega)
    refine Eq.trans m ?_
    unfold vN oD
    have e : decide ((p.Teams.length : Int) ≤ 64) = decide (p.Teams.length ≤ 64) := by rw [decide_eq_decide]; omega
    rw [e]
    cases p.Slips.all _ <;> rfl
  have hK0 : lE p = some (yX p && (vN p && decide (p.Teams.length ≤ 64))) := by
    unfold lE
    have m := qV (fun k i => iJ p k i) p.Tree.Slots (fun x => decide (x = -1) || decide (x ∈ dM p)) (some false) (lF p) (fun k i hi => by
      have hlt : decide ((i : Int) < (p.Tree.Slots.length : Int)) = true := decide_eq_true (by omega)
      rw [iJ, hlt, cond_true, bY hi, Option.bind_some, Option.bind_some, aQd p _ h1, Option.bind_some, dY, Option.bind_some, bM (by omega)]
      cases decide (p.Tree.Slots[i] = -1) <;> cases decide (p.Tree.Slots[i] ∈ dM p) <;> rfl) (fun k => by
      have hlt : decide ((p.Tree.Slots.length : Int) < (p.Tree.Slots.length : Int)) = false := decide_eq_false (by omega)
      rw [iJ, hlt, cond_false]) (by omega)
    refine Eq.trans m ?_
    rw [hK4]
    unfold yX
    cases p.Tree.Slots.all _ <;> rfl
  rw [hK0]
  cases qB p.Teams aGy <;> rfl
omit hz in
theorem mQ {t : bE} {n : Int} : n ∈ kB t ↔ n = t.One ∨ (n = t.Two ∧ t.Two ≠ -1) := by
  unfold kB
  split
  · rename_i h
    simp
    exact fun h1 h2 => absurd h h2
  · rename_i h
    simp [h]
omit hz in
theorem aVk : qB p.Teams aGy = (p.Teams.all mW && decide (dM p).Nodup && decide (dF p).Nodup) := by
  have hw := aFe p.Teams aGy (fun t => mW t = true ∧ t.One ≠ t.Two) (fun o t => ¬ (o.Player = t.Player ∨ o.One = t.One ∨ o.Two = t.One ∨ (0 ≤ t.Two ∧ (o.One = t.Two ∨ o.Two = t.Two)))) (fun pre t => by
    unfold aGy
    simp only [Bool.and_eq_true, Bool.not_eq_true', decide_eq_false_iff_not, List.all_eq_true, Bool.or_eq_false_iff, Bool.and_eq_false_iff]
    constructor
    · rintro ⟨⟨h1, h2⟩, h3⟩
      refine ⟨⟨h1, h2⟩, fun o ho => ?_⟩
      have := h3 o ho
      rintro (h | h | h | ⟨h, h4⟩)
      · exact this.1.1.1 h
      · exact this.1.1.2 h
      · exact this.1.2 h
      · rcases this.2 with h5 | ⟨h5, h6⟩
        · exact h5 h
        · rcases h4 with h4 | h4
          · exact h5 h4
          · exact h6 h4
    · rintro ⟨⟨h1, h2⟩, h3⟩
      refine ⟨⟨h1, h2⟩, fun o ho => ?_⟩
      have := h3 o ho
      refine ⟨⟨⟨fun h => this (.inl h), fun h => this (.inr (.inl h))⟩, fun h => this (.inr (.inr (.inl h)))⟩, ?_⟩
      by_cases h0 : 0 ≤ t.Two
      · exact .inr ⟨fun h => this (.inr (.inr (.inr ⟨h0, .inl h⟩))), fun h => this (.inr (.inr (.inr ⟨h0, .inr h⟩)))⟩
      · exact .inl h0)
  rw [Bool.eq_iff_iff, hw, Bool.and_eq_true, Bool.and_eq_true, List.all_eq_true, decide_eq_true_eq, decide_eq_true_eq]
  unfold dM dF
  have hpl : (p.Teams.map fun t => t.Player).Nodup ↔ p.Teams.Pairwise fun a b => a.Player ≠ b.Player := List.pairwise_map
  have hpp : (p.Teams.flatMap kB).Nodup ↔ (∀ t ∈ p.Teams, (kB t).Nodup) ∧ p.Teams.Pairwise fun a b => ∀ x ∈ kB a, ∀ y ∈ kB b, x ≠ y := List.pairwise_flatMap
  rw [hpl, hpp]
  constructor
  · rintro ⟨h1, h2⟩
    refine ⟨⟨fun t ht => (h1 t ht).1, h2.imp fun h he => h (.inl he)⟩, fun t ht => ?_, ?_⟩
    · unfold kB
      split
      · simp
      · simp [(h1 t ht).2]
    · refine List.Pairwise.imp_of_mem ?_ h2
      intro a b ha hb hab x hx y hy he
      have tb := tL.1 (h1 b hb).1
      subst he
      rcases mQ.1 hx with h3 | ⟨h3, h4⟩ <;> rcases mQ.1 hy with h5 | ⟨h5, h6⟩
      · exact hab (.inr (.inl (by omega)))
      · exact hab (.inr (.inr (.inr ⟨by omega, .inl (by omega)⟩)))
      · exact hab (.inr (.inr (.inl (by omega))))
      · exact hab (.inr (.inr (.inr ⟨by omega, .inr (by omega)⟩)))
  · rintro ⟨⟨h1, h2⟩, h3, h4⟩
    refine ⟨fun t ht => ⟨h1 t ht, fun he => ?_⟩, ?_⟩
    · have := h3 t ht
      have tb := tL.1 (h1 t ht)
      unfold kB at this
      rw [if_neg (by omega)] at this
      simp [he] at this
    · refine List.Pairwise.imp_of_mem ?_ (List.Pairwise.and h2 h4)
      rintro a b ha hb ⟨hab, hx⟩ (h | h | h | ⟨h, h5⟩)
      · exact hab h
      · exact hx a.One (mQ.2 (.inl rfl)) b.One (mQ.2 (.inl rfl)) h
      · have tb := tL.1 (h1 b hb)
        exact hx a.Two (mQ.2 (.inr ⟨rfl, by omega⟩)) b.One (mQ.2 (.inl rfl)) h
      · rcases h5 with h5 | h5
        · exact hx a.One (mQ.2 (.inl rfl)) b.Two (mQ.2 (.inr ⟨rfl, by omega⟩)) h5
        · exact hx a.Two (mQ.2 (.inr ⟨rfl, by omega⟩)) b.Two (mQ.2 (.inr ⟨rfl, by omega⟩)) h5
theorem bBq : lC p = some (pT p) := by
  rw [bAj hz, aVk]
  unfold pT
  cases p.Teams.all mW <;> cases decide (dM p).Nodup <;> cases decide (dF p).Nodup <;> cases yX p <;> cases vN p <;> cases decide (p.Teams.length ≤ 64) <;> rfl
theorem bBp (ht : ∀ t ∈ p.Teams, mW t = true) : nM p = some (nB p && rI p) := by
  have h1 := hz.teams
  have h2 := hz.levies
  have h3 := hz.rates
  unfold nM
  have main := vP (fun k i => dR p k i) p.Levies (aBi p) (some false) (lD p) (fun k i hi => by
    have hlt : decide ((i : Int) < (p.Levies.length : Int)) = true := decide_eq_true (by omega)
    have hl : (p.Levies.take i).length = i := by simp; omega
    have inner : gK (dR p k) (i : Nat) p BIG 0 = bif (p.Levies.take i).all (fun y => !decide (y.Person = p.Levies[i].Person)) then dR p k ((i + 1 : Nat) : Int) else some false := by
      refine qV (fun k' j => gK (dR p k) (i : Nat) p k' j) (p.Levies.take i) _ (some false) (dR p k ((i + 1 : Nat) : Int)) (fun k' j hj => ?_) (fun k' => ?_) (by omega)
      · have hlt : decide ((j : Int) < (i : Int)) = true := decide_eq_true (by omega)
        rw [gK, hlt, cond_true, bY (show j < p.Levies.length by omega), Option.bind_some, bY hi, Option.bind_some, bM (by omega), List.getElem_take]
        cases decide (p.Levies[j].Person = p.Levies[i].Person) <;> rfl
      · rw [hl]
        have hlt : decide ((i : Int) < (i : Int)) = false := decide_eq_false (by omega)
        rw [gK, hlt, cond_false]
        unfold sC sB
        rw [bM (by omega)]
    have ed : (p.Levies.take i).all (fun y => !decide (y.Person = p.Levies[i].Person)) = !decide (p.Levies[i].Person ∈ (p.Levies.take i).map fun y => y.Person) := by
      rw [Bool.eq_iff_iff, List.all_eq_true, Bool.not_eq_true', decide_eq_false_iff_not, List.mem_map]
      constructor
      · rintro h ⟨y, h4, h5⟩
        have := h y h4
        simp [h5] at this
      · intro h y h4
        simp only [Bool.not_eq_true', decide_eq_false_iff_not]
        exact fun h5 => h ⟨y, h4, h5⟩
    rw [dR, hlt, cond_true, bY hi, Option.bind_some, aHv ht _ h1, Option.bind_some, Option.bind_some, wH, Option.bind_some, dP, Option.bind_some, inner, ed]
    unfold aBi wB
    cases mN p p.Levies[i].Person <;> cases (decide (0 ≤ p.Levies[i].Mille) && decide (p.Levies[i].Mille ≤ 500)) <;> rfl) (fun k => by
    have hlt : decide ((p.Levies.length : Int) < (p.Levies.length : Int)) = false := decide_eq_false (by omega)
    rw [dR, hlt, cond_false]) (by omega)
  refine Eq.trans main ?_
  have hK0 : lD p = some (rI p) := by
    unfold lD
    have m := vP (fun k i => dS p k i) p.Rates (aBk p) (some false) sD (fun k i hi => by
      have hlt : decide ((i : Int) < (p.Rates.length : Int)) = true := decide_eq_true (by omega)
      have hl : (p.Rates.take i).length = i := by simp; omega
      have inner : gL (dS p k) (i : Nat) p p.Rates[i] BIG 0 = bif (p.Rates.take i).all (fun y => !decide (y.Person = p.Rates[i].Person)) then dS p k ((i + 1 : Nat) : Int) else some false := by
        refine qV (fun k' j => gL (dS p k) (i : Nat) p p.Rates[i] k' j) (p.Rates.take i) _ (some false) (dS p k ((i + 1 : Nat) : Int)) (fun k' j hj => ?_) (fun k' => ?_) (by omega)
        · have hlt : decide ((j : Int) < (i : Int)) = true := decide_eq_true (by omega)
          rw [gL, hlt, cond_true, bY (show j < p.Rates.length by omega), Option.bind_some, bM (by omega), List.getElem_take]
          cases decide (p.Rates[j].Person = p.Rates[i].Person) <;> rfl
        · rw [hl]
          have hlt : decide ((i : Int) < (i : Int)) = false := decide_eq_false (by omega)
          rw [gL, hlt, cond_false]
          unfold sF sE
          rw [bM (by omega)]
      have ed : (p.Rates.take i).all (fun y => !decide (y.Person = p.Rates[i].Person)) = !decide (p.Rates[i].Person ∈ (p.Rates.take i).map fun y => y.Person) := by
        rw [Bool.eq_iff_iff, List.all_eq_true, Bool.not_eq_true', decide_eq_false_iff_not, List.mem_map]
        constructor
        · rintro h ⟨y, h4, h5⟩
          have := h y h4
          simp [h5] at this
        · intro h y h4
          simp only [Bool.not_eq_true', decide_eq_false_iff_not]
          exact fun h5 => h ⟨y, h4, h5⟩
      rw [dS, hlt, cond_true, bY hi, Option.bind_some, aHv ht _ h1, Option.bind_some, wH, Option.bind_some, dP, Option.bind_some, wH, Option.bind_some, dP, Option.bind_some, inner, ed]
      unfold aBk wB
      cases mN p p.Rates[i].Person <;> cases (decide (1 ≤ p.Rates[i].Num) && decide (p.Rates[i].Num ≤ 10000)) <;> cases (decide (1 ≤ p.Rates[i].Den) && decide (p.Rates[i].Den ≤ 10000)) <;> rfl) (fun k => by
      have hlt : decide ((p.Rates.length : Int) < (p.Rates.length : Int)) = false := decide_eq_false (by omega)
      rw [dS, hlt, cond_false]) (by omega)
    exact m.trans (aKw _)
  rw [hK0]
  show (bif nB p then _ else _) = _
  cases nB p <;> rfl
end
end Go.Am

end
section
namespace Go.Am

def uW (p : aM) (x : aG) : Bool := wB x.Id 0 99 && mN p x.Person && ((decide (x.Kind = 1) && wB x.Amount 0 10000000) || (decide (x.Kind = 2) && wB x.Amount 0 30))
theorem tH {p : aM} {x : aG} : uW p x = true ↔ (0 ≤ x.Id ∧ x.Id ≤ 99) ∧ mN p x.Person = true ∧ ((x.Kind = 1 ∧ 0 ≤ x.Amount ∧ x.Amount ≤ 10000000) ∨ (x.Kind = 2 ∧ 0 ≤ x.Amount ∧ x.Amount ≤ 30)) := by
  unfold uW; simp [wU, and_assoc]
def aBh (p : aM) (pre : List aG) (x : aG) : Bool := uW p x && pre.all fun y => !(decide (y.Id = x.Id) && !decide (y = x))
def sU (p : aM) : Bool := qB p.Items (aBh p) && decide (p.Items.length ≤ 40)
theorem wD (p : aM) : qB p.Items (aBh p) = true ↔ (∀ x ∈ p.Items, uW p x = true) ∧ ¬ aEs p.Items := by
  have hw := aFe p.Items (aBh p) (fun x => uW p x = true) (fun y x => ¬ (y.Id = x.Id ∧ y ≠ x)) (fun pre x => by
    unfold aBh
    rw [Bool.and_eq_true, List.all_eq_true]
    refine and_congr_right fun _ => forall_congr' fun y => forall_congr' fun _ => ?_
    rw [Bool.not_eq_true', Bool.and_eq_false_iff, decide_eq_false_iff_not, Bool.not_eq_false', decide_eq_true_eq]
    constructor
    · rintro (h | h) ⟨h1, h2⟩
      · exact h h1
      · exact h2 h
    · intro h
      by_cases h1 : y.Id = x.Id
      · exact .inr (Classical.byContradiction fun h2 => h ⟨h1, h2⟩)
      · exact .inl h1)
  rw [hw]
  refine and_congr_right fun _ => ⟨fun h => ?_, fun h => ?_⟩
  · rintro ⟨x, hx, y, hy, h1, h2⟩
    obtain ⟨i, hi, rfl⟩ := List.getElem_of_mem hx
    obtain ⟨j, hj, rfl⟩ := List.getElem_of_mem hy
    have g := List.pairwise_iff_getElem.1 h
    rcases Nat.lt_trichotomy i j with h3 | h3 | h3
    · exact g i j hi hj h3 ⟨h1, h2⟩
    · subst h3; exact h2 rfl
    · exact g j i hj hi h3 ⟨h1.symm, Ne.symm h2⟩
  · exact List.pairwise_iff_getElem.2 fun i j hi hj _ ⟨h1, h2⟩ => h ⟨_, List.getElem_mem hi, _, List.getElem_mem hj, h1, h2⟩
section
variable {p : aM} (hz : Sz p)
include hz
theorem bCe : sV p = some (sU p) := by
  have h1 := hz.teams
  have h2 := hz.items
  have hpl : (fC (dF p)).length ≤ 2000 := by rw [(mU _).length_eq]; have := wF p.Teams; unfold dF; omega
  unfold sV
  rw [aGg p h1, Option.bind_some]
  have main := qV (fun k i => jU (fC (dF p)) p.Items (p.Items.length : Int) p k i) p.Items (uW p) (some false) (sN p) (fun k i hi => by
    have hlt : decide ((i : Int) < (p.Items.length : Int)) = true := decide_eq_true (by omega)
    rw [jU, hlt, cond_true, bY hi, Option.bind_some, iX _ (by omega), bM (by omega)]
    simp only [zQ, Option.bind_some, dP, dY]
    unfold uW wB
    rw [xX]
    by_cases k2 : p.Items[i].Kind = 2
    · have k1 : ¬ p.Items[i].Kind = 1 := by omega
      rw [decide_eq_true k2, decide_eq_false k1]
      cases (decide (0 ≤ p.Items[i].Id) && decide (p.Items[i].Id ≤ 99)) <;> cases decide (p.Items[i].Person ∈ fC (dF p)) <;> cases (decide (0 ≤ p.Items[i].Amount) && decide (p.Items[i].Amount ≤ 30)) <;> rfl
    · rw [decide_eq_false k2]
      cases decide (p.Items[i].Kind = 1) <;> cases (decide (0 ≤ p.Items[i].Id) && decide (p.Items[i].Id ≤ 99)) <;> cases decide (p.Items[i].Person ∈ fC (dF p)) <;> cases (decide (0 ≤ p.Items[i].Amount) && decide (p.Items[i].Amount ≤ 10000000)) <;> rfl) (fun k => by
    have hlt : decide ((p.Items.length : Int) < (p.Items.length : Int)) = false := decide_eq_false (by omega)
    rw [jU, hlt, cond_false]) (by omega)
  refine Eq.trans main ?_
  have e40 : decide ((p.Items.length : Int) ≤ 40) = decide (p.Items.length ≤ 40) := by rw [decide_eq_decide]; omega
  unfold sU
  cases ha : p.Items.all (uW p) with
  | false =>
    have : qB p.Items (aBh p) = false := by
      rw [Bool.eq_false_iff]; intro hn
      have := ((wD p).1 hn).1
      rw [← List.all_eq_true, ha] at this; cases this
    rw [this]; rfl
  | true =>
    have hall := List.all_eq_true.1 ha
    unfold sN
    rcases aOq p.Items (fun x hx => (tH.1 (hall x hx)).1) (by omega) with ⟨hc, ho⟩ | ⟨hc, zs, ho, _⟩
    · have : qB p.Items (aBh p) = false := by
        rw [Bool.eq_false_iff]; intro hn
        exact ((wD p).1 hn).2 hc
      rw [ho, this]; rfl
    · rw [ho, (wD p).2 ⟨hall, hc⟩, cond_true, Option.bind_some, dY, Option.bind_some, e40]
theorem bBo (ht : ∀ t ∈ p.Teams, mW t = true) : nL p = some (sU p) := by
  have h1 := hz.teams
  have h2 := hz.items
  unfold nL
  have main := vP (fun k i => dQ p k i) p.Items (aBh p) (some false) (oC p) (fun k i hi => by
    have hlt : decide ((i : Int) < (p.Items.length : Int)) = true := decide_eq_true (by omega)
    have hl : (p.Items.take i).length = i := by simp; omega
    have inner : gJ (dQ p k) (i : Nat) p p.Items[i] BIG 0 = bif (p.Items.take i).all (fun y => !(decide (y.Id = p.Items[i].Id) && !decide (y = p.Items[i]))) then dQ p k ((i + 1 : Nat) : Int) else some false := by
      refine qV (fun k' j => gJ (dQ p k) (i : Nat) p p.Items[i] k' j) (p.Items.take i) _ (some false) (dQ p k ((i + 1 : Nat) : Int)) (fun k' j hj => ?_) (fun k' => ?_) (by omega)
      · have hlt : decide ((j : Int) < (i : Int)) = true := decide_eq_true (by omega)
        rw [gJ, hlt, cond_true, bY (show j < p.Items.length by omega), Option.bind_some, Option.bind_some, dY, Option.bind_some, bM (by omega), List.getElem_take]
        cases (decide (p.Items[j].Id = p.Items[i].Id) && !decide (p.Items[j] = p.Items[i])) <;> rfl
      · rw [hl]
        have hlt : decide ((i : Int) < (i : Int)) = false := decide_eq_false (by omega)
        rw [gJ, hlt, cond_false]
        unfold sA rZ
        rw [bM (by omega)]
    rw [dQ, hlt, cond_true, bY hi, Option.bind_some, aHv ht _ h1, inner]
    simp only [wH, Option.bind_some, dP, dY]
    unfold aBh uW wB
    cases mN p p.Items[i].Person <;> cases (decide (0 ≤ p.Items[i].Id) && decide (p.Items[i].Id ≤ 99)) <;> cases (decide (p.Items[i].Kind = 1) && (decide (0 ≤ p.Items[i].Amount) && decide (p.Items[i].Amount ≤ 10000000)) || decide (p.Items[i].Kind = 2) && (decide (0 ≤ p.Items[i].Amount) && decide (p.Items[i].Amount ≤ 30))) <;> rfl) (fun k => by
    have hlt : decide ((p.Items.length : Int) < (p.Items.length : Int)) = false := decide_eq_false (by omega)
    rw [dQ, hlt, cond_false]) (by omega)
  refine Eq.trans main ?_
  have e40 : decide ((p.Items.length : Int) ≤ 40) = decide (p.Items.length ≤ 40) := by rw [decide_eq_decide]; omega
  unfold sU oC
  rw [e40]
  cases qB p.Items (aBh p) <;> rfl
/-- The prizes, and what a day brings. -/
def yN (pre : List Int) (x : Int) : Bool := wB x 0 10000000 && (match pre.getLast? with | some y => !decide (x < y) | none => true)
def qS (p : aM) : Bool := qB p.Prizes yN && decide ((p.Prizes.length : Int) = p.Tree.Rounds + 1) && wB p.Daily 0 100000
omit hz in
theorem aKq (l : List Int) : qB l yN = true ↔ (∀ x ∈ l, 0 ≤ x ∧ x ≤ 10000000) ∧ ∀ i (hi : i + 1 < l.length), l[i]'(by omega) ≤ l[i + 1] := by
  unfold qB
  rw [List.all_eq_true]
  have key : ∀ (i : Nat) (hi : i < l.length), atB l yN i = true ↔ (0 ≤ l[i] ∧ l[i] ≤ 10000000) ∧ (∀ h : 0 < i, l[i - 1]'(by omega) ≤ l[i]) := fun i hi => by
    rw [aLw hi]
    unfold yN
    rw [Bool.and_eq_true, wU]
    refine and_congr_right fun _ => ?_
    cases i with
    | zero => simp
    | succ j =>
      have hg : (l.take (j + 1)).getLast? = some (l[j]'(by omega)) := by
        rw [List.take_succ_eq_append_getElem (show j < l.length by omega), List.getLast?_concat]
      rw [hg]
      simp only [Bool.not_eq_true', decide_eq_false_iff_not]
      constructor
      · intro h _; show l[j]'(by omega) ≤ _; omega
      · intro h; have h' : l[j]'(by omega) ≤ l[j + 1] := h (by omega); omega
  constructor
  · intro h
    refine ⟨fun x hx => ?_, fun i hi => ?_⟩
    · obtain ⟨i, hi, rfl⟩ := List.getElem_of_mem hx
      exact ((key i hi).1 (h i (List.mem_range.2 hi))).1
    · exact ((key (i + 1) hi).1 (h (i + 1) (List.mem_range.2 hi))).2 (by omega)
  · rintro ⟨h1, h2⟩ i hi
    have hi' := List.mem_range.1 hi
    refine (key i hi').2 ⟨h1 _ (List.getElem_mem hi'), fun h => ?_⟩
    have := h2 (i - 1) (by omega)
    have e : i - 1 + 1 = i := by omega
    simp only [e] at this
    exact this
omit hz in
theorem bAw (x y : Int) : vD x y = some (decide (x < y)) := by
  unfold vD uB
  simp
omit hz in
theorem aXp (l : List Int) (hl : l.length ≤ 1000) (h1 : 1 ≤ l.length) : ∃ b, nP l = some b ∧ (b = true ↔ ∀ i (hi : i + 1 < l.length), l[i]'(by omega) ≤ l[i + 1]) := by
  have key : ∀ (i k : Nat) (hi : i < l.length), i < k → ∃ b, iM l k (i : Nat) = some b ∧ (b = true ↔ ∀ j (hj : j + 1 < l.length), j < i → l[j]'(by omega) ≤ l[j + 1]) := by
    intro i
    induction i with
    | zero =>
      intro k hi hk
      obtain ⟨k, rfl⟩ : ∃ q, k = q + 1 := ⟨k - 1, by omega⟩
      have hlt : decide (0 < (((0 : Nat) : Int))) = false := rfl
      exact ⟨true, by rw [iM, hlt, cond_false]; rfl, by simp⟩
    | succ i ih =>
      intro k hi hk
      obtain ⟨k, rfl⟩ : ∃ q, k = q + 1 := ⟨k - 1, by omega⟩
      have hlt : decide (0 < (((i + 1 : Nat) : Int))) = true := decide_eq_true (by omega)
      have ew : w64 (((i + 1 : Nat) : Int) - 1) = ((i : Nat) : Int) := by rw [cC (by omega) (by omega)]; omega
      rw [iM, hlt, cond_true, bY hi, Option.bind_some, ew, bY (show i < l.length by omega), Option.bind_some, bAw, Option.bind_some]
      by_cases hb : l[i + 1] < l[i]'(by omega)
      · rw [decide_eq_true hb, cond_true]
        refine ⟨false, rfl, ?_⟩
        constructor
        · intro h; cases h
        · intro h; have := h i hi (by omega); omega
      · rw [decide_eq_false hb, cond_false]
        obtain ⟨b, h2, h3⟩ := ih k (by omega) (by omega)
        refine ⟨b, h2, h3.trans ⟨fun h j hj hji => ?_, fun h j hj hji => h j hj (by omega)⟩⟩
        rcases Nat.eq_or_lt_of_le (Nat.le_of_lt_succ hji) with rfl | h4
        · omega
        · exact h j hj h4
  unfold nP
  have ew : w64 ((l.length : Int) - 1) = ((l.length - 1 : Nat) : Int) := by rw [cC (by omega) (by omega)]; omega
  rw [ew]
  obtain ⟨b, h2, h3⟩ := key (l.length - 1) BIG (by omega) (cL (by omega))
  exact ⟨b, h2, h3.trans ⟨fun h i hi => h i hi (by omega), fun h i hi _ => h i hi⟩⟩
end
end Go.Am

end
section
namespace Go.Am

theorem aEb {l : List Int} (h : ∀ i (hi : i + 1 < l.length), l[i]'(by omega) ≤ l[i + 1]) : ∀ (n i : Nat) (hi : i + n < l.length), l[i]'(by omega) ≤ l[i + n]
  | 0, i, _ => Int.le_refl _
  | n + 1, i, hi => Int.le_trans (aEb h n i (by omega)) (h (i + n) hi)
theorem aHc {l : List Int} (hl : 1 ≤ l.length) (hs : ∀ i (hi : i + 1 < l.length), l[i]'(by omega) ≤ l[i + 1]) : (∀ x ∈ l, 0 ≤ x ∧ x ≤ 10000000) ↔ 0 ≤ l[0] ∧ l[l.length - 1]'(by omega) ≤ 10000000 := by
  constructor
  · intro h
    exact ⟨(h _ (List.getElem_mem _)).1, (h _ (List.getElem_mem _)).2⟩
  · rintro ⟨h1, h2⟩ x hx
    obtain ⟨i, hi, rfl⟩ := List.getElem_of_mem hx
    have a1 := aEb hs i 0 (by omega)
    have a2 := aEb hs (l.length - 1 - i) i (by omega)
    have e : i + (l.length - 1 - i) = l.length - 1 := by omega
    simp only [Nat.zero_add, e] at a1 a2
    omega
section
variable {p : aM} (hz : Sz p)
include hz
theorem bCg (hr : 1 ≤ p.Tree.Rounds ∧ p.Tree.Rounds ≤ 5) : uJ p = some (qS p) := by
  have h1 := hz.prizes
  unfold uJ qS
  have ew : w64 (p.Tree.Rounds + 1) = p.Tree.Rounds + 1 := cC (by omega) (by omega)
  rw [ew]
  by_cases hl : (p.Prizes.length : Int) = p.Tree.Rounds + 1
  · have hl1 : 1 ≤ p.Prizes.length := by omega
    obtain ⟨b, hb, hbi⟩ := aXp p.Prizes h1 hl1
    rw [decide_eq_true hl, Bool.not_true, cond_false, hb, Option.bind_some, Option.bind_some, zQ, Option.bind_some, dP, Option.bind_some, Bool.and_true]
    have ew2 : w64 ((p.Prizes.length : Int) - 1) = ((p.Prizes.length - 1 : Nat) : Int) := by rw [cC (by omega) (by omega)]; omega
    have i0 : idx p.Prizes 0 = some (p.Prizes[0]'(by omega)) := bY (i := 0) (by omega)
    rw [i0, Option.bind_some, ew2, bY (show p.Prizes.length - 1 < p.Prizes.length by omega), Option.bind_some, dY, Option.bind_some]
    have hw : (decide (0 ≤ p.Daily) && decide (p.Daily ≤ 100000)) = wB p.Daily 0 100000 := rfl
    rw [hw]
    have he : qB p.Prizes yN = (b && (decide (0 ≤ p.Prizes[0]'(by omega)) && decide (p.Prizes[p.Prizes.length - 1]'(by omega) ≤ 10000000))) := by
      rw [Bool.eq_iff_iff, aKq, Bool.and_eq_true, Bool.and_eq_true, decide_eq_true_eq, decide_eq_true_eq, hbi]
      constructor
      · rintro ⟨a1, a2⟩; exact ⟨a2, (aHc hl1 a2).1 a1⟩
      · rintro ⟨a2, a1⟩; exact ⟨(aHc hl1 a2).2 a1, a2⟩
    rw [he]
    cases b <;> cases wB p.Daily 0 100000 <;> simp
  · rw [decide_eq_false hl, Bool.not_false, cond_true, Option.bind_some, cond_true, Option.bind_some, cond_true, Bool.and_false, Bool.false_and]
def brE (p : aM) : Int := (fY p.Tree p.Slips).getD 0
omit hz in
theorem aLy (p : aM) : fY p.Tree p.Slips = some (brE p) ∧ (brE p = 0 ↔ ∃ d, Good p.Tree p.Slips d) := by
  unfold brE
  rcases aGw p.Tree p.Slips with ⟨d, hg⟩ | ⟨e, he⟩
  · rw [aBd hg]
    exact ⟨rfl, fun _ => ⟨d, hg⟩, fun _ => rfl⟩
  · rw [aDj he]
    have hne : ¬ e = 0 := of_decide_eq_false he.ne
    refine ⟨rfl, fun h => absurd h hne, fun ⟨d, hg⟩ => ?_⟩
    have h1 := aBd hg
    rw [aDj he] at h1
    exact Option.some.inj h1
/-- The first error of a purse. -/
def oK (p : aM) : Int := bif !decide (brE p = 0) then brE p else bif !qS p then 100 else bif !(pT p && nB p && rI p) then 101 else bif !sU p then 102 else 0
theorem aJc : oE p = some (oK p) := by
  unfold oE oK uV
  obtain ⟨h1, h2⟩ := aLy p
  rw [h1, Option.bind_some]
  by_cases h0 : brE p = 0
  · obtain ⟨d, hg⟩ := h2.1 h0
    rw [decide_eq_true h0, Bool.not_true, cond_false, cond_false, bCg hz ⟨hg.ht.r1, hg.ht.r5⟩, Option.bind_some, bCh hz, Option.bind_some, bCe hz, Option.bind_some]
    cases qS p <;> cases (pT p && nB p && rI p) <;> cases sU p <;> rfl
  · rw [decide_eq_false h0, Bool.not_false, cond_true, cond_true]
omit hz in
theorem aBq {p : aM} (h : pT p = true) : ∀ t ∈ p.Teams, mW t = true := by
  unfold pT at h
  simp only [Bool.and_eq_true] at h
  exact List.all_eq_true.1 h.1.1.1.1.2
theorem aVu : kH p = some (oK p) := by
  have hp := hz.prizes
  unfold kH oK
  obtain ⟨h1, h2⟩ := aLy p
  rw [h1, Option.bind_some]
  by_cases h0 : brE p = 0
  · obtain ⟨d, hg⟩ := h2.1 h0
    have hr1 := hg.ht.r1
    have hr5 := hg.ht.r5
    rw [decide_eq_true h0, Bool.not_true, cond_false, cond_false]
    have main := vP (fun k i => iS p k i) p.Prizes yN (some 100) (rK p) (fun k i hi => by
      have hlt : decide ((i : Int) < (p.Prizes.length : Int)) = true := decide_eq_true (by omega)
      rw [iS, hlt, cond_true, bY hi, Option.bind_some, wH, Option.bind_some, Option.bind_some, bM (by omega)]
      unfold yN
      have hw : (decide (0 ≤ p.Prizes[i]) && decide (p.Prizes[i] ≤ 10000000)) = wB p.Prizes[i] 0 10000000 := rfl
      rw [hw]
      cases i with
      | zero =>
        have hc : decide (0 < (((0 : Nat) : Int))) = false := rfl
        have hg0 : (p.Prizes.take 0).getLast? = none := by simp
        rw [hc, cond_false, Option.bind_some, dP, Option.bind_some, hg0]
        cases wB p.Prizes[0] 0 10000000 <;> rfl
      | succ j =>
        have hc : decide (0 < (((j + 1 : Nat) : Int))) = true := decide_eq_true (by omega)
        have hgl : (p.Prizes.take (j + 1)).getLast? = some (p.Prizes[j]'(by omega)) := by
          rw [List.take_succ_eq_append_getElem (show j < p.Prizes.length by omega), List.getLast?_concat]
        have ew : w64 (((j + 1 : Nat) : Int) - 1) = ((j : Nat) : Int) := by rw [cC (by omega) (by omega)]; omega
        rw [hc, cond_true, ew, bY (show j < p.Prizes.length by omega), Option.bind_some, Option.bind_some, dP, Option.bind_some, hgl]
        show (bif !wB p.Prizes[j + 1] 0 10000000 || decide (p.Prizes[j + 1] < p.Prizes[j]'(by omega)) then some 100 else iS p k _) = bif wB p.Prizes[j + 1] 0 10000000 && !decide (p.Prizes[j + 1] < p.Prizes[j]'(by omega)) then _ else _
        cases wB p.Prizes[j + 1] 0 10000000 <;> cases decide (p.Prizes[j + 1] < p.Prizes[j]'(by omega)) <;> rfl) (fun k => by
      have hlt : decide ((p.Prizes.length : Int) < (p.Prizes.length : Int)) = false := decide_eq_false (by omega)
      rw [iS, hlt, cond_false]) (by omega)
    refine Eq.trans main ?_
    unfold rK qS
    have ew : w64 (p.Tree.Rounds + 1) = p.Tree.Rounds + 1 := cC (by omega) (by omega)
    rw [ew, wH, Option.bind_some, dP, Option.bind_some, bBq hz, Option.bind_some]
    have hw : (decide (0 ≤ p.Daily) && decide (p.Daily ≤ 100000)) = wB p.Daily 0 100000 := rfl
    rw [hw]
    cases ht : pT p with
    | false =>
      cases qB p.Prizes yN <;> cases decide ((p.Prizes.length : Int) = p.Tree.Rounds + 1) <;> cases wB p.Daily 0 100000 <;> rfl
    | true =>
      have hta := aBq ht
      rw [bBp hz hta, Option.bind_some, bBo hz hta, Option.bind_some]
      cases qB p.Prizes yN <;> cases decide ((p.Prizes.length : Int) = p.Tree.Rounds + 1) <;> cases wB p.Daily 0 100000 <;> cases nB p <;> cases rI p <;> cases sU p <;> rfl
  · rw [decide_eq_false h0, Bool.not_false, cond_true, cond_true]
end
/-- A valid purse. -/
structure GP (p : aM) (d : List Int) : Prop where
  good : Good p.Tree p.Slips d
  prizes : qS p = true
  teams : pT p = true
  levies : nB p = true
  rates : rI p = true
  items : sU p = true
theorem aUl {p : aM} (h : oK p = 0) : ∃ d, GP p d := by
  unfold oK at h
  obtain ⟨h1, h2⟩ := aLy p
  by_cases h0 : brE p = 0
  · obtain ⟨d, hg⟩ := h2.1 h0
    rw [decide_eq_true h0, Bool.not_true, cond_false] at h
    have key : qS p = true ∧ pT p = true ∧ nB p = true ∧ rI p = true ∧ sU p = true := by
      revert h
      cases qS p <;> cases pT p <;> cases nB p <;> cases rI p <;> cases sU p <;> simp
    exact ⟨d, hg, key.1, key.2.1, key.2.2.1, key.2.2.2.1, key.2.2.2.2⟩
  · rw [decide_eq_false h0, Bool.not_false, cond_true] at h
    exact absurd h h0
theorem zN {p : aM} {d : List Int} (h : GP p d) : oK p = 0 := by
  unfold oK
  rw [decide_eq_true ((aLy p).2.2 ⟨d, h.good⟩), h.prizes, h.teams, h.levies, h.rates, h.items]; rfl
end Go.Am

end
section
namespace Go.Am

theorem aVj (l : List bE) (f : bE → Option Bool) (q : bE → Bool) (h : ∀ x ∈ l, f x = some (q x)) (hb : l.length ≤ 1000000) :
    ∃ i : Int, mM l f = some i ∧ ((i < 0 ∧ l.find? q = none) ∨ ∃ (j : Nat) (hj : j < l.length), i = j ∧ l.find? q = some l[j]) := by
  have key : ∀ (d i k : Nat), l.length - i = d → d < k → i ≤ l.length → ∃ r : Int, fN l f (l.length : Int) k (i : Nat) = some r ∧ ((r < 0 ∧ (l.drop i).find? q = none) ∨ ∃ (j : Nat) (hj : j < l.length), r = j ∧ (l.drop i).find? q = some l[j]) := by
    intro d
    induction d with
    | zero =>
      intro i k hd hk hi
      obtain ⟨k, rfl⟩ : ∃ q, k = q + 1 := ⟨k - 1, by omega⟩
      have : i = l.length := by omega
      subst this
      have hlt : decide ((l.length : Int) < (l.length : Int)) = false := decide_eq_false (by omega)
      exact ⟨-1, by rw [fN, hlt, cond_false]; rfl, .inl ⟨by omega, by simp⟩⟩
    | succ d ih =>
      intro i k hd hk hi
      obtain ⟨k, rfl⟩ : ∃ q, k = q + 1 := ⟨k - 1, by omega⟩
      have hil : i < l.length := by omega
      have hlt : decide ((i : Int) < (l.length : Int)) = true := decide_eq_true (by omega)
      rw [fN, hlt, cond_true, bY hil, Option.bind_some, h _ (List.getElem_mem hil), Option.bind_some, List.drop_eq_getElem_cons hil, List.find?_cons]
      cases q l[i] with
      | true => exact ⟨i, by rw [cond_true], .inr ⟨i, hil, rfl, rfl⟩⟩
      | false => rw [cond_false, bM (by omega)]; exact ih (i + 1) k (by omega) (by omega) (by omega)
  exact key l.length 0 BIG rfl (cL (by omega)) (Nat.zero_le _)
theorem aMj {α : Type} (f g : α → Bool) : ∀ l : List α, (∀ x ∈ l, f x = g x) → l.find? f = l.find? g
  | [], _ => rfl
  | x :: l, h => by rw [List.find?_cons, List.find?_cons, h x List.mem_cons_self, aMj f g l fun y hy => h y (List.mem_cons_of_mem _ hy)]
def aGd (p : aM) : List (List Int) := match fW p.Tree p.Slips with | some r => r.1.Must | none => []
/-- What a player reaches. -/
def nN (p : aM) (d : List Int) (n : Int) : cN × Int := kW p.Tree d (aGd p) n
theorem aDs {p : aM} {d : List Int} (h : Good p.Tree p.Slips d) : fW p.Tree p.Slips = some (⟨d, aGd p⟩, true) ∧ MustIs p.Tree (aGd p) (jN d (Res p.Slips)) := by
  obtain ⟨must, hd, hM⟩ := aIa h
  have : aGd p = must := by unfold aGd; rw [hd]
  rw [this]; exact ⟨hd, hM⟩
theorem aZa {p : aM} {d : List Int} (h : Good p.Tree p.Slips d) (n : Int) : kG p.Tree p.Slips n = some (nN p d n) := by
  obtain ⟨h1, h2⟩ := aDs h
  exact aHm h h1 h2 n
theorem zY (p : aM) (d : List Int) (n : Int) (hr : 0 ≤ p.Tree.Rounds) : (0 ≤ (nN p d n).1.Low ∧ (nN p d n).1.Low ≤ p.Tree.Rounds) ∧ (0 ≤ (nN p d n).1.High ∧ (nN p d n).1.High ≤ p.Tree.Rounds) := by
  unfold nN kW
  split
  · split
    · simp only; omega
    · have h1 := zW (aHp d (aGd p) (wI d n).toNat) p.Tree.Rounds.toNat
      have h2 := zW (aHq d (aGd p) (wI d n).toNat) p.Tree.Rounds.toNat
      unfold kW.leftFrom kW.mostFrom aAm aDr
      simp only; omega
  · simp only; omega
/-- The share of a person in a team's prize. -/
def wS (t : bE) (person prize : Int) : Int := if t.Two = -1 then prize else if t.One = person then (prize + 1).tdiv 2 else prize.tdiv 2
def kR (p : aM) (i : Int) : Int := p.Prizes.getD i.toNat 0
def aEc (p : aM) (d : List Int) (person : Int) (t : bE) : cN :=
  if (nN p d t.Player).2 = 0 then ⟨wS t person (kR p (nN p d t.Player).1.Low), wS t person (kR p (nN p d t.Player).1.High)⟩ else ⟨0, 0⟩
/-- The gross of a person. -/
def jO (p : aM) (d : List Int) (person : Int) : cN := match tF p person with | some t => aEc p d person t | none => ⟨0, 0⟩
theorem vQ {p : aM} (h : qS p = true) : ((∀ x ∈ p.Prizes, 0 ≤ x ∧ x ≤ 10000000) ∧ ∀ i (hi : i + 1 < p.Prizes.length), p.Prizes[i]'(by omega) ≤ p.Prizes[i + 1]) ∧ (p.Prizes.length : Int) = p.Tree.Rounds + 1 ∧ 0 ≤ p.Daily ∧ p.Daily ≤ 100000 := by
  unfold qS at h
  simp only [Bool.and_eq_true, decide_eq_true_eq, wU] at h
  exact ⟨(aKq _).1 h.1.1, h.1.2, h.2⟩
theorem oU {p : aM} (h : qS p = true) {i : Int} (h0 : 0 ≤ i) (h1 : i ≤ p.Tree.Rounds) : idx p.Prizes i = some (kR p i) ∧ 0 ≤ kR p i ∧ kR p i ≤ 10000000 := by
  obtain ⟨⟨a1, a2⟩, a3, _⟩ := vQ h
  have hl : i.toNat < p.Prizes.length := by omega
  have e : kR p i = p.Prizes[i.toNat] := by unfold kR; simp [List.getD, List.getElem?_eq_getElem hl]
  rw [aNt h0 hl, e]
  exact ⟨rfl, a1 _ (List.getElem_mem _)⟩
theorem aKt {t : bE} {person prize : Int} (h0 : 0 ≤ prize) (h1 : prize ≤ 10000000) : 0 ≤ wS t person prize ∧ wS t person prize ≤ 10000000 := by
  unfold wS
  have e1 : (prize + 1).tdiv 2 = (prize + 1) / 2 := Int.tdiv_eq_ediv_of_nonneg (by omega)
  have e2 : prize.tdiv 2 = prize / 2 := Int.tdiv_eq_ediv_of_nonneg (by omega)
  rw [e1, e2]
  split
  · omega
  · split <;> omega
theorem aXw {p : aM} (ht : ∀ t ∈ p.Teams, mW t = true) (n : Int) : p.Teams.find? (fun t => decide (t.One = n) || (decide (t.Two = n) && !decide (t.Two = -1))) = tF p n := by
  unfold tF
  refine aMj _ _ _ fun t h => ?_
  have := tL.1 (ht t h)
  congr 1
  by_cases h2 : t.Two = n
  · rw [decide_eq_true h2]
    by_cases h3 : t.Two = -1
    · rw [decide_eq_true h3, decide_eq_false (by omega)]; rfl
    · rw [decide_eq_false h3, decide_eq_true (by omega)]; rfl
  · rw [decide_eq_false h2]; rfl
theorem aWw {t : bE} {person prize : Int} (h0 : 0 ≤ prize) (h1 : prize ≤ 10000000) : rP prize t person = some (wS t person prize) := by
  have e1 : (prize + 1).tdiv 2 = (prize + 1) / 2 := Int.tdiv_eq_ediv_of_nonneg (by omega)
  have e2 : prize.tdiv 2 = prize / 2 := Int.tdiv_eq_ediv_of_nonneg (by omega)
  have w1 : w64 (prize + 1) = prize + 1 := cC (by omega) (by omega)
  have w2 : w64 ((prize + 1).tdiv 2) = (prize + 1).tdiv 2 := by rw [e1]; exact cC (by omega) (by omega)
  have w3 : w64 (prize.tdiv 2) = prize.tdiv 2 := by rw [e2]; exact cC (by omega) (by omega)
  unfold rP wS
  rw [w1, w2, w3]
  by_cases h2 : t.Two = -1
  · rw [decide_eq_true h2, if_pos h2]; rfl
  · rw [decide_eq_false h2, if_neg h2, cond_false]
    by_cases h3 : t.One = person
    · rw [decide_eq_true h3, if_pos h3]; rfl
    · rw [decide_eq_false h3, if_neg h3]; rfl
section
variable {p : aM} (hz : Sz p) {d : List Int} (h : GP p d)
include hz h
theorem aWv (person : Int) : uM p person = some (jO p d person, mN p person) := by
  have ht := aBq h.teams
  have h1 := hz.teams
  unfold uM jO
  obtain ⟨i, hi, hc⟩ := aVj p.Teams (fun y4 => uI y4 person) (fun t => decide (t.One = person) || (decide (t.Two = person) && !decide (t.Two = -1))) (fun x _ => by
    unfold uI
    rw [dY, Option.bind_some, dP, Option.bind_some]) (by omega)
  rw [aXw ht] at hc
  have hip := aTv ht person
  rw [hi, Option.bind_some]
  rcases hc with ⟨h2, h3⟩ | ⟨j, hj, rfl, h3⟩
  · rw [decide_eq_true h2, cond_true, h3]
    rw [h3] at hip
    rw [← hip]; rfl
  · have hmem := List.mem_of_find?_eq_some (show p.Teams.find? _ = some p.Teams[j] from h3)
    have hsat := List.find?_some (show p.Teams.find? _ = some p.Teams[j] from h3)
    have htb := tL.1 (ht _ hmem)
    simp only [Bool.or_eq_true, Bool.and_eq_true, decide_eq_true_eq] at hsat
    have hpn : 0 ≤ person := by rcases hsat with h4 | h4 <;> omega
    rw [h3] at hip ⊢
    rw [decide_eq_true hpn] at hip
    have hip' : mN p person = true := by rw [← hip]; rfl
    have hr := zY p d p.Teams[j].Player (by have := h.good.ht.r1; omega)
    have q1 := oU h.prizes hr.1.1 hr.1.2
    have q2 := oU h.prizes hr.2.1 hr.2.2
    unfold sM
    rw [decide_eq_false (by omega), cond_false, bY hj, Option.bind_some, aZa h.good, Option.bind_some, hip']
    simp only
    unfold aEc
    by_cases h0 : (nN p d p.Teams[j].Player).2 = 0
    · rw [decide_eq_true h0, if_pos h0, Bool.not_true, cond_false, q1.1, Option.bind_some, aWw q1.2.1 q1.2.2, Option.bind_some, q2.1, Option.bind_some, aWw q2.2.1 q2.2.2, Option.bind_some]
    · rw [decide_eq_false h0, if_neg h0, Bool.not_false, cond_true]
omit hz in
theorem aEj (person : Int) : (0 ≤ (jO p d person).Low ∧ (jO p d person).Low ≤ 10000000) ∧ (0 ≤ (jO p d person).High ∧ (jO p d person).High ≤ 10000000) := by
  unfold jO
  split
  · rename_i t _
    unfold aEc
    split
    · have hr := zY p d t.Player (by have := h.good.ht.r1; omega)
      have q1 := oU h.prizes hr.1.1 hr.1.2
      have q2 := oU h.prizes hr.2.1 hr.2.2
      exact ⟨aKt q1.2.1 q1.2.2, aKt q2.2.1 q2.2.2⟩
    · simp
  · simp
end
end Go.Am

end
section
namespace Go.Am

/-- At most one of a row is of a person. -/
theorem aIe {α S : Type} (q : α → Bool) (g : S → α → S) : ∀ (l : List α) (s : S), l.Pairwise (fun x y => ¬ (q x = true ∧ q y = true)) → l.foldl (fun s x => bif q x then g s x else s) s = match l.find? q with | some x => g s x | none => s
  | [], s, _ => rfl
  | x :: l, s, h => by
    have h' := List.pairwise_cons.1 h
    rw [List.foldl_cons, List.find?_cons]
    cases hq : q x with
    | true =>
      simp only [cond_true]
      have hno : ∀ (l : List α) (s : S), (∀ y ∈ l, q y = false) → l.foldl (fun s x => bif q x then g s x else s) s = s := by
        intro l
        induction l with
        | nil => intro s _; rfl
        | cons y l ih => intro s hl; rw [List.foldl_cons, hl y List.mem_cons_self, cond_false]; exact ih s fun z hz => hl z (List.mem_cons_of_mem _ hz)
      exact hno l _ fun y hy => by
        cases hy' : q y with
        | false => rfl
        | true => exact absurd ⟨hq, hy'⟩ (h'.1 y hy)
    | false => rw [cond_false]; exact aIe q g l s h'.2
/-- The items, each once, in the order of their Ids. -/
def gA (p : aM) : List aG := (List.range 100).filterMap fun id : Nat => p.Items.find? fun x => decide (x.Id = (id : Int))
theorem wC {p : aM} (hid : ∀ x ∈ p.Items, 0 ≤ x.Id ∧ x.Id ≤ 99) (hc : ¬ aEs p.Items) (x : aG) : x ∈ gA p ↔ x ∈ p.Items := by
  unfold gA
  rw [List.mem_filterMap]
  constructor
  · rintro ⟨id, _, h⟩; exact List.mem_of_find?_eq_some h
  · intro hx
    have hb := hid x hx
    refine ⟨x.Id.toNat, List.mem_range.2 (by omega), ?_⟩
    have hsome : (p.Items.find? fun y => decide (y.Id = ((x.Id.toNat : Nat) : Int))).isSome := by
      rw [List.find?_isSome]
      exact ⟨x, hx, by simp; omega⟩
    obtain ⟨y, hy⟩ := Option.isSome_iff_exists.1 hsome
    have h1 := List.mem_of_find?_eq_some hy
    have h2 := List.find?_some hy
    simp only [decide_eq_true_eq] at h2
    rw [hy]
    congr 1
    exact Classical.byContradiction fun hne => hc ⟨y, h1, x, hx, by omega, hne⟩
theorem aDo (p : aM) : (gA p).Pairwise fun x y => x.Id < y.Id := by
  unfold gA
  refine List.Pairwise.filterMap (R := fun a b : Nat => a < b) _ ?_ List.pairwise_lt_range
  intro a b hab x hx y hy
  have h1 := List.find?_some hx
  have h2 := List.find?_some hy
  simp only [decide_eq_true_eq] at h1 h2
  omega
section
variable {p : aM} (hz : Sz p) {d : List Int} (h : GP p d)
include hz h
omit hz in
theorem qJ : (∀ x ∈ p.Items, uW p x = true) ∧ ¬ aEs p.Items ∧ p.Items.length ≤ 40 := by
  have := h.items
  unfold sU at this
  rw [Bool.and_eq_true, decide_eq_true_eq] at this
  obtain ⟨h1, h2⟩ := (wD p).1 this.1
  exact ⟨h1, h2, this.2⟩
omit hz in
theorem bAa : oF p.Items = some (gA p, true) := by
  obtain ⟨h1, h2, h3⟩ := qJ h
  have hid : ∀ x ∈ p.Items, 0 ≤ x.Id ∧ x.Id ≤ 99 := fun x hx => (tH.1 (h1 x hx)).1
  rcases aOq p.Items hid (by omega) with ⟨hc, _⟩ | ⟨_, zs, ho, hst, hm, _⟩
  · exact absurd hc h2
  · rw [ho, xB (key := fun x : aG => x.Id) hst (aDo p) fun x => (hm x).trans (wC hid h2 x).symm]
omit hz in
theorem aYo : ∀ x ∈ gA p, uW p x = true := fun x hx => by
  obtain ⟨h1, h2, h3⟩ := qJ h
  exact h1 x ((wC (fun x hx => (tH.1 (h1 x hx)).1) h2 x).1 hx)
omit hz in
theorem aAl : (gA p).length ≤ 40 := by
  obtain ⟨h1, h2, h3⟩ := qJ h
  have hm := wC (fun x hx => (tH.1 (h1 x hx)).1) h2
  exact Nat.le_trans (pI ((aDo p).imp fun hxy he => by rw [he] at hxy; omega) fun x hx => (hm x).1 hx) h3
end
/-- What is taken off, what days bring, the fines. -/
def zU (p : aM) (person g : Int) : Int := match p.Levies.find? fun l => decide (l.Person = person) with | some l => (g * l.Mille).tdiv 1000 | none => 0
def aEi (D person : Int) (s : Int) (x : aG) : Int := bif decide (x.Person = person) && decide (x.Kind = 2) then s + x.Amount * D else s
def zV (person : Int) (s : Int) (x : aG) : Int := bif decide (x.Person = person) && !decide (x.Kind = 2) then s + x.Amount else s
def xF (p : aM) (person : Int) : Int := (gA p).foldl (aEi p.Daily person) 0
def tU (p : aM) (person : Int) : Int := (gA p).foldl (zV person) 0
def sO (p : aM) (person : Int) : Int × Int := match p.Rates.find? fun r => decide (r.Person = person) with | some r => (r.Num, r.Den) | none => (1, 1)
def oI (person g tax day fine num den : Int) : bC :=
  ⟨person, g, tax, day, fine, max 0 (-(g + day - tax - fine)), (max 0 (g + day - tax - fine) * num).tdiv den, ((max 0 (g + day - tax - fine) * num).tdiv den * den + num - 1).tdiv num, max 0 (g + day - tax - fine) - ((max 0 (g + day - tax - fine) * num).tdiv den * den + num - 1).tdiv num⟩
def yD (p : aM) (d : List Int) (person : Int) : bC := oI person (jO p d person).Low (zU p person (jO p d person).Low) (xF p person) (tU p person) (sO p person).1 (sO p person).2
theorem aHw {D : Int} (hD : 0 ≤ D ∧ D ≤ 100000) {person : Int} : ∀ (l : List aG) (s : Int), (∀ x ∈ l, 0 ≤ x.Amount ∧ (x.Kind = 2 → x.Amount ≤ 30)) → 0 ≤ s → 0 ≤ l.foldl (aEi D person) s ∧ l.foldl (aEi D person) s ≤ s + 3000000 * l.length
  | [], s, _, h0 => by simp [h0]
  | x :: l, s, h, h0 => by
    rw [List.foldl_cons]
    have hx := h x List.mem_cons_self
    have hs : 0 ≤ aEi D person s x ∧ aEi D person s x ≤ s + 3000000 := by
      unfold aEi
      cases hc : (decide (x.Person = person) && decide (x.Kind = 2)) with
      | false => rw [cond_false]; omega
      | true =>
        rw [cond_true]
        simp only [Bool.and_eq_true, decide_eq_true_eq] at hc
        have h1 := Int.mul_nonneg hx.1 hD.1
        have h2 : x.Amount * D ≤ 30 * 100000 := Int.mul_le_mul (hx.2 hc.2) hD.2 hD.1 (by omega)
        omega
    have := aHw hD (person := person) l (aEi D person s x) (fun y hy => h y (List.mem_cons_of_mem _ hy)) hs.1
    rw [List.length_cons]
    omega
theorem aFs {person : Int} : ∀ (l : List aG) (s : Int), (∀ x ∈ l, 0 ≤ x.Amount ∧ x.Amount ≤ 10000000) → 0 ≤ s → 0 ≤ l.foldl (zV person) s ∧ l.foldl (zV person) s ≤ s + 10000000 * l.length
  | [], s, _, h0 => by simp [h0]
  | x :: l, s, h, h0 => by
    rw [List.foldl_cons]
    have hx := h x List.mem_cons_self
    have hs : 0 ≤ zV person s x ∧ zV person s x ≤ s + 10000000 := by
      unfold zV
      cases (decide (x.Person = person) && !decide (x.Kind = 2)) <;> simp <;> omega
    have := aFs (person := person) l (zV person s x) (fun y hy => h y (List.mem_cons_of_mem _ hy)) hs.1
    rw [List.length_cons]
    omega
end Go.Am

end
section
namespace Go.Am

theorem aJd {α S T : Type} (f : S → α → S) (g : T → α → T) : ∀ (l : List α) (s : S × T), l.foldl (fun s x => (f s.1 x, g s.2 x)) s = (l.foldl f s.1, l.foldl g s.2)
  | [], s => rfl
  | x :: l, s => by rw [List.foldl_cons, aJd f g l]; rfl
theorem aGx {a b : Int} (ha : 0 ≤ a) (hb : 1 ≤ b) : a.tdiv b = a / b ∧ 0 ≤ a / b ∧ a / b ≤ a := by
  refine ⟨Int.tdiv_eq_ediv_of_nonneg ha, Int.ediv_nonneg ha (by omega), ?_⟩
  exact Int.ediv_le_self b ha
/-- What is in a bill. -/
structure aPq (g tax day fine num den : Int) : Prop where
  gr : 0 ≤ g ∧ g ≤ 10000000
  taxr : 0 ≤ tax ∧ tax ≤ g
  dayr : 0 ≤ day ∧ day ≤ 120000000
  finer : 0 ≤ fine ∧ fine ≤ 400000000
  numr : 1 ≤ num ∧ num ≤ 10000
  denr : 1 ≤ den ∧ den ≤ 10000
theorem aUe {person g tax day fine num den : Int} (h : aPq g tax day fine num den) :
    bC.mk person g tax day fine (max 0 (w64 (-(w64 ((w64 ((w64 (g + day)) - tax)) - fine))))) (w64 ((w64 ((max 0 (w64 ((w64 ((w64 (g + day)) - tax)) - fine))) * num)).tdiv den)) (w64 ((w64 ((w64 ((w64 ((w64 ((w64 ((max 0 (w64 ((w64 ((w64 (g + day)) - tax)) - fine))) * num)).tdiv den)) * den)) + num)) - 1)).tdiv num)) (w64 ((max 0 (w64 ((w64 ((w64 (g + day)) - tax)) - fine))) - (w64 ((w64 ((w64 ((w64 ((w64 ((w64 ((max 0 (w64 ((w64 ((w64 (g + day)) - tax)) - fine))) * num)).tdiv den)) * den)) + num)) - 1)).tdiv num)))) = oI person g tax day fine num den := by
  obtain ⟨h1, h2, h3, h4, h5, h6⟩ := h
  have w1 : w64 (g + day) = g + day := cC (by omega) (by omega)
  have w2 : w64 (g + day - tax) = g + day - tax := cC (by omega) (by omega)
  have w3 : w64 (g + day - tax - fine) = g + day - tax - fine := cC (by omega) (by omega)
  have w4 : w64 (-(g + day - tax - fine)) = -(g + day - tax - fine) := cC (by omega) (by omega)
  rw [w1, w2, w3, w4]
  obtain ⟨paid, hp⟩ : ∃ paid, paid = max 0 (g + day - tax - fine) := ⟨_, rfl⟩
  have hpr : 0 ≤ paid ∧ paid ≤ 130000000 := by omega
  unfold oI
  rw [← hp]
  have m1 := Int.mul_nonneg hpr.1 (show (0 : Int) ≤ num by omega)
  have m2 : paid * num ≤ 130000000 * 10000 := Int.mul_le_mul hpr.2 h5.2 (by omega) (by omega)
  have w5 : w64 (paid * num) = paid * num := cC (by omega) (by omega)
  obtain ⟨t1, t2, t3⟩ := aGx m1 h6.1
  have w6 : w64 ((paid * num).tdiv den) = (paid * num).tdiv den := by rw [t1]; exact cC (by omega) (by omega)
  rw [w5, w6]
  obtain ⟨units, hu⟩ : ∃ units, units = (paid * num).tdiv den := ⟨_, rfl⟩
  have hur : 0 ≤ units ∧ units ≤ 1300000000000 := by rw [hu, t1]; omega
  rw [← hu]
  have m3 := Int.mul_nonneg hur.1 (show (0 : Int) ≤ den by omega)
  have m4 : units * den ≤ 1300000000000 * 10000 := Int.mul_le_mul hur.2 h6.2 (by omega) (by omega)
  have w7 : w64 (units * den) = units * den := cC (by omega) (by omega)
  have w8 : w64 (units * den + num) = units * den + num := cC (by omega) (by omega)
  have w9 : w64 (units * den + num - 1) = units * den + num - 1 := cC (by omega) (by omega)
  rw [w7, w8, w9]
  obtain ⟨t4, t5, t6⟩ := aGx (show 0 ≤ units * den + num - 1 by omega) h5.1
  have w10 : w64 ((units * den + num - 1).tdiv num) = (units * den + num - 1).tdiv num := by rw [t4]; exact cC (by omega) (by omega)
  rw [w10]
  have w11 : w64 (paid - (units * den + num - 1).tdiv num) = paid - (units * den + num - 1).tdiv num := by rw [t4]; exact cC (by omega) (by omega)
  rw [w11]
section
variable {p : aM} (hz : Sz p) {d : List Int} (h : GP p d)
include h
theorem vM : (∀ x ∈ p.Levies, mN p x.Person = true ∧ 0 ≤ x.Mille ∧ x.Mille ≤ 500) ∧ p.Levies.Pairwise fun x y => x.Person ≠ y.Person := by
  have hw := aFe p.Levies (aBi p) (fun x => mN p x.Person = true ∧ 0 ≤ x.Mille ∧ x.Mille ≤ 500) (fun y x => y.Person ≠ x.Person) (fun pre x => by
    unfold aBi
    rw [Bool.and_eq_true, Bool.and_eq_true, wU, Bool.not_eq_true', decide_eq_false_iff_not, List.mem_map, and_assoc]
    constructor
    · rintro ⟨a, b, c⟩; exact ⟨⟨a, b⟩, fun y hy he => c ⟨y, hy, he⟩⟩
    · rintro ⟨⟨a, b⟩, c⟩; exact ⟨a, b, fun ⟨y, hy, he⟩ => c y hy he⟩)
  exact hw.1 h.levies
theorem zX : (∀ x ∈ p.Rates, (mN p x.Person = true ∧ 1 ≤ x.Num ∧ x.Num ≤ 10000) ∧ 1 ≤ x.Den ∧ x.Den ≤ 10000) ∧ p.Rates.Pairwise fun x y => x.Person ≠ y.Person := by
  have hw := aFe p.Rates (aBk p) (fun x => (mN p x.Person = true ∧ 1 ≤ x.Num ∧ x.Num ≤ 10000) ∧ 1 ≤ x.Den ∧ x.Den ≤ 10000) (fun y x => y.Person ≠ x.Person) (fun pre x => by
    unfold aBk
    rw [Bool.and_eq_true, Bool.and_eq_true, Bool.and_eq_true, wU, wU, Bool.not_eq_true', decide_eq_false_iff_not, List.mem_map]
    constructor
    · rintro ⟨⟨⟨a, b⟩, e⟩, c⟩; exact ⟨⟨⟨a, b⟩, e⟩, fun y hy he => c ⟨y, hy, he⟩⟩
    · rintro ⟨⟨⟨a, b⟩, e⟩, c⟩; exact ⟨⟨⟨a, b⟩, e⟩, fun ⟨y, hy, he⟩ => c y hy he⟩)
  exact hw.1 h.rates
theorem aZk (person g : Int) : p.Levies.foldl (fun s l => bif decide (l.Person = person) then (g * l.Mille).tdiv 1000 else s) 0 = zU p person g := by
  have := aIe (fun l : cA => decide (l.Person = person)) (fun (_ : Int) l => (g * l.Mille).tdiv 1000) p.Levies 0 ((vM h).2.imp fun hne hb => hne (by simp only [decide_eq_true_eq] at hb; omega))
  rw [this]
  unfold zU
  cases p.Levies.find? fun l => decide (l.Person = person) <;> rfl
theorem aWz (person : Int) : p.Rates.foldl (fun s r => bif decide (r.Person = person) then (r.Num, r.Den) else s) (1, 1) = sO p person := by
  have := aIe (fun r : bT => decide (r.Person = person)) (fun (_ : Int × Int) r => (r.Num, r.Den)) p.Rates (1, 1) ((zX h).2.imp fun hne hb => hne (by simp only [decide_eq_true_eq] at hb; omega))
  rw [this]
  unfold sO
  cases p.Rates.find? fun r => decide (r.Person = person) <;> rfl
theorem aXv {person g : Int} (hg : 0 ≤ g ∧ g ≤ 10000000) : 0 ≤ zU p person g ∧ zU p person g ≤ g := by
  unfold zU
  split
  · rename_i l hl
    have := (vM h).1 l (List.mem_of_find?_eq_some hl)
    have m1 := Int.mul_nonneg hg.1 this.2.1
    have m2 : g * l.Mille ≤ g * 500 := Int.mul_le_mul_of_nonneg_left this.2.2 hg.1
    rw [Int.tdiv_eq_ediv_of_nonneg m1]
    omega
  · omega
theorem aNg (person : Int) : (1 ≤ (sO p person).1 ∧ (sO p person).1 ≤ 10000) ∧ 1 ≤ (sO p person).2 ∧ (sO p person).2 ≤ 10000 := by
  unfold sO
  split
  · rename_i r hr
    have := (zX h).1 r (List.mem_of_find?_eq_some hr)
    exact ⟨this.1.2, this.2⟩
  · simp
theorem oR : ∀ x ∈ gA p, (0 ≤ x.Amount ∧ x.Amount ≤ 10000000) ∧ (x.Kind = 2 → x.Amount ≤ 30) ∧ (x.Kind = 1 ∨ x.Kind = 2) := fun x hx => by
  have := tH.1 (aYo h x hx)
  rcases this.2.2 with ⟨h1, h2⟩ | ⟨h1, h2⟩ <;> omega
theorem bBr (person : Int) : 0 ≤ xF p person ∧ xF p person ≤ 120000000 := by
  have := aHw (D := p.Daily) (vQ h.prizes).2.2 (person := person) (gA p) 0 (fun x hx => ⟨((oR h) x hx).1.1, ((oR h) x hx).2.1⟩) (Int.le_refl _)
  have hl := aAl h
  unfold xF; omega
theorem bAs (person : Int) : 0 ≤ tU p person ∧ tU p person ≤ 400000000 := by
  have := aFs (person := person) (gA p) 0 (fun x hx => ((oR h) x hx).1) (Int.le_refl _)
  have hl := aAl h
  unfold tU; omega
theorem aTi (person : Int) : aPq (jO p d person).Low (zU p person (jO p d person).Low) (xF p person) (tU p person) (sO p person).1 (sO p person).2 :=
  ⟨(aEj h person).1, aXv h (aEj h person).1, bBr h person, bAs h person, (aNg h person).1, (aNg h person).2⟩
theorem aWn {g : Int} (hg : 0 ≤ g ∧ g ≤ 10000000) {x : cA} (hx : x ∈ p.Levies) : w64 ((w64 (g * x.Mille)).tdiv 1000) = (g * x.Mille).tdiv 1000 := by
  have := (vM h).1 x hx
  have m1 := Int.mul_nonneg hg.1 this.2.1
  have m2 : g * x.Mille ≤ 10000000 * 500 := Int.mul_le_mul hg.2 this.2.2 this.2.1 (by omega)
  rw [cC (show -9223372036854775808 ≤ g * x.Mille by omega) (by omega), Int.tdiv_eq_ediv_of_nonneg m1, cC (by omega) (by omega)]
theorem aUo {person : Int} {i : Nat} {s : Int × Int} (hs : s = ((gA p).take i).foldl (fun s x => (aEi p.Daily person s.1 x, zV person s.2 x)) (0, 0)) : (0 ≤ s.1 ∧ s.1 ≤ 120000000) ∧ (0 ≤ s.2 ∧ s.2 ≤ 400000000) := by
  have hl := aAl h
  have hlt : ((gA p).take i).length ≤ 40 := by simp; omega
  rw [hs, aJd]
  have h1 := aHw (D := p.Daily) (vQ h.prizes).2.2 (person := person) ((gA p).take i) 0 (fun x hx => ⟨((oR h) x (List.mem_of_mem_take hx)).1.1, ((oR h) x (List.mem_of_mem_take hx)).2.1⟩) (Int.le_refl _)
  have h2 := aFs (person := person) ((gA p).take i) 0 (fun x hx => ((oR h) x (List.mem_of_mem_take hx)).1) (Int.le_refl _)
  simp only
  omega
theorem aYf {x : aG} (hx : x ∈ gA p) (k2 : x.Kind = 2) : 0 ≤ x.Amount * p.Daily ∧ x.Amount * p.Daily ≤ 3000000 := by
  have ha := (oR h) x hx
  have hD := (vQ h.prizes).2.2
  have m1 := Int.mul_nonneg ha.1.1 hD.1
  have m2 : x.Amount * p.Daily ≤ 30 * 100000 := Int.mul_le_mul (ha.2.1 k2) hD.2 hD.1 (by omega)
  omega
include hz
theorem aZz (person : Int) : wG p person = some (yD p d person) := by
  have hg := (aEj h person).1
  have hlv := hz.levies
  have hrt := hz.rates
  have hil := aAl h
  obtain ⟨g, hge⟩ : ∃ g, g = (jO p d person).Low := ⟨_, rfl⟩
  rw [← hge] at hg
  unfold wG
  rw [aWv hz h person, Option.bind_some]
  show lM person p.Levies (p.Levies.length : Int) p _ BIG 0 (bC.mk person (jO p d person).Low 0 0 0 0 0 0 0) = _
  rw [← hge]
  have main := tG (fun k i s => lM person p.Levies (p.Levies.length : Int) p (bC.mk 0 0 0 0 0 0 0 0 0) k i (bC.mk person g s 0 0 0 0 0 0)) p.Levies (fun s l => bif decide (l.Person = person) then (g * l.Mille).tdiv 1000 else s) (fun s => wZ person p (bC.mk 0 0 0 0 0 0 0 0 0) (bC.mk person g s 0 0 0 0 0 0)) 0 ?_ ?_ BIG (cL (by omega))
  · refine Eq.trans main ?_
    rw [aZk h]
    obtain ⟨tax, htx⟩ : ∃ tax, tax = zU p person g := ⟨_, rfl⟩
    rw [← htx]
    unfold wZ
    rw [bAa h, Option.bind_some]
    have main2 := tG (S := Int × Int) (fun k i s => lN person (gA p) ((gA p).length : Int) p (bC.mk 0 0 0 0 0 0 0 0 0) k i (bC.mk person g tax s.1 s.2 0 0 0 0)) (gA p) (fun s x => (aEi p.Daily person s.1 x, zV person s.2 x)) (fun s => uH person p (bC.mk 0 0 0 0 0 0 0 0 0) (bC.mk person g tax s.1 s.2 0 0 0 0)) (0, 0) ?_ ?_ BIG (cL (by omega))
    · refine Eq.trans main2 ?_
      rw [aJd]
      show uH person p _ (bC.mk person g tax (xF p person) (tU p person) 0 0 0 0) = _
      unfold uH
      have main3 := tG (S := Int × Int) (fun k i s => nF person (max 0 (w64 ((w64 ((w64 (g + xF p person)) - tax)) - tU p person))) p.Rates (p.Rates.length : Int) (bC.mk 0 0 0 0 0 0 0 0 0) (bC.mk person g tax (xF p person) (tU p person) (max 0 (w64 (-(w64 ((w64 ((w64 (g + xF p person)) - tax)) - tU p person))))) 0 0 0) k s.1 s.2 i) p.Rates (fun s r => bif decide (r.Person = person) then (r.Num, r.Den) else s) (fun s => xA (max 0 (w64 ((w64 ((w64 (g + xF p person)) - tax)) - tU p person))) s.1 s.2 (bC.mk 0 0 0 0 0 0 0 0 0) (bC.mk person g tax (xF p person) (tU p person) (max 0 (w64 (-(w64 ((w64 ((w64 (g + xF p person)) - tax)) - tU p person))))) 0 0 0)) (1, 1) ?_ ?_ BIG (cL (by omega))
      · refine Eq.trans main3 ?_
        rw [aWz h]
        have hb := aTi h person
        rw [← hge, ← htx] at hb
        unfold xA
        rw [decide_eq_false (show ¬ (sO p person).2 = 0 by have := hb.denr; omega), decide_eq_false (show ¬ (sO p person).1 = 0 by have := hb.numr; omega)]
        show some _ = _
        have := aUe (person := person) hb
        unfold yD
        rw [← hge, ← htx, ← this]
      · intro k i hi s hs
        have hlt : decide ((i : Int) < (p.Rates.length : Int)) = true := decide_eq_true (by omega)
        simp only [nF, hlt, cond_true, bY hi, Option.bind_some, bM (show i < 9223372036854775807 by omega)]
        cases decide (p.Rates[i].Person = person) <;> rfl
      · intro k s
        have hlt : decide ((p.Rates.length : Int) < (p.Rates.length : Int)) = false := decide_eq_false (by omega)
        simp only [nF, hlt, cond_false]
    · intro k i hi s hs
      have hlt : decide ((i : Int) < ((gA p).length : Int)) = true := decide_eq_true (by omega)
      have hst := aUo h hs
      have hx : (gA p)[i] ∈ gA p := List.getElem_mem hi
      have ha := (oR h) _ hx
      simp only [lN, hlt, cond_true, bY hi, Option.bind_some, bM (show i < 9223372036854775807 by omega)]
      unfold aEi zV
      cases decide ((gA p)[i].Person = person) with
      | false => rfl
      | true =>
        by_cases k2 : (gA p)[i].Kind = 2
        · have hp := aYf h hx k2
          rw [decide_eq_true k2]
          simp only [Bool.not_true, cond_false, cond_true, Bool.and_true, Bool.and_false]
          rw [cC (show -9223372036854775808 ≤ (gA p)[i].Amount * p.Daily by omega) (by omega), cC (show -9223372036854775808 ≤ s.1 + (gA p)[i].Amount * p.Daily by omega) (by omega)]
        · rw [decide_eq_false k2]
          simp only [Bool.not_true, Bool.not_false, cond_false, cond_true, Bool.and_true, Bool.and_false]
          rw [cC (show -9223372036854775808 ≤ s.2 + (gA p)[i].Amount by omega) (by omega)]
    · intro k s
      have hlt : decide (((gA p).length : Int) < ((gA p).length : Int)) = false := decide_eq_false (by omega)
      simp only [lN, hlt, cond_false]
  · intro k i hi s hs
    have hlt : decide ((i : Int) < (p.Levies.length : Int)) = true := decide_eq_true (by omega)
    have hstep := aWn h hg (List.getElem_mem hi)
    simp only [lM, hlt, cond_true, bY hi, Option.bind_some, bM (show i < 9223372036854775807 by omega), hstep]
    cases decide (p.Levies[i].Person = person) <;> rfl
  · intro k s
    have hlt : decide ((p.Levies.length : Int) < (p.Levies.length : Int)) = false := decide_eq_false (by omega)
    simp only [lM, hlt, cond_false]
end
end Go.Am

end
section
namespace Go.Am

/-- What is true of a bill. -/
theorem aUf {person g tax day fine num den : Int} (h : aPq g tax day fine num den) :
    (0 ≤ (oI person g tax day fine num den).Units ∧ (oI person g tax day fine num den).Units ≤ 1300000000000) ∧
    (0 ≤ (oI person g tax day fine num den).Used ∧ (oI person g tax day fine num den).Used ≤ 130000000) ∧
    (0 ≤ (oI person g tax day fine num den).Rest ∧ (oI person g tax day fine num den).Rest ≤ 130000000) ∧
    (0 ≤ (oI person g tax day fine num den).Debt ∧ (oI person g tax day fine num den).Debt ≤ 410000000) ∧
    (oI person g tax day fine num den).Used + (oI person g tax day fine num den).Rest = max 0 (g + day - tax - fine) ∧
    (oI person g tax day fine num den).Units = max 0 (g + day - tax - fine) * num / den ∧
    (oI person g tax day fine num den).Used = ((oI person g tax day fine num den).Units * den + num - 1) / num := by
  obtain ⟨h1, h2, h3, h4, h5, h6⟩ := h
  unfold oI
  simp only
  obtain ⟨paid, hp⟩ : ∃ paid, paid = max 0 (g + day - tax - fine) := ⟨_, rfl⟩
  have hpr : 0 ≤ paid ∧ paid ≤ 130000000 := by omega
  rw [← hp]
  have m1 := Int.mul_nonneg hpr.1 (show (0 : Int) ≤ num by omega)
  have m2 : paid * num ≤ 130000000 * 10000 := Int.mul_le_mul hpr.2 h5.2 (by omega) (by omega)
  obtain ⟨t1, t2, t3⟩ := aGx m1 h6.1
  rw [t1]
  obtain ⟨units, hu⟩ : ∃ units, units = paid * num / den := ⟨_, rfl⟩
  rw [← hu]
  have hur : 0 ≤ units ∧ units ≤ 1300000000000 := by rw [hu]; omega
  have m3 := Int.mul_nonneg hur.1 (show (0 : Int) ≤ den by omega)
  obtain ⟨t4, t5, t6⟩ := aGx (show 0 ≤ units * den + num - 1 by omega) h5.1
  rw [t4]
  have hle : units * den ≤ paid * num := by rw [hu]; exact Int.ediv_mul_le _ (by omega)
  have hused : (units * den + num - 1) / num ≤ paid := by
    have : (units * den + num - 1) / num < paid + 1 := Int.ediv_lt_of_lt_mul (by omega) (by rw [Int.add_mul, Int.one_mul]; omega)
    omega
  refine ⟨hur, ⟨t5, by omega⟩, ⟨by omega, by omega⟩, ⟨by omega, by omega⟩, by omega, rfl, rfl⟩
/-- The persons, in their order. -/
def wE (p : aM) : List Int := ((List.range 1000).map fun n : Nat => (n : Int)).filter (mN p)
def aEe (s b : bC) : bC := ⟨s.Person, s.Gross + b.Gross, s.Tax + b.Tax, s.Daily + b.Daily, s.Fines + b.Fines, s.Debt + b.Debt, s.Units + b.Units, s.Used + b.Used, s.Rest + b.Rest⟩
def pO (p : aM) (d : List Int) : List bC := (wE p).map (yD p d)
def aRu (p : aM) (d : List Int) : bC := (pO p d).foldl aEe ⟨-1, 0, 0, 0, 0, 0, 0, 0, 0⟩
theorem aQy {p : aM} (ht : ∀ t ∈ p.Teams, mW t = true) {n : Int} (hn : mN p n = true) : 0 ≤ n ∧ n ≤ 999 := by
  rw [xX, decide_eq_true_eq, aMy] at hn
  obtain ⟨t, h1, h2⟩ := hn
  have := tL.1 (ht t h1)
  rcases h2 with h2 | h2 <;> omega
theorem aYz (n : Nat) : ((List.range n).map fun n : Nat => (n : Int)).Pairwise fun x y => x < y := List.Pairwise.map _ (fun a b h => by omega) List.pairwise_lt_range
theorem aSr {p : aM} (ht : ∀ t ∈ p.Teams, mW t = true) (n : Int) : n ∈ wE p ↔ mN p n = true := by
  unfold wE
  rw [List.mem_filter, List.mem_map]
  constructor
  · exact fun h => h.2
  · intro h
    have := aQy ht h
    exact ⟨⟨n.toNat, List.mem_range.2 (by omega), by omega⟩, h⟩
theorem aPd {p : aM} {d : List Int} (h : GP p d) : fC (dF p) = wE p := by
  have ht := aBq h.teams
  have hn : (dF p).Nodup := by
    have := h.teams
    unfold pT at this
    simp only [Bool.and_eq_true, decide_eq_true_eq] at this
    exact this.1.1.2
  have hs : (fC (dF p)).Pairwise fun x y : Int => x ≤ y := by
    have := List.pairwise_mergeSort (le := fun x y : Int => decide (x ≤ y)) (by intro a b c; simp only [decide_eq_true_eq]; omega) (by intro a b; simp only [Bool.or_eq_true, decide_eq_true_eq]; omega) (dF p)
    exact this.imp fun h => by simpa using h
  have hnd : (fC (dF p)).Nodup := (mU _).nodup_iff.2 hn
  refine xB (key := fun x : Int => x) (hs.imp₂ (fun _ _ a b => by omega) hnd) ((aYz 1000).sublist List.filter_sublist) fun x => ?_
  rw [aSr ht, xX, decide_eq_true_eq]
theorem aEm (p : aM) : (wE p).length ≤ 1000 := Nat.le_trans (List.length_filter_le _ _) (by rw [List.length_map, List.length_range]; exact Nat.le_refl _)
/-- Sums that stay small. -/
structure SumIn (s : bC) (n : Int) : Prop where
  a1 : 0 ≤ s.Gross ∧ s.Gross ≤ n * 1300000000000
  a2 : 0 ≤ s.Tax ∧ s.Tax ≤ n * 1300000000000
  a3 : 0 ≤ s.Daily ∧ s.Daily ≤ n * 1300000000000
  a4 : 0 ≤ s.Fines ∧ s.Fines ≤ n * 1300000000000
  a5 : 0 ≤ s.Debt ∧ s.Debt ≤ n * 1300000000000
  a6 : 0 ≤ s.Units ∧ s.Units ≤ n * 1300000000000
  a7 : 0 ≤ s.Used ∧ s.Used ≤ n * 1300000000000
  a8 : 0 ≤ s.Rest ∧ s.Rest ≤ n * 1300000000000
theorem SumIn.add {s b : bC} {n : Int} (hs : SumIn s n) (hb : SumIn b 1) : SumIn (aEe s b) (n + 1) := by
  obtain ⟨a1, a2, a3, a4, a5, a6, a7, a8⟩ := hs
  obtain ⟨b1, b2, b3, b4, b5, b6, b7, b8⟩ := hb
  unfold aEe
  constructor <;> simp only <;> omega
theorem aXt : ∀ (l : List bC) (s : bC) (n : Int), SumIn s n → (∀ b ∈ l, SumIn b 1) → SumIn (l.foldl aEe s) (n + l.length)
  | [], s, n, hs, _ => by simpa using hs
  | b :: l, s, n, hs, hb => by
    rw [List.foldl_cons, List.length_cons]
    have := aXt l (aEe s b) (n + 1) (hs.add (hb b List.mem_cons_self)) fun c hc => hb c (List.mem_cons_of_mem _ hc)
    have e : n + 1 + (l.length : Int) = n + ((l.length + 1 : Nat) : Int) := by omega
    rwa [e] at this
theorem aYb {p : aM} {d : List Int} (h : GP p d) (person : Int) : SumIn (yD p d person) 1 := by
  have hb := aTi h person
  obtain ⟨f1, f2, f3, f4, _⟩ := aUf (person := person) hb
  obtain ⟨h1, h2, h3, h4, h5, h6⟩ := hb
  unfold yD
  constructor
  · show 0 ≤ (jO p d person).Low ∧ (jO p d person).Low ≤ _; omega
  · show 0 ≤ zU p person (jO p d person).Low ∧ zU p person (jO p d person).Low ≤ _; omega
  · show 0 ≤ xF p person ∧ xF p person ≤ _; omega
  · show 0 ≤ tU p person ∧ tU p person ≤ _; omega
  · omega
  · omega
  · omega
  · omega
theorem aZt (n : Int) : SumIn ⟨n, 0, 0, 0, 0, 0, 0, 0, 0⟩ 0 := by constructor <;> simp
theorem aZj {s b : bC} (hs : SumIn s 1000) (hb : SumIn b 1) : bC.mk s.Person (w64 (s.Gross + b.Gross)) (w64 (s.Tax + b.Tax)) (w64 (s.Daily + b.Daily)) (w64 (s.Fines + b.Fines)) (w64 (s.Debt + b.Debt)) (w64 (s.Units + b.Units)) (w64 (s.Used + b.Used)) (w64 (s.Rest + b.Rest)) = aEe s b := by
  obtain ⟨a1, a2, a3, a4, a5, a6, a7, a8⟩ := hs
  obtain ⟨b1, b2, b3, b4, b5, b6, b7, b8⟩ := hb
  unfold aEe
  rw [cC (n := s.Gross + b.Gross) (by omega) (by omega), cC (n := s.Tax + b.Tax) (by omega) (by omega), cC (n := s.Daily + b.Daily) (by omega) (by omega), cC (n := s.Fines + b.Fines) (by omega) (by omega), cC (n := s.Debt + b.Debt) (by omega) (by omega), cC (n := s.Units + b.Units) (by omega) (by omega), cC (n := s.Used + b.Used) (by omega) (by omega), cC (n := s.Rest + b.Rest) (by omega) (by omega)]
theorem SumIn.mono {s : bC} {n m : Int} (h : SumIn s n) (hn : n ≤ m) : SumIn s m := by
  obtain ⟨a1, a2, a3, a4, a5, a6, a7, a8⟩ := h
  constructor <;> omega
section
variable {p : aM} (hz : Sz p) {d : List Int} (h : GP p d)
include hz h
theorem aMx : mO p = some (pO p d, 0) := by
  have hl := aEm p
  unfold mO
  rw [aJc hz, Option.bind_some, zN h, decide_eq_true rfl, Bool.not_true, cond_false, aGg p hz.teams, Option.bind_some, aPd h]
  unfold pO
  generalize wE p = R at hl ⊢
  have main := tG (fun k i s => nY R (R.length : Int) p k i s) R (fun s n => s ++ [yD p d n]) (fun s => some (s, (0 : Int))) [] ?_ ?_ BIG (cL (by omega))
  · refine Eq.trans main ?_
    rw [aLj]; rfl
  · intro k i hi s hs
    have hlt : decide ((i : Int) < (R.length : Int)) = true := decide_eq_true (by omega)
    have hsl : s.length ≤ i := by rw [hs, aLj]; simp; omega
    rw [nY, hlt, cond_true, bY hi, Option.bind_some, aZz hz h, Option.bind_some, eJ (by simp; omega), Option.bind_some, bM (by omega)]
  · intro k s
    have hlt : decide ((R.length : Int) < (R.length : Int)) = false := decide_eq_false (by omega)
    rw [nY, hlt, cond_false]; rfl
omit hz in
theorem aUg : ∀ b ∈ pO p d, SumIn b 1 := fun b hb => by
  obtain ⟨n, _, rfl⟩ := List.mem_map.1 hb
  exact aYb h n
theorem bCi : wR p = some (aRu p d, 0) := by
  have hl : (pO p d).length ≤ 1000 := by unfold pO; rw [List.length_map]; exact aEm p
  unfold wR
  rw [aMx hz h, Option.bind_some, decide_eq_true rfl, Bool.not_true, cond_false]
  have hsum := aUg h
  unfold aRu
  generalize pO p d = B at hl hsum ⊢
  have main := tG (fun k i s => nZ (B) (B.length : Int) (bC.mk 0 0 0 0 0 0 0 0 0) k i s) (B) aEe (fun s => some (s, (0 : Int))) ⟨-1, 0, 0, 0, 0, 0, 0, 0, 0⟩ ?_ ?_ BIG (cL (by omega))
  · exact main
  · intro k i hi s hs
    have hlt : decide ((i : Int) < (B.length : Int)) = true := decide_eq_true (by omega)
    have hin : SumIn s 1000 := by
      rw [hs]
      refine (aXt (B.take i) _ 0 (aZt (-1)) fun b hb => hsum b (List.mem_of_mem_take hb)).mono ?_
      rw [List.length_take]; omega
    rw [nZ, hlt, cond_true, bY hi, Option.bind_some, aZj hin (hsum _ (List.getElem_mem hi)), bM (by omega)]
  · intro k s
    have hlt : decide ((B.length : Int) < (B.length : Int)) = false := decide_eq_false (by omega)
    rw [nZ, hlt, cond_false]; rfl
theorem bAz (person : Int) : wP p person = some (bif mN p person then (jO p d person, 0) else (⟨0, 0⟩, 1)) := by
  unfold wP
  rw [aJc hz, Option.bind_some, zN h, decide_eq_true rfl, Bool.not_true, cond_false, aWv hz h, Option.bind_some]
  cases mN p person <;> rfl
theorem bCd (person : Int) : yO p person = some (bif mN p person then (yD p d person, 0) else (⟨0, 0, 0, 0, 0, 0, 0, 0, 0⟩, 1)) := by
  unfold yO
  rw [bAz hz h, Option.bind_some]
  cases mN p person with
  | false => rfl
  | true =>
    rw [cond_true, cond_true, decide_eq_true rfl, Bool.not_true, cond_false, aZz hz h, Option.bind_some]
end
section
variable {p : aM} (hz : Sz p)
include hz
end
end Go.Am

end
section
namespace Go.Am

section
variable {p : aM} (hz : Sz p) {d : List Int} (h : GP p d)
include hz
include h
end
section
variable {p : aM} (hz : Sz p)
include hz
end
end Go.Am

end
section
namespace Go.Am

theorem aCk {α : Type} (g : α → Int) : ∀ (l : List α) (s : Int), l.foldl (fun s x => s + g x) s = s + (l.map g).sum
  | [], s => by simp
  | x :: l, s => by rw [List.foldl_cons, aCk g l, List.map_cons, List.sum_cons, Int.add_assoc]
theorem aJs {α : Type} (g : α → Int) (B : Int) : ∀ (l : List α), (∀ x ∈ l, -B ≤ g x ∧ g x ≤ B) → -(B * l.length) ≤ (l.map g).sum ∧ (l.map g).sum ≤ B * l.length
  | [], _ => by simp
  | x :: l, h => by
    have h1 := aJs g B l fun y hy => h y (List.mem_cons_of_mem _ hy)
    have h2 := h x List.mem_cons_self
    have e : B * (((x :: l).length : Nat) : Int) = B * l.length + B := by rw [List.length_cons, Int.natCast_add, Int.mul_add]; simp
    rw [List.map_cons, List.sum_cons, e]; omega
def vU (p : aM) (i : Nat) : Int := kR p i * 2 ^ (p.Tree.Rounds.toNat - 1 - i)
def aFm (p : aM) (x : Int) : Int := bif decide (x = -1) then -kR p 0 else 0
/-- All prizes of the matches. -/
def bAb (p : aM) : Int := kR p p.Tree.Rounds + ((List.range p.Tree.Rounds.toNat).map (vU p)).sum + (p.Tree.Slots.map (aFm p)).sum
theorem bCv {n : Nat} (h : n ≤ 4) : (1 : Int) ≤ 2 ^ n ∧ (2 : Int) ^ n ≤ 16 := by
  have : n = 0 ∨ n = 1 ∨ n = 2 ∨ n = 3 ∨ n = 4 := by omega
  rcases this with rfl | rfl | rfl | rfl | rfl <;> decide
section
variable {p : aM} (hz : Sz p) {d : List Int} (h : GP p d)
include h
theorem aKr {i : Nat} (hi : i < p.Tree.Rounds.toNat) : 0 ≤ vU p i ∧ vU p i ≤ 160000000 := by
  have h5 := h.good.ht.r5
  have h1 := h.good.ht.r1
  have q := (oU h.prizes (i := (i : Int)) (by omega) (by omega)).2
  have w := bCv (n := p.Tree.Rounds.toNat - 1 - i) (by omega)
  unfold vU
  have m1 := Int.mul_nonneg q.1 (show (0 : Int) ≤ 2 ^ (p.Tree.Rounds.toNat - 1 - i) by omega)
  have m2 : kR p i * 2 ^ (p.Tree.Rounds.toNat - 1 - i) ≤ 10000000 * 16 := Int.mul_le_mul q.2 w.2 (by omega) (by omega)
  omega
theorem aVp (x : Int) : -10000000 ≤ aFm p x ∧ aFm p x ≤ 10000000 := by
  have h1 := h.good.ht.r1
  have q := (oU h.prizes (i := 0) (by omega) (by omega)).2
  unfold aFm
  cases decide (x = -1) <;> simp <;> omega
theorem aKs (i : Nat) : -(160000000 * 5) ≤ (((List.range p.Tree.Rounds.toNat).take i).map (vU p)).sum ∧ (((List.range p.Tree.Rounds.toNat).take i).map (vU p)).sum ≤ 160000000 * 5 := by
  have h5 := h.good.ht.r5
  have := aJs (vU p) 160000000 ((List.range p.Tree.Rounds.toNat).take i) fun x hx => by
    have := List.mem_range.1 (List.mem_of_mem_take hx)
    have := aKr h this
    omega
  have hl : ((List.range p.Tree.Rounds.toNat).take i).length ≤ 5 := by rw [List.length_take, List.length_range]; omega
  omega
theorem aVq (l : List Int) (hl : l.length ≤ 1000) : -(10000000 * 1000) ≤ (l.map (aFm p)).sum ∧ (l.map (aFm p)).sum ≤ 10000000 * 1000 := by
  have := aJs (aFm p) 10000000 l fun x _ => aVp h x
  omega
include hz
theorem bCu : yP p = some (bAb p, 0) := by
  have h5 := h.good.ht.r5
  have h1 := h.good.ht.r1
  have hs := hz.slots
  have qR := oU h.prizes (i := p.Tree.Rounds) (by omega) (by omega)
  have q0 := oU h.prizes (i := 0) (by omega) (by omega)
  unfold yP
  rw [aJc hz, Option.bind_some, zN h, decide_eq_true rfl, Bool.not_true, cond_false, qR.1, Option.bind_some]
  have main := tG (fun k i s => nD p.Tree.Rounds p k s i) (List.range p.Tree.Rounds.toNat) (fun s i => s + vU p i) (fun s => wY s p) (kR p p.Tree.Rounds) ?_ ?_ BIG (cL (by rw [List.length_range]; omega))
  · refine Eq.trans main ?_
    rw [aCk]
    unfold wY
    have rt := aKs h p.Tree.Rounds.toNat
    rw [List.take_of_length_le (by rw [List.length_range]; omega)] at rt
    obtain ⟨A, hA⟩ : ∃ A, A = kR p p.Tree.Rounds + ((List.range p.Tree.Rounds.toNat).map (vU p)).sum := ⟨_, rfl⟩
    rw [← hA]
    have main2 := tG (fun k i s => nE p.Tree.Slots (p.Tree.Slots.length : Int) p k s i) p.Tree.Slots (fun s x => s + aFm p x) (fun s => some (s, (0 : Int))) A ?_ ?_ BIG (cL (by omega))
    · refine Eq.trans main2 ?_
      rw [aCk, hA]; rfl
    · intro k i hi s hs'
      have hlt : decide ((i : Int) < (p.Tree.Slots.length : Int)) = true := decide_eq_true (by omega)
      have bt := aVq h (p.Tree.Slots.take i) (by rw [List.length_take]; omega)
      rw [aCk] at hs'
      simp only [nE, hlt, cond_true, bY hi, Option.bind_some, bM (show i < 9223372036854775807 by omega)]
      unfold aFm
      cases decide (p.Tree.Slots[i] = -1) with
      | true => rw [cond_true, cond_true, q0.1, Option.bind_some, cC (by omega) (by omega)]; rfl
      | false => rw [cond_false, cond_false, Int.add_zero]
    · intro k s
      have hlt : decide ((p.Tree.Slots.length : Int) < (p.Tree.Slots.length : Int)) = false := decide_eq_false (by omega)
      simp only [nE, hlt, cond_false]; rfl
  · intro k i hi s hs'
    have hi' : i < p.Tree.Rounds.toNat := by simpa using hi
    have hlt : decide ((i : Int) < p.Tree.Rounds) = true := decide_eq_true (by omega)
    have rt := aKs h i
    have rr := aKr h hi'
    rw [aCk] at hs'
    have qi := oU h.prizes (i := (i : Int)) (by omega) (by omega)
    have e1 : w64 ((w64 (p.Tree.Rounds - 1)) - (i : Int)) = ((p.Tree.Rounds.toNat - 1 - i : Nat) : Int) := by rw [cC (show -9223372036854775808 ≤ p.Tree.Rounds - 1 by omega) (by omega), cC (by omega) (by omega)]; omega
    have e2 : min (((p.Tree.Rounds.toNat - 1 - i : Nat) : Int)).toNat 64 = p.Tree.Rounds.toNat - 1 - i := by omega
    simp only [nD, hlt, cond_true, qi.1, Option.bind_some, e1, e2, bM (show i < 9223372036854775807 by omega)]
    rw [decide_eq_true (by omega)]
    show nD p.Tree.Rounds p k (w64 (s + w64 (vU p i))) _ = _
    rw [cC (n := vU p i) (by omega) (by omega), cC (by omega) (by omega), List.getElem_range]
  · intro k s
    have hlt : decide ((((List.range p.Tree.Rounds.toNat).length : Nat) : Int) < p.Tree.Rounds) = false := decide_eq_false (by rw [List.length_range]; omega)
    simp only [nD, hlt, cond_false]
end
section
variable {p : aM} (hz : Sz p)
include hz
end
end Go.Am

end
section
namespace Go.Am

def aFr : aM := (oL).getD ⟨⟨0, []⟩, [], [], 0, [], [], [], []⟩
theorem bAo : oL = some aFr := rfl
theorem bAq : oK aFr = 0 := by kernel_rfl
theorem aVz : (fW aFr.Tree aFr.Slips).map (fun r => r.1.Slots) = some [1, 2, 3, 4] := by kernel_rfl
theorem aWa : bAb aFr = 1501 := by kernel_rfl
theorem bAp : mN aFr 22 = true := by kernel_rfl
theorem aVy : yD aFr [1, 2, 3, 4] 22 = ⟨22, 50, 0, 0, 0, 0, 16, 48, 2⟩ := by kernel_rfl
theorem aUj : (aRu aFr [1, 2, 3, 4]).Debt = 60 := by kernel_rfl
theorem aNs : Sz aFr := ⟨by decide, by decide, by decide, by decide, by decide, by decide, by decide⟩
theorem aDb : nV = some true := by
  obtain ⟨d, hg⟩ := aUl bAq
  have hd : d = [1, 2, 3, 4] := by
    have h1 := aVz
    rw [(aDs hg.good).1] at h1
    exact Option.some.inj h1
  subst hd
  unfold nV
  rw [bAo, Option.bind_some, bCu aNs hg, Option.bind_some, bCd aNs hg, Option.bind_some, bCi aNs hg, Option.bind_some, bAp, cond_true]
  simp only [aWa, aVy, aUj]
  rfl
end Go.Am

end
