/- Plain laws, one behind the other. -/
import Derived.Test.YtbbahihlmgampaaGreatTrSh
import Derived.Test.YtbbahihlmgampaaGreatAmPlain
section
namespace Go.Am.Rk
section lists
variable {α : Type}
theorem jM {A : List α} {x : α} {B : List α} {p : Int} (h : p = (A.length : Int)) : idx (A ++ x :: B) p = some x := by
 subst h; rw [cT (by simp)]; simp
theorem tA {A : List α} {x y : α} {B : List α} {p : Nat} (h : p = A.length) : (A ++ x :: B).set p y = A ++ y :: B := by
 subst h; simp
theorem pB {A : List α} {x y : α} {B : List α} {p : Int} (h : p = ((A.length + 1 : Nat) : Int)) : idx (A ++ x :: y :: B) p = some y := by
 have : A ++ x :: y :: B = (A ++ [x]) ++ y :: B := by simp
 rw [this, jM (by simp [h])]
theorem aCl {A : List α} {x y z : α} {B : List α} {p : Nat} (h : p = A.length + 1) : (A ++ x :: y :: B).set p z = A ++ x :: z :: B := by
 have : A ++ x :: y :: B = (A ++ [x]) ++ y :: B := by simp
 rw [this, tA (by simp [h])]; simp
theorem xX (L : List α) : L = [] ∨ ∃ A x, L = A ++ [x] := by
 rcases List.eq_nil_or_concat L with h | ⟨A, x, h⟩
 ·exact .inl h
 ·exact .inr ⟨A, x, by simpa using h⟩
end lists
structure pF {α : Type} (cmp : α → α → Option Int) (ok : α → Prop) (le : α → α → Prop) : Prop where
 run : ∀ x y, ok x → ok y → ∃ n, cmp x y = some n ∧ (n < 0 ↔ ¬ le y x)
 tot : ∀ x y, ok x → ok y → le x y ∨ le y x
 tr : ∀ x y z, ok x → ok y → ok z → le x y → le y z → le x z
section sorted
variable {α : Type} {ok : α → Prop} {le : α → α → Prop} {cmp : α → α → Option Int}
theorem aHz (hc : pF cmp ok le) {x : α} (hx : ok x) {L1 L2 : List α} (hs : (L1 ++ L2).Pairwise le) (hok : ∀ y ∈ L1 ++ L2, ok y) (h2 : ∀ y ∈ L2, ¬ le y x) (h1 : ∀ y, L1.getLast? = some y → le y x) : (L1 ++ x :: L2).Pairwise le := by
 have hp := List.pairwise_append.1 hs
 refine List.pairwise_append.2 ⟨hp.1, List.pairwise_cons.2 ⟨fun y hy => ?_, hp.2.1⟩, fun y hy z hz => ?_⟩
 ·exact (hc.tot x y hx (hok y (by simp [hy]))).resolve_right (h2 y hy)
 ·rcases List.mem_cons.1 hz with rfl | hz
  ·rcases xX L1 with rfl | ⟨A, q, rfl⟩
   ·cases hy
   ·have hq := h1 q (by simp)
    rcases List.mem_append.1 hy with h | h
    ·have := (List.pairwise_append.1 hp.1).2.2 y h q (by simp)
     exact hc.tr y q _ (hok y (by simp [h])) (hok q (by simp)) hx this hq
    ·simp at h; subst h; exact hq
  ·exact hp.2.2 y hy z hz
end sorted
section insertion
variable {cmp : aG → aG → Option Int} {ok : aG → Prop} {le : aG → aG → Prop}
theorem aQm (hc : pF cmp ok le) (again : Int → List aG → Option (List aG)) {a b i : Int} {P : List aG} (ha : a = P.length) (x : aG) (hx : ok x) :
  ∀ (n : Nat) (L R : List aG) (k : Nat), L.length = n → (∀ y ∈ L, ok y) → n < k → (P ++ L).length < 4611686018427387904 →
   ∃ L1 L2, L = L1 ++ L2 ∧ (∀ y ∈ L2, ¬ le y x) ∧ (∀ y, L1.getLast? = some y → le y x) ∧
    cO again a b cmp i k ((P ++ L).length : Nat) (P ++ L ++ x :: R) = again (w64 (i + 1)) (P ++ (L1 ++ x :: L2) ++ R) := by
 intro n
 induction n with
 | zero =>
  intro L R k hl hok hk hb
  have : L = [] := List.length_eq_zero_iff.1 hl
  subst this
  obtain ⟨k, rfl⟩ : ∃ q, k = q + 1 := ⟨k - 1, by omega⟩
  refine ⟨[], [], rfl, by simp, by simp, ?_⟩
  simp only [cO, ha, List.append_nil, Int.lt_irrefl, decide_false, cond_false, Option.bind_some, fT, fS, List.nil_append]
  simp
 | succ n ih =>
  intro L R k hl hok hk hb
  obtain ⟨k, rfl⟩ : ∃ q, k = q + 1 := ⟨k - 1, by omega⟩
  rcases xX L with rfl | ⟨L', y, rfl⟩
  ·simp at hl
  simp only [List.length_append, List.length_singleton] at hl hb
  have hoy : ok y := hok y (by simp)
  have hA : P ++ (L' ++ [y]) ++ x :: R = (P ++ L') ++ y :: x :: R := by simp
  have hj : ((P ++ (L' ++ [y])).length : Nat) = (P ++ L').length + 1 := by simp [Nat.add_assoc]
  have hAl : (P ++ L').length = P.length + L'.length := by simp
  have hlt : decide (a < (((P ++ L').length + 1 : Nat) : Int)) = true := decide_eq_true (by omega)
  have hw : w64 ((((P ++ L').length + 1 : Nat) : Int) - 1) = ((P ++ L').length : Int) := by rw [cF (by omega) (by omega)]; omega
  obtain ⟨r, hr, hlr⟩ := hc.run x y hx hoy
  rw [hA, hj]
  by_cases h : r < 0
  ·obtain ⟨L1, L2, rfl, h2, h1, he⟩ := ih L' (y :: R) k (by omega) (fun z hz => hok z (by simp [hz])) (by omega) (by omega)
   refine ⟨L1, L2 ++ [y], by simp, fun z hz => ?_, h1, ?_⟩
   ·rcases List.mem_append.1 hz with hz | hz
    ·exact h2 z hz
    ·simp at hz; subst hz; exact hlr.1 h
   ·simp only [cO, hlt, cond_true, pB rfl, hw, jM rfl, Option.bind_some, hr, decide_eq_true h]
    have hn : (((P ++ (L1 ++ L2)).length + 1 : Nat) : Int).toNat = (P ++ (L1 ++ L2)).length + 1 := rfl
    have hn2 : (((P ++ (L1 ++ L2)).length : Nat) : Int).toNat = (P ++ (L1 ++ L2)).length := rfl
    rw [hn, hn2, aCl rfl, jM rfl, Option.bind_some, tA rfl, he]
    simp
  ·refine ⟨L' ++ [y], [], by simp, by simp, fun z hz => ?_, ?_⟩
   ·simp at hz; subst hz; exact Classical.byContradiction fun hn => h (hlr.2 hn)
   ·simp only [cO, hlt, cond_true, pB rfl, hw, jM rfl, Option.bind_some, hr, decide_eq_false h, cond_false, fT, fS]
    simp
theorem aAx (hc : pF cmp ok le) (P M S : List aG) (hok : ∀ y ∈ M, ok y) (hb : (P ++ M).length < 4611686018427387904) :
  ∃ M', M'.Perm M ∧ M'.Pairwise le ∧ dJ (P ++ M ++ S) (P.length : Nat) ((P ++ M).length : Nat) cmp = some (P ++ M' ++ S) := by
 have main : ∀ (n : Nat) (L R : List aG) (k : Nat), R.length = n → n < k → (∀ y ∈ L ++ R, ok y) → (P ++ L ++ R).length < 4611686018427387904 → L.Pairwise le →
   ∃ M', M'.Perm (L ++ R) ∧ M'.Pairwise le ∧ cB (P.length : Nat) ((P ++ L ++ R).length : Nat) cmp k ((P ++ L).length : Nat) (P ++ L ++ R ++ S) = some (P ++ M' ++ S) := by
  intro n
  induction n with
  | zero =>
   intro L R k hl hk hok hb hs
   have : R = [] := List.length_eq_zero_iff.1 hl
   subst this
   obtain ⟨k, rfl⟩ : ∃ q, k = q + 1 := ⟨k - 1, by omega⟩
   refine ⟨L, by simp, hs, ?_⟩
   simp [cB, fR]
  | succ n ih =>
   intro L R k hl hk hok hb hs
   obtain ⟨k, rfl⟩ : ∃ q, k = q + 1 := ⟨k - 1, by omega⟩
   match R, hl with
   | x :: R, hl =>
    simp only [List.length_cons] at hl
    have hbl : (P ++ L ++ x :: R).length = P.length + L.length + (R.length + 1) := by simp [Nat.add_assoc]
    have hox : ok x := hok x (by simp)
    obtain ⟨L1, L2, rfl, h2, h1, he⟩ := aQm hc (cB (P.length : Nat) ((P ++ L ++ x :: R).length : Nat) cmp k) (b := ((P ++ L ++ x :: R).length : Nat)) (i := ((P ++ L).length : Nat)) (a := (P.length : Nat)) rfl x hox L.length L (R ++ S) BIG rfl
     (fun y hy => hok y (by simp [hy])) (cR (by omega)) (by simp only [List.length_append]; omega)
    have hlt : decide (((P ++ (L1 ++ L2)).length : Int) < ((P ++ (L1 ++ L2) ++ x :: R).length : Int)) = true := decide_eq_true (by simp only [List.length_append, List.length_cons]; omega)
    obtain ⟨M', hp, hss, hr⟩ := ih (L1 ++ x :: L2) R k (by omega) (by omega) (fun y hy => hok y (by
      simp only [List.mem_append, List.mem_cons] at hy ⊢
      rcases hy with (h | h | h) | h <;> simp [h])) (by simp only [List.length_append, List.length_cons] at hb ⊢; omega)
      (aHz hc hox hs (fun y hy => hok y (by simp only [List.mem_append] at hy ⊢; exact .inl hy)) h2 h1)
    refine ⟨M', hp.trans ?_, hss, ?_⟩
    ·have : ((L1 ++ x :: L2) ++ R).Perm (L1 ++ L2 ++ x :: R) := by
      rw [List.append_assoc, List.append_assoc, List.cons_append]
      exact List.Perm.append_left _ (List.perm_middle.symm)
     exact this
    ·simp only [cB, hlt, cond_true]
     have e1 : P ++ (L1 ++ L2) ++ x :: R ++ S = P ++ (L1 ++ L2) ++ x :: (R ++ S) := by simp
     rw [e1, he, cA (by simp only [List.length_append, List.length_cons] at hb ⊢; omega)]
     have e2 : ((P ++ (L1 ++ L2) ++ x :: R).length : Nat) = (P ++ (L1 ++ x :: L2) ++ R).length := by simp only [List.length_append, List.length_cons]; omega
     have e3 : ((P ++ (L1 ++ L2)).length + 1 : Nat) = (P ++ (L1 ++ x :: L2)).length := by simp only [List.length_append, List.length_cons]; omega
     rw [e2, e3]
     have e4 : P ++ (L1 ++ x :: L2) ++ (R ++ S) = P ++ (L1 ++ x :: L2) ++ R ++ S := by simp
     rw [e4]
     exact hr
 match M, hok, hb with
 | [], hok, hb =>
  refine ⟨[], .refl _, .nil, ?_⟩
  have hlt : decide (((P.length + 1 : Nat) : Int) < (P.length : Int)) = false := decide_eq_false (by omega)
  unfold dJ
  simp only [List.append_nil] at hb ⊢
  rw [aFl, cA (by omega)]
  generalize 18446744073709551615 = kk
  simp only [cB, hlt, cond_false, fR]
 | x :: M, hok, hb =>
  simp only [List.length_append, List.length_cons] at hb
  obtain ⟨M', h1, h2, h3⟩ := main M.length [x] M BIG rfl (cR (by omega)) (fun y hy => hok y (by simpa using hy)) (by simp only [List.length_append, List.length_cons, List.length_nil]; omega) (List.pairwise_singleton _ _)
  refine ⟨M', by simpa using h1, h2, ?_⟩
  unfold dJ
  rw [cA (by omega)]
  have e1 : (P ++ [x]).length = P.length + 1 := by simp
  have e2 : P ++ [x] ++ M = P ++ x :: M := by simp
  rw [e1, e2] at h3
  exact h3
end insertion
end Go.Am.Rk
end
section
namespace Go.Am.Rk
section lists
variable {α : Type}
theorem aNw {A : List α} {u : α} {B : List α} {v : α} {C : List α} {p : Int} (h : p = ((A.length + 1 + B.length : Nat) : Int)) : idx (A ++ u :: (B ++ v :: C)) p = some v := by
 have : A ++ u :: (B ++ v :: C) = (A ++ u :: B) ++ v :: C := by simp
 rw [this, jM (by rw [h]; simp; omega)]
theorem aUq {A : List α} {u : α} {B : List α} {v w : α} {C : List α} {p : Nat} (h : p = A.length + 1 + B.length) : (A ++ u :: (B ++ v :: C)).set p w = A ++ u :: (B ++ w :: C) := by
 have : A ++ u :: (B ++ v :: C) = (A ++ u :: B) ++ v :: C := by simp
 rw [this, tA (by rw [h]; simp; omega)]; simp
theorem vZ {i j : Nat} (h : i + j < 4611686018427387904) : w64 ((IntKind.u64.wrap (w64 ((i : Int) + (j : Int)))).fdiv (2 ^ (min (1 : Int).toNat 64))) = (((i + j) / 2 : Nat) : Int) := by
 have e1 : w64 ((i : Int) + (j : Int)) = ((i + j : Nat) : Int) := by rw [cF (by omega) (by omega)]; omega
 have e2 : IntKind.u64.wrap ((i + j : Nat) : Int) = ((i + j : Nat) : Int) := by
  simp only [IntKind.wrap, IntKind.signed, IntKind.bits]
  simp
  omega
 have e3 : (2 : Int) ^ (min (1 : Int).toNat 64) = 2 := by decide
 rw [e1, e2, e3, Int.fdiv_eq_ediv_of_nonneg _ (by omega), cF (by omega) (by omega)]
 omega
theorem aIi {T : Type} (F : Nat → Int → Int → T) (K : Int → T) (good : Nat → Prop) (lo hi : Nat) (hstep : ∀ k (i j : Nat), lo ≤ i → i < j → j ≤ hi → (good ((i + j) / 2) ∧ F (k + 1) i j = F k (((i + j) / 2 + 1 : Nat) : Int) j) ∨ (¬ good ((i + j) / 2) ∧ F (k + 1) i j = F k i (((i + j) / 2 : Nat) : Int)))
  (hstop : ∀ k (i : Nat), F (k + 1) i i = K i) (mono : ∀ x y, lo ≤ x → x ≤ y → y < hi → good y → good x) (hlh : lo ≤ hi) {k : Nat} (hk : hi - lo < k) :
  ∃ r : Nat, lo ≤ r ∧ r ≤ hi ∧ F k lo hi = K r ∧ (∀ x, lo ≤ x → x < r → good x) ∧ (∀ x, r ≤ x → x < hi → ¬ good x) := by
 have main : ∀ (d : Nat) (i j : Nat) (k : Nat), j - i = d → d < k → lo ≤ i → i ≤ j → j ≤ hi → (∀ x, lo ≤ x → x < i → good x) → (∀ x, j ≤ x → x < hi → ¬ good x) →
   ∃ r : Nat, lo ≤ r ∧ r ≤ hi ∧ F k i j = K r ∧ (∀ x, lo ≤ x → x < r → good x) ∧ (∀ x, r ≤ x → x < hi → ¬ good x) := by
  intro d
  induction d using Nat.strongRecOn with
  | _ d ih =>
   intro i j k hd hk h1 h2 h3 h4 h5
   obtain ⟨k, rfl⟩ : ∃ q, k = q + 1 := ⟨k - 1, by omega⟩
   rcases Nat.eq_or_lt_of_le h2 with rfl | hlt
   ·exact ⟨i, h1, h3, hstop k i, h4, h5⟩
   ·rcases hstep k i j h1 hlt h3 with ⟨hg, he⟩ | ⟨hg, he⟩
    ·rw [he]
     refine ih (j - ((i + j) / 2 + 1)) (by omega) _ j k rfl (by omega) (by omega) (by omega) h3 (fun x hx hxr => ?_) h5
     exact mono x ((i + j) / 2) hx (by omega) (by omega) hg
    ·rw [he]
     refine ih ((i + j) / 2 - i) (by omega) i _ k rfl (by omega) h1 (by omega) (by omega) h4 fun x hx hxr hgx => ?_
     exact hg (mono _ x (by omega) hx hxr hgx)
 exact main _ lo hi k rfl hk (Nat.le_refl _) hlh (Nat.le_refl _) (fun x h1 h2 => by omega) (fun x h1 h2 => by omega)
end lists
section rotate
variable {cmp : aG → aG → Option Int}
theorem wH (P U Q V S : List aG) (hl : U.length = V.length) (hb : (P ++ U ++ Q ++ V ++ S).length < 4611686018427387904) :
  dX (P ++ U ++ Q ++ V ++ S) (P.length : Nat) ((P ++ U ++ Q).length : Nat) (U.length : Nat) cmp = some (P ++ V ++ Q ++ U ++ S) := by
 have main : ∀ (n : Nat) (U1 U2 V1 V2 : List aG) (k : Nat), U2.length = n → V2.length = n → U1.length = V1.length → n < k → (P ++ U1 ++ U2 ++ Q ++ V1 ++ V2).length < 4611686018427387904 →
   dM (P.length : Nat) ((P.length + (U1.length + U2.length) + Q.length : Nat) : Int) ((U1.length + U2.length : Nat) : Int) k (U1.length : Nat) (P ++ V1 ++ U2 ++ Q ++ U1 ++ V2 ++ S) = some (P ++ (V1 ++ V2) ++ Q ++ (U1 ++ U2) ++ S) := by
  intro n
  induction n with
  | zero =>
   intro U1 U2 V1 V2 k h1 h2 h3 hk hb
   have : U2 = [] := List.length_eq_zero_iff.1 h1
   subst this
   have : V2 = [] := List.length_eq_zero_iff.1 h2
   subst this
   obtain ⟨k, rfl⟩ : ∃ q, k = q + 1 := ⟨k - 1, by omega⟩
   simp [dM, jZ]
  | succ n ih =>
   intro U1 U2 V1 V2 k h1 h2 h3 hk hb
   obtain ⟨k, rfl⟩ : ∃ q, k = q + 1 := ⟨k - 1, by omega⟩
   match U2, h1, V2, h2 with
   | u :: U2, h1, v :: V2, h2 =>
    simp only [List.length_cons] at h1 h2
    simp only [List.length_append, List.length_cons] at hb
    have hlt : decide ((U1.length : Int) < ((U1.length + (u :: U2).length : Nat) : Int)) = true := decide_eq_true (by simp only [List.length_cons]; omega)
    have ea : w64 ((P.length : Int) + (U1.length : Int)) = (((P ++ V1).length : Nat) : Int) := by rw [cF (by omega) (by omega)]; simp only [List.length_append]; omega
    have eb : w64 (((P.length + (U1.length + (u :: U2).length) + Q.length : Nat) : Int) + (U1.length : Int)) = (((P ++ V1).length + 1 + (U2 ++ Q ++ U1).length : Nat) : Int) := by
     rw [cF (by omega) (by simp only [List.length_cons]; omega)]; simp only [List.length_append, List.length_cons]; omega
    have ed : P ++ V1 ++ u :: U2 ++ Q ++ U1 ++ v :: V2 ++ S = (P ++ V1) ++ u :: ((U2 ++ Q ++ U1) ++ v :: (V2 ++ S)) := by simp
    rw [ed]
    simp only [dM, hlt, cond_true, ea, eb, aNw rfl, jM rfl, Option.bind_some]
    have t1 : (((P ++ V1).length : Nat) : Int).toNat = (P ++ V1).length := rfl
    have t2 : (((P ++ V1).length + 1 + (U2 ++ Q ++ U1).length : Nat) : Int).toNat = (P ++ V1).length + 1 + (U2 ++ Q ++ U1).length := rfl
    rw [t1, t2, tA rfl, aNw rfl, Option.bind_some, aUq rfl, cA (by omega)]
    have := ih (U1 ++ [u]) U2 (V1 ++ [v]) V2 k (by omega) (by omega) (by simp [h3]) (by omega) (by simp only [List.length_append, List.length_cons, List.length_nil]; omega)
    have e1 : (U1 ++ [u]).length + U2.length = U1.length + (u :: U2).length := by simp; omega
    have e2 : (U1 ++ [u]).length = U1.length + 1 := by simp
    rw [e1, e2] at this
    have e3 : P ++ (V1 ++ [v]) ++ U2 ++ Q ++ (U1 ++ [u]) ++ V2 ++ S = (P ++ V1) ++ v :: ((U2 ++ Q ++ U1) ++ u :: (V2 ++ S)) := by simp
    rw [e3] at this
    rw [this]
    simp
 unfold dX
 simp only [List.length_append] at hb
 have := main U.length [] U [] V BIG rfl hl.symm rfl (cR (by omega)) (by simp only [List.length_append, List.length_nil]; omega)
 simp only [List.append_nil, List.nil_append, List.length_nil, Nat.zero_add] at this
 simp only [List.length_append]
 exact this
theorem aNg (P U V S : List aG) (hu : U ≠ []) (hv : V ≠ []) (hb : (P ++ U ++ V ++ S).length < 4611686018427387904) :
  eZ (P ++ U ++ V ++ S) (P.length : Nat) ((P ++ U).length : Nat) ((P ++ U ++ V).length : Nat) cmp = some (P ++ V ++ U ++ S) := by
 have main : ∀ (d : Nat) (P U V S : List aG) (k : Nat), U.length + V.length = d → d < k → 0 < U.length → 0 < V.length → (P ++ U ++ V ++ S).length < 4611686018427387904 →
   cX ((P.length + U.length : Nat) : Int) cmp k (U.length : Nat) (V.length : Nat) (P ++ U ++ V ++ S) = some (P ++ V ++ U ++ S) := by
  intro d
  induction d using Nat.strongRecOn with
  | _ d ih =>
   intro P U V S k hd hk hu hv hb
   obtain ⟨k, rfl⟩ : ∃ q, k = q + 1 := ⟨k - 1, by omega⟩
   simp only [List.length_append] at hb
   have em : w64 (((P.length + U.length : Nat) : Int) - (U.length : Int)) = (P.length : Int) := by rw [cF (by omega) (by omega)]; omega
   by_cases h1 : U.length = V.length
   ·have hd : (!decide ((U.length : Int) = (V.length : Int))) = false := by rw [decide_eq_true (by omega)]; rfl
    simp only [cX, hd, cond_false, kT, em]
    have := wH (cmp := cmp) P U [] V S h1 (by simp only [List.length_append, List.length_nil]; omega)
    simp only [List.append_nil, List.length_append] at this
    rw [this]; rfl
   ·have hd' : (!decide ((U.length : Int) = (V.length : Int))) = true := by rw [decide_eq_false (by omega)]; rfl
    by_cases h2 : V.length < U.length
    ·obtain ⟨U1, U2, rfl, hl1⟩ : ∃ U1 U2, U = U1 ++ U2 ∧ U1.length = V.length := ⟨U.take V.length, U.drop V.length, by simp, by simp; omega⟩
     simp only [List.length_append] at h1 h2 hd hu hb em hd'
     have hlt : decide ((V.length : Int) < ((U1.length + U2.length : Nat) : Int)) = true := decide_eq_true (by omega)
     simp only [cX, List.length_append, hd', cond_true, hlt, em]
     have sw := wH (cmp := cmp) P U1 U2 V S hl1 (by simp only [List.length_append]; omega)
     simp only [List.length_append] at sw
     have e1 : P ++ (U1 ++ U2) ++ V ++ S = P ++ U1 ++ U2 ++ V ++ S := by simp
     rw [e1, show P.length + (U1.length + U2.length) = P.length + U1.length + U2.length by omega, ← hl1, sw, Option.bind_some]
     have hw : w64 (((U1.length + U2.length : Nat) : Int) - (U1.length : Int)) = (U2.length : Int) := by rw [cF (by omega) (by omega)]; omega
     rw [hw]
     have := ih (U2.length + U1.length) (by omega) (P ++ V) U2 U1 S k rfl (by omega) (by omega) (by omega) (by simp only [List.length_append]; omega)
     simp only [List.length_append] at this
     rw [show P.length + V.length + U2.length = P.length + U1.length + U2.length by omega] at this
     rw [this]; simp
    ·obtain ⟨V1, V2, rfl, hl2⟩ : ∃ V1 V2, V = V1 ++ V2 ∧ V2.length = U.length := ⟨V.take (V.length - U.length), V.drop (V.length - U.length), by simp, by simp; omega⟩
     simp only [List.length_append] at h1 h2 hd hv hb hd'
     have hlt : decide (((V1.length + V2.length : Nat) : Int) < (U.length : Int)) = false := decide_eq_false (by omega)
     have hw1 : w64 (((P.length + U.length : Nat) : Int) + ((V1.length + V2.length : Nat) : Int)) = ((P.length + U.length + (V1.length + V2.length) : Nat) : Int) := by rw [cF (by omega) (by omega)]; omega
     have hw2 : w64 (((P.length + U.length + (V1.length + V2.length) : Nat) : Int) - (U.length : Int)) = ((P.length + U.length + V1.length : Nat) : Int) := by rw [cF (by omega) (by omega)]; omega
     have hw3 : w64 (((V1.length + V2.length : Nat) : Int) - (U.length : Int)) = (V1.length : Int) := by rw [cF (by omega) (by omega)]; omega
     simp only [cX, List.length_append, hd', cond_true, hlt, cond_false, em, hw1, hw2, hw3]
     have sw := wH (cmp := cmp) P U V1 V2 S hl2.symm (by simp only [List.length_append]; omega)
     simp only [List.length_append] at sw
     have e1 : P ++ U ++ (V1 ++ V2) ++ S = P ++ U ++ V1 ++ V2 ++ S := by simp
     rw [e1, sw, Option.bind_some]
     have := ih (V2.length + V1.length) (by omega) P V2 V1 (U ++ S) k rfl (by omega) (by omega) (by omega) (by simp only [List.length_append]; omega)
     rw [hl2] at this
     have e2 : P ++ V2 ++ V1 ++ U ++ S = P ++ V2 ++ V1 ++ (U ++ S) := by simp
     rw [e2, this]; simp
 have hu' : 0 < U.length := List.length_pos_iff.2 hu
 have hv' : 0 < V.length := List.length_pos_iff.2 hv
 unfold eZ
 simp only [List.length_append] at hb ⊢
 have e1 : w64 (((P.length + U.length : Nat) : Int) - (P.length : Int)) = (U.length : Int) := by rw [cF (by omega) (by omega)]; omega
 have e2 : w64 (((P.length + U.length + V.length : Nat) : Int) - ((P.length + U.length : Nat) : Int)) = (V.length : Int) := by rw [cF (by omega) (by omega)]; omega
 rw [e1, e2]
 exact main _ P U V S BIG rfl (cR (by omega)) hu' hv' (by simp only [List.length_append]; omega)
end rotate
end Go.Am.Rk
end
section
namespace Go.Am.Rk
section shift
variable {cmp : aG → aG → Option Int}
theorem aNm (again : List aG → Int → Int → Int → Option (List aG)) {i : Nat} (x : aG) (R : List aG) : ∀ (V A : List aG) (k : Nat), A.length + V.length + 1 = i → i < 4611686018427387904 → V.length < k →
  dO again (i : Nat) k (A.length : Nat) (A ++ x :: (V ++ R)) = some (A ++ V ++ x :: R) := by
 intro V
 induction V with
 | nil =>
  intro A k h1 h2 hk
  obtain ⟨k, rfl⟩ : ∃ q, k = q + 1 := ⟨k - 1, by omega⟩
  have hw : w64 ((i : Int) - 1) = (A.length : Int) := by rw [cF (by omega) (by omega)]; simp at h1; omega
  simp [dO, hw, kH]
 | cons v V ih =>
  intro A k h1 h2 hk
  obtain ⟨k, rfl⟩ : ∃ q, k = q + 1 := ⟨k - 1, by omega⟩
  simp only [List.length_cons] at h1 hk
  have hw : w64 ((i : Int) - 1) = ((i - 1 : Nat) : Int) := by rw [cF (by omega) (by omega)]; omega
  have hlt : decide ((A.length : Int) < ((i - 1 : Nat) : Int)) = true := decide_eq_true (by omega)
  have hw1 : w64 ((A.length : Int) + 1) = ((A.length + 1 : Nat) : Int) := cA (by omega)
  have e1 : A ++ x :: (v :: V ++ R) = A ++ x :: v :: (V ++ R) := by simp
  have t1 : ((A.length : Nat) : Int).toNat = A.length := rfl
  have t2 : ((A.length + 1 : Nat) : Int).toNat = A.length + 1 := rfl
  simp only [dO, hw, hlt, cond_true, hw1, e1, pB rfl, jM rfl, Option.bind_some, t1, t2, tA rfl, aCl rfl]
  have := ih (A ++ [v]) k (by simp; omega) h2 (by omega)
  simp only [List.length_append, List.length_singleton] at this
  have e2 : (A ++ [v]) ++ x :: (V ++ R) = A ++ v :: x :: (V ++ R) := by simp
  rw [e2] at this
  rw [this]; simp
theorem aNl (again : List aG → Int → Int → Int → Option (List aG)) {i : Nat} (y : aG) (A : List aG) (hi : i = A.length) : ∀ (n : Nat) (U R : List aG) (k : Nat), U.length = n → (A ++ U).length < 4611686018427387904 → n < k →
  dP again (i : Nat) k ((A ++ U).length : Nat) (A ++ U ++ y :: R) = some (A ++ y :: (U ++ R)) := by
 subst hi
 intro n
 induction n with
 | zero =>
  intro U R k h1 h2 hk
  have : U = [] := List.length_eq_zero_iff.1 h1
  subst this
  obtain ⟨k, rfl⟩ : ∃ q, k = q + 1 := ⟨k - 1, by omega⟩
  simp [dP, kI]
 | succ n ih =>
  intro U R k h1 h2 hk
  obtain ⟨k, rfl⟩ : ∃ q, k = q + 1 := ⟨k - 1, by omega⟩
  rcases xX U with rfl | ⟨U', u, rfl⟩
  ·simp at h1
  simp only [List.length_append, List.length_singleton] at h1 h2
  have hA : A ++ (U' ++ [u]) ++ y :: R = (A ++ U') ++ u :: y :: R := by simp
  have hj : ((A ++ (U' ++ [u])).length : Nat) = (A ++ U').length + 1 := by simp; omega
  have hlt : decide ((A.length : Int) < (((A ++ U').length + 1 : Nat) : Int)) = true := decide_eq_true (by simp only [List.length_append]; omega)
  have hw : w64 ((((A ++ U').length + 1 : Nat) : Int) - 1) = ((A ++ U').length : Int) := by rw [cF (by simp only [List.length_append]; omega) (by simp only [List.length_append]; omega)]; omega
  have t1 : (((A ++ U').length : Nat) : Int).toNat = (A ++ U').length := rfl
  have t2 : (((A ++ U').length + 1 : Nat) : Int).toNat = (A ++ U').length + 1 := rfl
  rw [hA, hj]
  simp only [dP, hlt, cond_true, hw, jM rfl, pB rfl, Option.bind_some, t1, t2, aCl rfl, tA rfl]
  rw [ih U' (u :: R) k (by omega) (by simp only [List.length_append]; omega) (by omega)]
  simp
end shift
section merge
variable {cmp : aG → aG → Option Int} {ok : aG → Prop} {le : aG → aG → Prop}
theorem qA (hc : pF cmp ok le) {L : List aG} (hs : L.Pairwise le) (hok : ∀ y ∈ L, ok y) {i j : Nat} (hij : i ≤ j) (hj : j < L.length) : le (L[i]'(by omega)) L[j] := by
 rcases Nat.eq_or_lt_of_le hij with rfl | h
 ·have h1 := hok L[i] (List.getElem_mem _)
  exact (hc.tot _ _ h1 h1).elim id id
 ·exact List.pairwise_iff_getElem.1 hs i j (by omega) hj h
def aCy (ok : aG → Prop) (le : aG → aG → Prop) (f : List aG → Int → Int → Int → Option (List aG)) (N : Nat) : Prop :=
 ∀ (P U V S : List aG), U.length + V.length < N → 0 < U.length → 0 < V.length → (∀ y ∈ U ++ V, ok y) → U.Pairwise le → V.Pairwise le → (P ++ U ++ V ++ S).length < 1152921504606846976 →
  ∃ W, W.Perm (U ++ V) ∧ W.Pairwise le ∧ f (P ++ U ++ V ++ S) (P.length : Nat) ((P ++ U).length : Nat) ((P ++ U ++ V).length : Nat) = some (P ++ W ++ S)
theorem aPe (hc : pF cmp ok le) (again : List aG → Int → Int → Int → Option (List aG)) (P : List aG) (x : aG) (V S : List aG) (hok : ∀ y ∈ x :: V, ok y) (hs : V.Pairwise le) (hb : (P ++ x :: V ++ S).length < 1152921504606846976) :
  ∃ W, W.Perm (x :: V) ∧ W.Pairwise le ∧ cH again (P.length : Nat) cmp (P ++ x :: V ++ S) BIG ((P.length + 1 : Nat) : Int) ((P.length + 1 + V.length : Nat) : Int) = some (P ++ W ++ S) := by
 simp only [List.length_append, List.length_cons] at hb
 have hox := hok x (by simp)
 have hdat : ∀ t (ht : t < V.length), idx (P ++ x :: V ++ S) ((P.length + 1 + t : Nat) : Int) = some V[t] := by
  intro t ht
  rw [cT (by simp; omega)]
  simp only [Option.some.injEq]
  rw [List.getElem_append_left (by simp; omega), List.getElem_append_right (by omega)]
  simp only [show P.length + 1 + t - P.length = t + 1 by omega, List.getElem_cons_succ]
 have hdx : idx (P ++ x :: V ++ S) (P.length : Nat) = some x := by
  have : P ++ x :: V ++ S = P ++ x :: (V ++ S) := by simp
  rw [this, jM rfl]
 have hbs := aIi (fun k i j => cH again (P.length : Nat) cmp (P ++ x :: V ++ S) k i j) (fun i => iE again (P.length : Nat) i (P ++ x :: V ++ S))
  (fun h => ∀ v, V[h - (P.length + 1)]? = some v → ¬ le x v) (P.length + 1) (P.length + 1 + V.length) (k := BIG) ?_ ?_ ?_ (by omega) (cR (by omega))
 ·obtain ⟨r, h1, h2, h3, h4, h5⟩ := hbs
  obtain ⟨t, rfl⟩ : ∃ t, r = P.length + 1 + t := ⟨r - (P.length + 1), by omega⟩
  have htl : t ≤ V.length := by omega
  refine ⟨V.take t ++ x :: V.drop t, ?_, ?_, ?_⟩
  ·have : (V.take t ++ x :: V.drop t).Perm (x :: (V.take t ++ V.drop t)) := List.perm_middle
   rwa [List.take_append_drop] at this
  ·have hp := List.pairwise_append.1 (show (V.take t ++ V.drop t).Pairwise le by rw [List.take_append_drop]; exact hs)
   have hlo : ∀ y ∈ V.take t, ¬ le x y := by
    intro y hy
    obtain ⟨q, hq, rfl⟩ := List.getElem_of_mem hy
    have hq' : q < t := by simp at hq; omega
    refine h4 (P.length + 1 + q) (by omega) (by omega) _ ?_
    rw [show P.length + 1 + q - (P.length + 1) = q by omega, List.getElem_take, List.getElem?_eq_getElem]
   have hhi : ∀ y ∈ V.drop t, le x y := by
    intro y hy
    obtain ⟨q, hq, rfl⟩ := List.getElem_of_mem hy
    simp only [List.length_drop] at hq
    have := h5 (P.length + 1 + (t + q)) (by omega) (by omega)
    refine Classical.byContradiction fun hn => this fun v hv => ?_
    rw [show P.length + 1 + (t + q) - (P.length + 1) = t + q by omega, List.getElem?_eq_getElem (by omega)] at hv
    cases hv
    rwa [List.getElem_drop] at hn
   refine List.pairwise_append.2 ⟨hp.1, List.pairwise_cons.2 ⟨hhi, hp.2.1⟩, fun y hy z hz => ?_⟩
   rcases List.mem_cons.1 hz with rfl | hz
   ·exact (hc.tot y z (hok y (List.mem_cons_of_mem _ (List.mem_of_mem_take hy))) hox).resolve_right (hlo y hy)
   ·exact hp.2.2 y hy z hz
  ·rw [h3]
   unfold iE
   have hvd : V = V.take t ++ V.drop t := (List.take_append_drop t V).symm
   have e1 : P ++ x :: V ++ S = P ++ x :: (V.take t ++ (V.drop t ++ S)) := by rw [← List.append_assoc (V.take t), List.take_append_drop]; simp
   rw [e1]
   have := aNm again (i := P.length + 1 + t) x (V.drop t ++ S) (V.take t) P BIG (by simp; omega) (by omega) (cR (by simp; omega))
   rw [this]; simp
 ·intro k i j hi hij hj
  have hh : i + j < 4611686018427387904 := by omega
  have hlt : decide ((i : Int) < (j : Int)) = true := decide_eq_true (by omega)
  obtain ⟨t, ht, htv⟩ : ∃ t, (i + j) / 2 = P.length + 1 + t ∧ t < V.length := ⟨(i + j) / 2 - (P.length + 1), by omega, by omega⟩
  obtain ⟨n, hn, hiff⟩ := hc.run V[t] x (hok _ (List.mem_cons_of_mem _ (List.getElem_mem htv))) hox
  have hg : (∀ v, V[(i + j) / 2 - (P.length + 1)]? = some v → ¬ le x v) ↔ ¬ le x V[t] := by
   rw [ht, show P.length + 1 + t - (P.length + 1) = t by omega, List.getElem?_eq_getElem htv]
   exact ⟨fun h => h _ rfl, fun h v hv => by cases hv; exact h⟩
  by_cases h : n < 0
  ·refine .inl ⟨hg.2 (hiff.1 h), ?_⟩
   simp only [cH, hlt, cond_true, vZ hh, ht, hdat t htv, hdx, Option.bind_some, hn, decide_eq_true h, cA (show P.length + 1 + t < 9223372036854775807 by omega)]
  ·refine .inr ⟨fun hgg => h (hiff.2 (hg.1 hgg)), ?_⟩
   simp only [cH, hlt, cond_true, vZ hh, ht, hdat t htv, hdx, Option.bind_some, hn, decide_eq_false h, cond_false]
 ·intro k i
  have hlt : decide ((i : Int) < (i : Int)) = false := decide_eq_false (by omega)
  simp only [cH, hlt, cond_false]
 ·intro p q hp hpq hq hg v hv hle
  have hq' : q - (P.length + 1) < V.length := by omega
  have hp' : p - (P.length + 1) < V.length := by omega
  rw [List.getElem?_eq_getElem hp'] at hv
  cases hv
  have hm := qA hc hs (fun y hy => hok y (List.mem_cons_of_mem _ hy)) (i := p - (P.length + 1)) (j := q - (P.length + 1)) (by omega) hq'
  exact hg _ (List.getElem?_eq_getElem hq') (hc.tr x _ _ hox (hok _ (List.mem_cons_of_mem _ (List.getElem_mem _))) (hok _ (List.mem_cons_of_mem _ (List.getElem_mem _))) hle hm)
theorem aNc (hc : pF cmp ok le) (again : List aG → Int → Int → Int → Option (List aG)) (P U : List aG) (y : aG) (S : List aG) (hok : ∀ z ∈ U ++ [y], ok z) (hs : U.Pairwise le) (hb : (P ++ U ++ y :: S).length < 1152921504606846976) :
  ∃ W, W.Perm (U ++ [y]) ∧ W.Pairwise le ∧ cI again ((P.length + U.length : Nat) : Int) cmp (P ++ U ++ y :: S) BIG (P.length : Nat) ((P.length + U.length : Nat) : Int) = some (P ++ W ++ S) := by
 simp only [List.length_append, List.length_cons] at hb
 have hoy := hok y (by simp)
 have hdat : ∀ t (ht : t < U.length), idx (P ++ U ++ y :: S) ((P.length + t : Nat) : Int) = some U[t] := by
  intro t ht
  rw [cT (by simp; omega)]
  simp only [Option.some.injEq]
  rw [List.getElem_append_left (by simp; omega), List.getElem_append_right (by omega)]
  simp only [show P.length + t - P.length = t by omega]
 have hdy : idx (P ++ U ++ y :: S) ((P.length + U.length : Nat) : Int) = some y := jM (by simp)
 have hbs := aIi (fun k i j => cI again ((P.length + U.length : Nat) : Int) cmp (P ++ U ++ y :: S) k i j) (fun i => iF again ((P.length + U.length : Nat) : Int) i (P ++ U ++ y :: S))
  (fun h => ∀ v, U[h - P.length]? = some v → le v y) P.length (P.length + U.length) (k := BIG) ?_ ?_ ?_ (by omega) (cR (by omega))
 ·obtain ⟨r, h1, h2, h3, h4, h5⟩ := hbs
  obtain ⟨t, rfl⟩ : ∃ t, r = P.length + t := ⟨r - P.length, by omega⟩
  have htl : t ≤ U.length := by omega
  refine ⟨U.take t ++ y :: U.drop t, ?_, ?_, ?_⟩
  ·have h1 : (U.take t ++ y :: U.drop t).Perm (y :: (U.take t ++ U.drop t)) := List.perm_middle
   rw [List.take_append_drop] at h1
   exact h1.trans (List.perm_append_singleton y U).symm
  ·have hp := List.pairwise_append.1 (show (U.take t ++ U.drop t).Pairwise le by rw [List.take_append_drop]; exact hs)
   have hlo : ∀ z ∈ U.take t, le z y := by
    intro z hz
    obtain ⟨q, hq, rfl⟩ := List.getElem_of_mem hz
    have hq' : q < t := by simp at hq; omega
    refine h4 (P.length + q) (by omega) (by omega) _ ?_
    rw [show P.length + q - P.length = q by omega, List.getElem_take, List.getElem?_eq_getElem]
   have hhi : ∀ z ∈ U.drop t, le y z := by
    intro z hz
    obtain ⟨q, hq, rfl⟩ := List.getElem_of_mem hz
    simp only [List.length_drop] at hq
    have hnot := h5 (P.length + (t + q)) (by omega) (by omega)
    have hzu : (U.drop t)[q] ∈ U := List.mem_of_mem_drop (List.getElem_mem _)
    refine (hc.tot y _ hoy (hok _ (by simp [hzu]))).resolve_right fun hn => hnot fun v hv => ?_
    rw [show P.length + (t + q) - P.length = t + q by omega, List.getElem?_eq_getElem (by omega)] at hv
    cases hv
    rwa [List.getElem_drop] at hn
   refine List.pairwise_append.2 ⟨hp.1, List.pairwise_cons.2 ⟨hhi, hp.2.1⟩, fun z hz w hw => ?_⟩
   rcases List.mem_cons.1 hw with rfl | hw
   ·exact hlo z hz
   ·exact hp.2.2 z hz w hw
  ·rw [h3]
   unfold iF
   have e1 : P ++ U ++ y :: S = (P ++ U.take t) ++ U.drop t ++ y :: S := by rw [List.append_assoc P (U.take t), List.take_append_drop]
   rw [e1]
   have := aNl again (i := P.length + t) y (P ++ U.take t) (by simp; omega) (U.drop t).length (U.drop t) S BIG rfl (by simp; omega) (cR (by simp; omega))
   have e2 : ((P ++ U.take t ++ U.drop t).length : Nat) = P.length + U.length := by simp [htl]
   rw [e2] at this
   rw [this]; simp
 ·intro k i j hi hij hj
  have hh : i + j < 4611686018427387904 := by omega
  have hlt : decide ((i : Int) < (j : Int)) = true := decide_eq_true (by omega)
  obtain ⟨t, ht, htv⟩ : ∃ t, (i + j) / 2 = P.length + t ∧ t < U.length := ⟨(i + j) / 2 - P.length, by omega, by omega⟩
  obtain ⟨n, hn, hiff⟩ := hc.run y U[t] hoy (hok _ (by simp))
  have hg : (∀ v, U[(i + j) / 2 - P.length]? = some v → le v y) ↔ le U[t] y := by
   rw [ht, show P.length + t - P.length = t by omega, List.getElem?_eq_getElem htv]
   exact ⟨fun h => h _ rfl, fun h v hv => by cases hv; exact h⟩
  by_cases h : n < 0
  ·refine .inr ⟨fun hgg => (hiff.1 h) (hg.1 hgg), ?_⟩
   simp only [cI, hlt, cond_true, vZ hh, ht, hdat t htv, hdy, Option.bind_some, hn, decide_eq_true h, Bool.not_true, cond_false]
  ·refine .inl ⟨hg.2 (Classical.byContradiction fun hle => h (hiff.2 hle)), ?_⟩
   simp only [cI, hlt, cond_true, vZ hh, ht, hdat t htv, hdy, Option.bind_some, hn, decide_eq_false h, Bool.not_false, cA (show P.length + t < 9223372036854775807 by omega)]
 ·intro k i
  have hlt : decide ((i : Int) < (i : Int)) = false := decide_eq_false (by omega)
  simp only [cI, hlt, cond_false]
 ·intro p q hp hpq hq hg v hv
  have hq' : q - P.length < U.length := by omega
  have hp' : p - P.length < U.length := by omega
  rw [List.getElem?_eq_getElem hp'] at hv
  cases hv
  have hm := qA hc hs (fun z hz => hok z (by simp [hz])) (i := p - P.length) (j := q - P.length) (by omega) hq'
  exact hc.tr _ _ y (hok _ (by simp)) (hok _ (by simp)) hoy hm (hg _ (List.getElem?_eq_getElem hq'))
end merge
end Go.Am.Rk
end
section
namespace Go.Am.Rk
section merge
variable {cmp : aG → aG → Option Int} {ok : aG → Prop} {le : aG → aG → Prop}
theorem aTm (hc : pF cmp ok le) {again : List aG → Int → Int → Int → Option (List aG)} {N : Nat} (ih : aCy ok le again N) (P U1 U2 V1 V2 S : List aG) (h1 : U1.length + V1.length < N) (h2 : U2.length + V2.length < N)
  (hok : ∀ y ∈ U1 ++ U2 ++ V1 ++ V2, ok y) (s1 : U1.Pairwise le) (s2 : U2.Pairwise le) (s3 : V1.Pairwise le) (s4 : V2.Pairwise le) (hb : (P ++ U1 ++ U2 ++ V1 ++ V2 ++ S).length < 1152921504606846976)
  {a m b mid n start : Int} (ea : a = (P.length : Nat)) (em : m = ((P.length + U1.length + U2.length : Nat) : Int)) (eb : b = ((P.length + U1.length + U2.length + V1.length + V2.length : Nat) : Int)) (emid : mid = ((P.length + U1.length + V1.length : Nat) : Int)) (en : n = mid + m) (es : start = ((P.length + U1.length : Nat) : Int)) :
  ∃ W1 W2, W1.Perm (U1 ++ V1) ∧ W1.Pairwise le ∧ W2.Perm (U2 ++ V2) ∧ W2.Pairwise le ∧ dC again a m b cmp mid n start (P ++ U1 ++ U2 ++ V1 ++ V2 ++ S) = some (P ++ W1 ++ W2 ++ S) := by
 simp only [List.length_append] at hb
 have eend : w64 (n - start) = ((P.length + U1.length + U2.length + V1.length : Nat) : Int) := by rw [cF (by omega) (by omega)]; omega
 have step1 : (bif decide (start < m) then some (decide (m < w64 (n - start))) else some false).bind (fun q => bif q then eZ (P ++ U1 ++ U2 ++ V1 ++ V2 ++ S) start m (w64 (n - start)) cmp else some (P ++ U1 ++ U2 ++ V1 ++ V2 ++ S)) = some (P ++ U1 ++ V1 ++ U2 ++ V2 ++ S) := by
  rw [eend, jQ, Option.bind_some]
  by_cases hh : 0 < U2.length ∧ 0 < V1.length
  ·have : (decide (start < m) && decide (m < ((P.length + U1.length + U2.length + V1.length : Nat) : Int))) = true := by simp only [Bool.and_eq_true, decide_eq_true_eq]; omega
   rw [this, cond_true]
   have hr := aNg (cmp := cmp) (P ++ U1) U2 V1 (V2 ++ S) (List.length_pos_iff.1 hh.1) (List.length_pos_iff.1 hh.2) (by simp only [List.length_append]; omega)
   simp only [List.length_append] at hr
   rw [es, em]
   have e1 : P ++ U1 ++ U2 ++ V1 ++ V2 ++ S = P ++ U1 ++ U2 ++ V1 ++ (V2 ++ S) := by simp
   rw [e1, hr]; simp
  ·have : (decide (start < m) && decide (m < ((P.length + U1.length + U2.length + V1.length : Nat) : Int))) = false := by
    rw [Bool.eq_false_iff]; simp only [ne_eq, Bool.and_eq_true, decide_eq_true_eq]; omega
   rw [this, cond_false]
   rcases Nat.eq_zero_or_pos U2.length with h | h
   ·rw [List.length_eq_zero_iff.1 h]; simp
   ·have : V1 = [] := List.length_eq_zero_iff.1 (by omega)
    rw [this]; simp
 obtain ⟨W1, p1, q1, step2⟩ : ∃ W1, W1.Perm (U1 ++ V1) ∧ W1.Pairwise le ∧ (bif decide (a < start) then some (decide (start < mid)) else some false).bind (fun q => bif q then again (P ++ U1 ++ V1 ++ U2 ++ V2 ++ S) a start mid else some (P ++ U1 ++ V1 ++ U2 ++ V2 ++ S)) = some (P ++ W1 ++ U2 ++ V2 ++ S) := by
  rw [jQ, Option.bind_some]
  by_cases hh : 0 < U1.length ∧ 0 < V1.length
  ·have : (decide (a < start) && decide (start < mid)) = true := by simp only [Bool.and_eq_true, decide_eq_true_eq]; omega
   rw [this]
   obtain ⟨W, hp, hs, hr⟩ := ih P U1 V1 (U2 ++ V2 ++ S) h1 hh.1 hh.2 (fun y hy => hok y (by simp only [List.mem_append] at hy ⊢; rcases hy with h | h <;> simp [h])) s1 s3 (by simp only [List.length_append]; omega)
   simp only [List.length_append] at hr
   refine ⟨W, hp, hs, ?_⟩
   rw [cond_true, ea, es, emid]
   have e1 : P ++ U1 ++ V1 ++ U2 ++ V2 ++ S = P ++ U1 ++ V1 ++ (U2 ++ V2 ++ S) := by simp
   rw [e1, hr]; simp
  ·have : (decide (a < start) && decide (start < mid)) = false := by
    rw [Bool.eq_false_iff]; simp only [ne_eq, Bool.and_eq_true, decide_eq_true_eq]; omega
   rw [this]
   refine ⟨U1 ++ V1, .refl _, ?_, by rw [cond_false]; simp⟩
   rcases Nat.eq_zero_or_pos U1.length with h | h
   ·rw [List.length_eq_zero_iff.1 h]; simpa using s3
   ·have : V1 = [] := List.length_eq_zero_iff.1 (by omega)
    rw [this]; simpa using s1
 have hW1 : W1.length = U1.length + V1.length := by rw [p1.length_eq, List.length_append]
 obtain ⟨W2, p2, q2, step3⟩ : ∃ W2, W2.Perm (U2 ++ V2) ∧ W2.Pairwise le ∧ (bif decide (mid < w64 (n - start)) then some (decide (w64 (n - start) < b)) else some false).bind (fun q => bif q then again (P ++ W1 ++ U2 ++ V2 ++ S) mid (w64 (n - start)) b else some (P ++ W1 ++ U2 ++ V2 ++ S)) = some (P ++ W1 ++ W2 ++ S) := by
  rw [eend, jQ, Option.bind_some]
  by_cases hh : 0 < U2.length ∧ 0 < V2.length
  ·have : (decide (mid < ((P.length + U1.length + U2.length + V1.length : Nat) : Int)) && decide (((P.length + U1.length + U2.length + V1.length : Nat) : Int) < b)) = true := by simp only [Bool.and_eq_true, decide_eq_true_eq]; omega
   rw [this]
   obtain ⟨W, hp, hs, hr⟩ := ih (P ++ W1) U2 V2 S h2 hh.1 hh.2 (fun y hy => hok y (by simp only [List.mem_append] at hy ⊢; rcases hy with h | h <;> simp [h])) s2 s4 (by simp only [List.length_append]; omega)
   simp only [List.length_append] at hr
   refine ⟨W, hp, hs, ?_⟩
   rw [cond_true, emid, eb]
   rw [show P.length + U1.length + V1.length = P.length + W1.length by omega, show P.length + U1.length + U2.length + V1.length = P.length + W1.length + U2.length by omega, show P.length + W1.length + U2.length + V2.length = P.length + W1.length + U2.length + V2.length from rfl]
   exact hr
  ·have : (decide (mid < ((P.length + U1.length + U2.length + V1.length : Nat) : Int)) && decide (((P.length + U1.length + U2.length + V1.length : Nat) : Int) < b)) = false := by
    rw [Bool.eq_false_iff]; simp only [ne_eq, Bool.and_eq_true, decide_eq_true_eq]; omega
   rw [this]
   refine ⟨U2 ++ V2, .refl _, ?_, by rw [cond_false]; simp⟩
   rcases Nat.eq_zero_or_pos U2.length with h | h
   ·rw [List.length_eq_zero_iff.1 h]; simpa using s4
   ·have : V2 = [] := List.length_eq_zero_iff.1 (by omega)
    rw [this]; simpa using s2
 refine ⟨W1, W2, p1, q1, p2, q2, ?_⟩
 have fin : ∀ (d : List aG) (x : Option (List aG)) (k : List aG → Option (List aG)) (q : Bool), (bif q then x.bind k else k d) = (bif q then x else some d).bind k := by intro d x k q; cases q <;> rfl
 unfold dC
 have h3 : ∀ d, d = P ++ W1 ++ U2 ++ V2 ++ S → ((bif decide (mid < w64 (n - start)) then some (decide (w64 (n - start) < b)) else some false).bind fun q => bif q then ((again d mid (w64 (n - start)) b).bind fun r => some r) else some d) = some (P ++ W1 ++ W2 ++ S) := by
  rintro d rfl
  rw [← step3]
  congr 1
  funext q
  cases q
  ·rfl
  ·simp only [cond_true]; cases again (P ++ W1 ++ U2 ++ V2 ++ S) mid (w64 (n - start)) b <;> rfl
 have h2 : ∀ d, d = P ++ U1 ++ V1 ++ U2 ++ V2 ++ S → ((bif decide (a < start) then some (decide (start < mid)) else some false).bind fun q => bif q then ((again d a start mid).bind fun r =>
   (bif decide (mid < w64 (n - start)) then some (decide (w64 (n - start) < b)) else some false).bind fun q => bif q then ((again r mid (w64 (n - start)) b).bind fun r => some r) else some r) else
   ((bif decide (mid < w64 (n - start)) then some (decide (w64 (n - start) < b)) else some false).bind fun q => bif q then ((again d mid (w64 (n - start)) b).bind fun r => some r) else some d)) = some (P ++ W1 ++ W2 ++ S) := by
  rintro d rfl
  rw [jQ, Option.bind_some] at step2 ⊢
  cases hq : (decide (a < start) && decide (start < mid)) with
  | true =>
   rw [hq, cond_true] at step2
   rw [cond_true, step2, Option.bind_some]
   exact h3 _ rfl
  | false =>
   rw [hq, cond_false] at step2
   rw [cond_false]
   exact h3 _ (Option.some.inj step2)
 rw [jQ, Option.bind_some] at step1 ⊢
 cases hq : (decide (start < m) && decide (m < w64 (n - start))) with
 | true =>
  rw [hq, cond_true] at step1
  rw [cond_true, step1, Option.bind_some]
  exact h2 _ rfl
 | false =>
  rw [hq, cond_false] at step1
  rw [cond_false]
  exact h2 _ (Option.some.inj step1)
theorem aKj (hc : pF cmp ok le) : ∀ (kr N : Nat), N ≤ kr → aCy ok le (aX cmp kr) N := by
 intro kr
 induction kr with
 | zero => intro N hN P U V S hlt; omega
 | succ kr ih =>
  intro N hN P U V S hlt hu hv hok su sv hb
  simp only [List.length_append] at hb
  have eU : w64 (((P ++ U).length : Int) - (P.length : Int)) = (U.length : Int) := by simp only [List.length_append]; rw [cF (by omega) (by omega)]; omega
  have eV : w64 (((P ++ U ++ V).length : Int) - ((P ++ U).length : Int)) = (V.length : Int) := by simp only [List.length_append]; rw [cF (by omega) (by omega)]; omega
  simp only [aX, eU, eV]
  by_cases hu1 : U.length = 1
  ·match U, hu1 with
   | [x], _ =>
    obtain ⟨W, h1, h2, h3⟩ := aPe hc (aX cmp kr) P x V S (fun y hy => hok y (by simpa using hy)) sv (by simp only [List.length_append, List.length_cons]; simp at hb; omega)
    refine ⟨W, by simpa using h1, h2, ?_⟩
    have hd : decide ((([x] : List aG).length : Int) = 1) = true := decide_eq_true (by simp)
    rw [hd, cond_true]
    have e1 : P ++ [x] ++ V ++ S = P ++ x :: V ++ S := by simp
    have e2 : (P ++ [x]).length = P.length + 1 := by simp
    have e3 : (P ++ [x] ++ V).length = P.length + 1 + V.length := by simp <;> omega
    rw [e1, e2, e3]
    exact h3
  have hd : decide ((U.length : Int) = 1) = false := decide_eq_false (by omega)
  rw [hd, cond_false]
  by_cases hv1 : V.length = 1
  ·match V, hv1 with
   | [y], _ =>
    obtain ⟨W, h1, h2, h3⟩ := aNc hc (aX cmp kr) P U y S hok su (by simp only [List.length_append, List.length_cons]; simp at hb; omega)
    refine ⟨W, h1, h2, ?_⟩
    have hd : decide ((([y] : List aG).length : Int) = 1) = true := decide_eq_true (by simp)
    rw [hd, cond_true]
    have e1 : P ++ U ++ [y] ++ S = P ++ U ++ y :: S := by simp
    have e2 : (P ++ U).length = P.length + U.length := by simp
    rw [e1, e2]
    exact h3
  have hd2 : decide ((V.length : Int) = 1) = false := decide_eq_false (by omega)
  rw [hd2, cond_false]
  have eh : w64 ((IntKind.u64.wrap (w64 ((P.length : Int) + ((P ++ U ++ V).length : Int)))).fdiv (2 ^ (min (1 : Int).toNat 64))) = (((P.length + (P ++ U ++ V).length) / 2 : Nat) : Int) := vZ (by simp only [List.length_append]; omega)
  rw [eh]
  obtain ⟨mid, hmid⟩ : ∃ mid, mid = (P.length + (P ++ U ++ V).length) / 2 := ⟨_, rfl⟩
  rw [← hmid]
  simp only [List.length_append] at hmid
  have en : w64 ((mid : Int) + ((P ++ U).length : Int)) = ((mid + (P.length + U.length) : Nat) : Int) := by simp only [List.length_append]; rw [cF (by omega) (by omega)]; omega
  have ep : w64 (((mid + (P.length + U.length) : Nat) : Int) - 1) = ((mid + (P.length + U.length) - 1 : Nat) : Int) := by rw [cF (by omega) (by omega)]; omega
  rw [en, ep]
  have hok1 : ∀ y ∈ U, ok y := fun y hy => hok y (by simp [hy])
  have hok2 : ∀ y ∈ V, ok y := fun y hy => hok y (by simp [hy])
  have hdU : ∀ t (ht : t < U.length), idx (P ++ U ++ V ++ S) ((P.length + t : Nat) : Int) = some U[t] := by
   intro t ht
   rw [cT (by simp; omega)]
   simp only [Option.some.injEq]
   rw [List.getElem_append_left (by simp; omega), List.getElem_append_left (by simp; omega), List.getElem_append_right (by omega)]
   simp only [show P.length + t - P.length = t by omega]
  have hdV : ∀ t (ht : t < V.length), idx (P ++ U ++ V ++ S) ((P.length + U.length + t : Nat) : Int) = some V[t] := by
   intro t ht
   rw [cT (by simp; omega)]
   simp only [Option.some.injEq]
   rw [List.getElem_append_left (by simp; omega), List.getElem_append_right (by simp)]
   simp only [List.length_append, show P.length + U.length + t - (P.length + U.length) = t by omega]
  have search : ∀ lo hi : Nat, P.length ≤ lo → lo ≤ hi → hi ≤ P.length + U.length → (∀ c, lo ≤ c → c < hi → P.length + U.length ≤ mid + (P.length + U.length) - 1 - c ∧ mid + (P.length + U.length) - 1 - c < P.length + U.length + V.length ∧ c < mid + (P.length + U.length)) →
    ∃ r : Nat, lo ≤ r ∧ r ≤ hi ∧ bT (aX cmp kr) (P.length : Nat) ((P ++ U).length : Nat) ((P ++ U ++ V).length : Nat) cmp mid ((mid + (P.length + U.length) : Nat) : Int) ((mid + (P.length + U.length) - 1 : Nat) : Int) (P ++ U ++ V ++ S) BIG lo hi =
     dC (aX cmp kr) (P.length : Nat) ((P ++ U).length : Nat) ((P ++ U ++ V).length : Nat) cmp mid ((mid + (P.length + U.length) : Nat) : Int) r (P ++ U ++ V ++ S) ∧
     (∀ x, lo ≤ x → x < r → ∀ u v, U[x - P.length]? = some u → V[mid + (P.length + U.length) - 1 - x - (P.length + U.length)]? = some v → le u v) ∧ (∀ x, r ≤ x → x < hi → ¬ ∀ u v, U[x - P.length]? = some u → V[mid + (P.length + U.length) - 1 - x - (P.length + U.length)]? = some v → le u v) := by
   intro lo hi hlo hlh hhi hc'
   refine aIi (fun k i j => bT (aX cmp kr) (P.length : Nat) ((P ++ U).length : Nat) ((P ++ U ++ V).length : Nat) cmp mid ((mid + (P.length + U.length) : Nat) : Int) ((mid + (P.length + U.length) - 1 : Nat) : Int) (P ++ U ++ V ++ S) k i j)
    (fun i => dC (aX cmp kr) (P.length : Nat) ((P ++ U).length : Nat) ((P ++ U ++ V).length : Nat) cmp mid ((mid + (P.length + U.length) : Nat) : Int) i (P ++ U ++ V ++ S))
    (fun x => ∀ u v, U[x - P.length]? = some u → V[mid + (P.length + U.length) - 1 - x - (P.length + U.length)]? = some v → le u v) lo hi ?_ ?_ ?_ hlh (cR (by omega))
   ·intro k i j hi' hij hj
    have hh : i + j < 4611686018427387904 := by omega
    have hlt : decide ((i : Int) < (j : Int)) = true := decide_eq_true (by omega)
    obtain ⟨c, hcd⟩ : ∃ c, c = (i + j) / 2 := ⟨_, rfl⟩
    obtain ⟨g1, g2, g3⟩ := hc' c (by omega) (by omega)
    have t1 : c - P.length < U.length := by omega
    have t2 : mid + (P.length + U.length) - 1 - c - (P.length + U.length) < V.length := by omega
    have i1 := hdU (c - P.length) t1
    have i2 := hdV (mid + (P.length + U.length) - 1 - c - (P.length + U.length)) t2
    rw [show P.length + (c - P.length) = c by omega] at i1
    rw [show P.length + U.length + (mid + (P.length + U.length) - 1 - c - (P.length + U.length)) = mid + (P.length + U.length) - 1 - c by omega] at i2
    have ew : w64 (((mid + (P.length + U.length) - 1 : Nat) : Int) - (c : Int)) = ((mid + (P.length + U.length) - 1 - c : Nat) : Int) := by rw [cF (by omega) (by omega)]; omega
    obtain ⟨q, hq, hiff⟩ := hc.run _ _ (hok2 _ (List.getElem_mem t2)) (hok1 _ (List.getElem_mem t1))
    have hg : (∀ u v, U[c - P.length]? = some u → V[mid + (P.length + U.length) - 1 - c - (P.length + U.length)]? = some v → le u v) ↔ le U[c - P.length] V[mid + (P.length + U.length) - 1 - c - (P.length + U.length)] := by
     rw [List.getElem?_eq_getElem t1, List.getElem?_eq_getElem t2]
     exact ⟨fun h => h _ _ rfl rfl, fun h u v h1 h2 => by cases h1; cases h2; exact h⟩
    simp only [← hcd]
    by_cases h : q < 0
    ·refine .inr ⟨fun hgg => hiff.1 h (hg.1 hgg), ?_⟩
     simp only [bT, hlt, cond_true, vZ hh, ← hcd, ew, i1, i2, Option.bind_some, hq, decide_eq_true h, Bool.not_true, cond_false]
    ·refine .inl ⟨hg.2 (Classical.byContradiction fun hle => h (hiff.2 hle)), ?_⟩
     simp only [bT, hlt, cond_true, vZ hh, ← hcd, ew, i1, i2, Option.bind_some, hq, decide_eq_false h, Bool.not_false, cA (show c < 9223372036854775807 by omega)]
   ·intro k i
    have hlt : decide ((i : Int) < (i : Int)) = false := decide_eq_false (by omega)
    simp only [bT, hlt, cond_false]
   ·intro p q hp hpq hq hg u v hu' hv'
    obtain ⟨g1, g2, g3⟩ := hc' p (by omega) (by omega)
    obtain ⟨g4, g5, g6⟩ := hc' q (by omega) hq
    have t1 : q - P.length < U.length := by omega
    have t2 : mid + (P.length + U.length) - 1 - q - (P.length + U.length) < V.length := by omega
    have t3 : p - P.length < U.length := by omega
    have t4 : mid + (P.length + U.length) - 1 - p - (P.length + U.length) < V.length := by omega
    rw [List.getElem?_eq_getElem t3] at hu'
    rw [List.getElem?_eq_getElem t4] at hv'
    cases hu'; cases hv'
    have m1 := qA hc su hok1 (i := p - P.length) (j := q - P.length) (by omega) t1
    have m2 := qA hc sv hok2 (i := mid + (P.length + U.length) - 1 - q - (P.length + U.length)) (j := mid + (P.length + U.length) - 1 - p - (P.length + U.length)) (by omega) t4
    have m3 := hg _ _ (List.getElem?_eq_getElem t1) (List.getElem?_eq_getElem t2)
    exact hc.tr _ _ _ (hok1 _ (List.getElem_mem _)) (hok1 _ (List.getElem_mem _)) (hok2 _ (List.getElem_mem _)) m1 (hc.tr _ _ _ (hok1 _ (List.getElem_mem _)) (hok2 _ (List.getElem_mem _)) (hok2 _ (List.getElem_mem _)) m3 m2)
  have finish : ∀ lo hi r : Nat, P.length ≤ lo → lo ≤ r → r ≤ hi → hi ≤ P.length + U.length → P.length + U.length ≤ mid + (P.length + U.length) - r → mid + (P.length + U.length) - r ≤ P.length + U.length + V.length → r ≤ mid →
    (P.length < lo → lo = mid + (P.length + U.length) - (P.length + U.length + V.length)) → (hi < P.length + U.length → hi = mid) →
    (∀ x, lo ≤ x → x < r → ∀ u v, U[x - P.length]? = some u → V[mid + (P.length + U.length) - 1 - x - (P.length + U.length)]? = some v → le u v) → (∀ x, r ≤ x → x < hi → ¬ ∀ u v, U[x - P.length]? = some u → V[mid + (P.length + U.length) - 1 - x - (P.length + U.length)]? = some v → le u v) →
    ∃ W, W.Perm (U ++ V) ∧ W.Pairwise le ∧ dC (aX cmp kr) (P.length : Nat) ((P ++ U).length : Nat) ((P ++ U ++ V).length : Nat) cmp mid ((mid + (P.length + U.length) : Nat) : Int) r (P ++ U ++ V ++ S) = some (P ++ W ++ S) := by
   intro lo hi0 r hlo hlr hrh hhi he1 he2 hrm hlo' hhi' hlow hhigh
   obtain ⟨s, hs⟩ : ∃ s, s = r - P.length := ⟨_, rfl⟩
   obtain ⟨e, he⟩ : ∃ e, e = mid + (P.length + U.length) - r - (P.length + U.length) := ⟨_, rfl⟩
   have hsU : s ≤ U.length := by omega
   have heV : e ≤ V.length := by omega
   have lU1 : (U.take s).length = s := by simp; omega
   have lU2 : (U.drop s).length = U.length - s := by simp
   have lV1 : (V.take e).length = e := by simp; omega
   have lV2 : (V.drop e).length = V.length - e := by simp
   have dU : U.take s ++ U.drop s = U := List.take_append_drop s U
   have dV : V.take e ++ V.drop e = V := List.take_append_drop e V
   have pU := List.pairwise_append.1 (show (U.take s ++ U.drop s).Pairwise le by rw [dU]; exact su)
   have pV := List.pairwise_append.1 (show (V.take e ++ V.drop e).Pairwise le by rw [dV]; exact sv)
   have ihN : aCy ok le (aX cmp kr) (U.length + V.length) := ih _ (by omega)
   obtain ⟨W1, W2, p1, q1, p2, q2, hK⟩ := aTm hc ihN P (U.take s) (U.drop s) (V.take e) (V.drop e) S (by rw [lU1, lV1]; omega) (by rw [lU2, lV2]; omega)
    (fun y hy => by
     simp only [List.mem_append] at hy
     rcases hy with ((h | h) | h) | h
     ·exact hok1 y (List.mem_of_mem_take h)
     ·exact hok1 y (List.mem_of_mem_drop h)
     ·exact hok2 y (List.mem_of_mem_take h)
     ·exact hok2 y (List.mem_of_mem_drop h)) pU.1 pU.2.1 pV.1 pV.2.1 (by simp only [List.length_append, lU1, lU2, lV1, lV2]; omega)
    (a := (P.length : Nat)) (m := ((P ++ U).length : Nat)) (b := ((P ++ U ++ V).length : Nat)) (mid := mid) (n := ((mid + (P.length + U.length) : Nat) : Int)) (start := r) rfl
    (by simp only [List.length_append, lU1, lU2]; omega) (by simp only [List.length_append, lU1, lU2, lV1, lV2]; omega) (by rw [lU1, lV1]; omega) (by simp only [List.length_append]; omega) (by rw [lU1]; omega)
   have ed : P ++ U.take s ++ U.drop s ++ V.take e ++ V.drop e ++ S = P ++ U ++ V ++ S := by
    rw [List.append_assoc P, dU, List.append_assoc (P ++ U), dV]
   rw [ed] at hK
   refine ⟨W1 ++ W2, ?_, ?_, by rw [hK]; simp⟩
   ·refine (p1.append p2).trans ?_
    have : (U.take s ++ V.take e ++ (U.drop s ++ V.drop e)).Perm ((U.take s ++ U.drop s) ++ (V.take e ++ V.drop e)) := by
     rw [List.append_assoc, List.append_assoc]
     refine List.Perm.append_left _ ?_
     rw [← List.append_assoc, ← List.append_assoc]
     exact List.Perm.append_right _ List.perm_append_comm
    rwa [dU, dV] at this
   ·refine List.pairwise_append.2 ⟨q1, q2, fun x hx y hy => ?_⟩
    have hx' := p1.mem_iff.1 hx
    have hy' := p2.mem_iff.1 hy
    rcases List.mem_append.1 hx' with hx1 | hx1 <;> rcases List.mem_append.1 hy' with hy1 | hy1
    ·exact pU.2.2 x hx1 y hy1
    ·-- the first of U, the last of V
     obtain ⟨i, hi, rfl⟩ := List.getElem_of_mem hx1
     obtain ⟨j, hj, rfl⟩ := List.getElem_of_mem hy1
     rw [lU1] at hi
     rw [lV2] at hj
     have hlo2 : lo ≤ r - 1 := by
      rcases Nat.lt_or_ge P.length lo with h | h
      ·have := hlo' h; omega
      ·omega
     have t1 : r - 1 - P.length < U.length := by omega
     have t2 : mid + (P.length + U.length) - 1 - (r - 1) - (P.length + U.length) < V.length := by omega
     have m3 := hlow (r - 1) hlo2 (by omega) _ _ (List.getElem?_eq_getElem t1) (List.getElem?_eq_getElem t2)
     have m1 := qA hc su hok1 (i := i) (j := r - 1 - P.length) (by omega) t1
     have m2 := qA hc sv hok2 (i := mid + (P.length + U.length) - 1 - (r - 1) - (P.length + U.length)) (j := e + j) (by omega) (by omega)
     rw [List.getElem_take, List.getElem_drop]
     exact hc.tr _ _ _ (hok1 _ (List.getElem_mem _)) (hok1 _ (List.getElem_mem _)) (hok2 _ (List.getElem_mem _)) m1 (hc.tr _ _ _ (hok1 _ (List.getElem_mem _)) (hok2 _ (List.getElem_mem _)) (hok2 _ (List.getElem_mem _)) m3 m2)
    ·obtain ⟨i, hi, rfl⟩ := List.getElem_of_mem hx1
     obtain ⟨j, hj, rfl⟩ := List.getElem_of_mem hy1
     rw [lV1] at hi
     rw [lU2] at hj
     have hh2 : r < hi0 := by
      rcases Nat.lt_or_ge hi0 (P.length + U.length) with h | h
      ·have := hhi' h; omega
      ·omega
     have t1 : r - P.length < U.length := by omega
     have t2 : mid + (P.length + U.length) - 1 - r - (P.length + U.length) < V.length := by omega
     have hnot := hhigh r (Nat.le_refl _) hh2
     have m3 : le V[mid + (P.length + U.length) - 1 - r - (P.length + U.length)] U[r - P.length] := by
      refine (hc.tot _ _ (hok2 _ (List.getElem_mem t2)) (hok1 _ (List.getElem_mem t1))).resolve_right fun hn => hnot fun u v h1 h2 => ?_
      rw [List.getElem?_eq_getElem t1] at h1
      rw [List.getElem?_eq_getElem t2] at h2
      cases h1; cases h2; exact hn
     have m1 := qA hc sv hok2 (i := i) (j := mid + (P.length + U.length) - 1 - r - (P.length + U.length)) (by omega) t2
     have m2 := qA hc su hok1 (i := r - P.length) (j := s + j) (by omega) (by omega)
     rw [List.getElem_take, List.getElem_drop]
     exact hc.tr _ _ _ (hok2 _ (List.getElem_mem _)) (hok2 _ (List.getElem_mem _)) (hok1 _ (List.getElem_mem _)) m1 (hc.tr _ _ _ (hok2 _ (List.getElem_mem _)) (hok1 _ (List.getElem_mem _)) (hok1 _ (List.getElem_mem _)) m3 m2)
    ·exact pV.2.2 x hx1 y hy1
  by_cases hm : mid < P.length + U.length
  ·have hd3 : decide ((mid : Int) < ((P ++ U).length : Int)) = true := decide_eq_true (by simp only [List.length_append]; omega)
   have es : w64 (((mid + (P.length + U.length) : Nat) : Int) - ((P ++ U ++ V).length : Int)) = ((mid + (P.length + U.length) - (P.length + U.length + V.length) : Nat) : Int) := by simp only [List.length_append]; rw [cF (by omega) (by omega)]; omega
   rw [hd3, cond_true, es]
   obtain ⟨r, h1, h2, h3, h4, h5⟩ := search (mid + (P.length + U.length) - (P.length + U.length + V.length)) mid (by omega) (by omega) (by omega) (fun c h1 h2 => by omega)
   rw [h3]
   exact finish _ mid r (by omega) h1 h2 (by omega) (by omega) (by omega) h2 (fun _ => rfl) (fun _ => rfl) h4 h5
  ·have hd3 : decide ((mid : Int) < ((P ++ U).length : Int)) = false := decide_eq_false (by simp only [List.length_append]; omega)
   rw [hd3, cond_false]
   have eu : ((P ++ U).length : Nat) = P.length + U.length := by simp
   obtain ⟨r, h1, h2, h3, h4, h5⟩ := search P.length (P.length + U.length) (by omega) (by omega) (by omega) (fun c h1 h2 => by omega)
   have hf := finish P.length (P.length + U.length) r (by omega) h1 h2 (by omega) (by omega) (by omega) (by omega) (fun h => by omega) (fun h => by omega) h4 h5
   simp only [eu] at h3 hf ⊢
   rw [h3]
   exact hf
end merge
end Go.Am.Rk
end
section
namespace Go.Am.Rk
section stable
variable {cmp : aG → aG → Option Int} {ok : aG → Prop} {le : aG → aG → Prop}
def Blk (le : aG → aG → Prop) (bs : Nat) (L : List aG) : Prop := ∀ (i j : Nat) (_ : i < j) (hj : j < L.length), i / bs = j / bs → le (L[i]'(by omega)) L[j]
theorem uN {bs c : Nat} {P M : List aG} (hb : 0 < bs) (hP : P.length = c * bs) (h1 : Blk le bs P) (h2 : M.Pairwise le) (_ : M.length ≤ bs) : Blk le bs (P ++ M) := by
 intro i j hij hj hd
 simp only [List.length_append] at hj
 rcases Nat.lt_or_ge j P.length with h | h
 ·rw [List.getElem_append_left (by omega), List.getElem_append_left h]
  exact h1 i j hij h hd
 ·rcases Nat.lt_or_ge i P.length with h3 | h3
  ·exfalso
   have e1 : i / bs < c := (Nat.div_lt_iff_lt_mul hb).2 (by omega)
   have e2 : c ≤ j / bs := (Nat.le_div_iff_mul_le hb).2 (by omega)
   omega
  ·rw [List.getElem_append_right h3, List.getElem_append_right h]
   exact List.pairwise_iff_getElem.1 h2 _ _ (by omega) (by omega) (by omega)
theorem sV {bs : Nat} {L : List aG} (h : Blk le bs L) (hl : L.length ≤ bs) : L.Pairwise le :=
 List.pairwise_iff_getElem.2 fun i j hi hj hij => h i j hij hj (by rw [Nat.div_eq_of_lt (by omega), Nat.div_eq_of_lt (by omega)])
theorem aFo {bs n : Nat} {L : List aG} (h : Blk le bs L) : Blk le bs (L.take n) := by
 intro i j hij hj hd
 simp only [List.length_take] at hj
 rw [List.getElem_take, List.getElem_take]
 exact h i j hij (by omega) hd
theorem aFn {bs c n : Nat} {L : List aG} (hb : 0 < bs) (hn : n = c * bs) (h : Blk le bs L) : Blk le bs (L.drop n) := by
 intro i j hij hj hd
 simp only [List.length_drop] at hj
 rw [List.getElem_drop, List.getElem_drop]
 refine h (n + i) (n + j) (by omega) (by omega) ?_
 rw [hn, Nat.add_comm (c * bs) i, Nat.add_comm (c * bs) j, Nat.add_mul_div_right _ _ hb, Nat.add_mul_div_right _ _ hb, hd]
theorem aCt (hc : pF cmp ok le) (P U V S : List aG) (h1 : 0 < U.length) (h2 : 0 < V.length) (hok : ∀ y ∈ U ++ V, ok y) (su : U.Pairwise le) (sv : V.Pairwise le) (hb : (P ++ U ++ V ++ S).length < 1152921504606846976) :
  ∃ W, W.Perm (U ++ V) ∧ W.Pairwise le ∧ iY (P ++ U ++ V ++ S) (P.length : Nat) ((P ++ U).length : Nat) ((P ++ U ++ V).length : Nat) cmp = some (P ++ W ++ S) :=
 aKj hc BIG BIG (Nat.le_refl _) P U V S (cR (by simp only [List.length_append] at hb; omega)) h1 h2 hok su sv hb
theorem aVn (hc : pF cmp ok le) (F : Int → List aG → Option (List aG)) {bs : Nat} (hbs : 0 < bs) (hbb : bs < 1152921504606846976) : ∀ (d : Nat) (P R : List aG) (k c : Nat), R.length = d → d < k → P.length = c * (2 * bs) → Blk le (2 * bs) P → Blk le bs R → (∀ y ∈ P ++ R, ok y) → (P ++ R).length < 576460752303423488 →
  ∃ L, L.Perm (P ++ R) ∧ Blk le (2 * bs) L ∧ dW F ((P ++ R).length : Nat) cmp (bs : Nat) k (P.length : Nat) ((P.length + 2 * bs : Nat) : Int) (P ++ R) = F ((bs * 2 : Nat) : Int) L := by
 intro d
 induction d using Nat.strongRecOn with
 | _ d ih =>
  intro P R k c hd hk hP hPb hRb hok hb
  obtain ⟨k, rfl⟩ : ∃ q, k = q + 1 := ⟨k - 1, by omega⟩
  simp only [List.length_append] at hb
  have e2 : w64 ((bs : Int) * 2) = ((bs * 2 : Nat) : Int) := by rw [cF (by omega) (by omega)]; omega
  have e2' : w64 (2 * (bs : Int)) = ((2 * bs : Nat) : Int) := by rw [cF (by omega) (by omega)]; omega
  have em : w64 ((P.length : Int) + (bs : Int)) = ((P.length + bs : Nat) : Int) := by rw [cF (by omega) (by omega)]; omega
  by_cases hfull : 2 * bs ≤ R.length
  ·-- two whole blocks
   obtain ⟨U, V, S, rfl, hU, hV, hUd, hVd, hSd⟩ : ∃ U V S, R = U ++ V ++ S ∧ U.length = bs ∧ V.length = bs ∧ U = R.take bs ∧ V = (R.drop bs).take bs ∧ S = R.drop (2 * bs) := by
    refine ⟨R.take bs, (R.drop bs).take bs, R.drop (2 * bs), ?_, by simp; omega, by simp; omega, rfl, rfl, rfl⟩
    rw [show R.drop (2 * bs) = (R.drop bs).drop bs by rw [List.drop_drop]; congr 1; omega, List.append_assoc, List.take_append_drop, List.take_append_drop]
   have bU : Blk le bs U := by rw [hUd]; exact aFo hRb
   have bV : Blk le bs V := by rw [hVd]; exact aFo (aFn (c := 1) hbs (by omega) hRb)
   have bS : Blk le bs S := by rw [hSd]; exact aFn (c := 2) hbs (by omega) hRb
   clear hUd hVd hSd
   simp only [List.length_append] at hb hd hfull
   obtain ⟨W, p1, s1, hr⟩ := aCt hc P U V S (by omega) (by omega) (fun y hy => hok y (by simp only [List.mem_append] at hy ⊢; rcases hy with h | h <;> simp [h])) (sV bU (by omega)) (sV bV (by omega)) (by simp only [List.length_append]; omega)
   have hW : W.length = 2 * bs := by rw [p1.length_eq, List.length_append]; omega
   have hlt : decide (((P.length + 2 * bs : Nat) : Int) ≤ ((P ++ (U ++ V ++ S)).length : Int)) = true := decide_eq_true (by simp only [List.length_append]; omega)
   obtain ⟨L, p2, b2, hL⟩ := ih S.length (by omega) (P ++ W) S k (c + 1) rfl (by omega) (by rw [List.length_append, hP, hW, Nat.add_mul]; omega) (uN (c := c) (by omega) hP hPb s1 (by omega)) bS
    (fun y hy => by
     simp only [List.mem_append] at hy
     rcases hy with (h | h) | h
     ·exact hok y (by simp [h])
     ·have := p1.mem_iff.1 h
      simp only [List.mem_append] at this
      rcases this with h | h <;> exact hok y (by simp [h])
     ·exact hok y (by simp [h])) (by simp only [List.length_append]; omega)
   refine ⟨L, p2.trans ?_, b2, ?_⟩
   ·have : (P ++ W ++ S).Perm (P ++ (U ++ V) ++ S) := List.Perm.append_right _ (List.Perm.append_left _ p1)
    simpa using this
   ·have ed : P ++ (U ++ V ++ S) = P ++ U ++ V ++ S := by simp
    have ex : (P ++ U).length = P.length + bs := by rw [List.length_append, hU]
    have ey : (P ++ U ++ V).length = P.length + 2 * bs := by rw [List.length_append, List.length_append, hU, hV]; omega
    rw [ex, ey] at hr
    simp only [dW, hlt, cond_true, em, e2']
    rw [ed, hr, Option.bind_some]
    have eb : w64 (((P.length + 2 * bs : Nat) : Int) + ((2 * bs : Nat) : Int)) = (((P ++ W).length + 2 * bs : Nat) : Int) := by rw [cF (by omega) (by omega), List.length_append, hW]; omega
    have ea : ((P.length + 2 * bs : Nat) : Int) = (((P ++ W).length : Nat) : Int) := by rw [List.length_append, hW]
    have el : (P ++ W ++ S).length = (P ++ U ++ V ++ S).length := by simp only [List.length_append, hW]; omega
    rw [eb, ea, ← el]
    exact hL
  ·have hlt : decide (((P.length + 2 * bs : Nat) : Int) ≤ ((P ++ R).length : Int)) = false := decide_eq_false (by simp only [List.length_append]; omega)
   simp only [dW, hlt, cond_false, kW, em, fY, e2]
   by_cases hm : bs < R.length
   ·have hd3 : decide (((P.length + bs : Nat) : Int) < ((P ++ R).length : Int)) = true := decide_eq_true (by simp only [List.length_append]; omega)
    obtain ⟨U, V, rfl, hU, hUd, hVd⟩ : ∃ U V, R = U ++ V ∧ U.length = bs ∧ U = R.take bs ∧ V = R.drop bs := ⟨R.take bs, R.drop bs, by simp, by simp; omega, rfl, rfl⟩
    have bU : Blk le bs U := by rw [hUd]; exact aFo hRb
    have bV : Blk le bs V := by rw [hVd]; exact aFn (c := 1) hbs (by omega) hRb
    clear hUd hVd
    simp only [List.length_append] at hb hm hfull
    obtain ⟨W, p1, s1, hr⟩ := aCt hc P U V [] (by omega) (by omega) (fun y hy => hok y (by simp only [List.mem_append] at hy ⊢; rcases hy with h | h <;> simp [h])) (sV bU (by omega)) (sV bV (by omega)) (by simp only [List.length_append, List.length_nil]; omega)
    have hW : W.length = U.length + V.length := by rw [p1.length_eq, List.length_append]
    simp only [List.append_nil] at hr
    have ex : (P ++ U).length = P.length + bs := by rw [List.length_append, hU]
    rw [ex, List.append_assoc P U V] at hr
    refine ⟨P ++ W, List.Perm.append_left _ p1, uN (c := c) (by omega) hP hPb s1 (by omega), ?_⟩
    rw [hd3, cond_true, hr, Option.bind_some]
   ·have hd3 : decide (((P.length + bs : Nat) : Int) < ((P ++ R).length : Int)) = false := decide_eq_false (by simp only [List.length_append]; omega)
    refine ⟨P ++ R, .refl _, uN (c := c) (by omega) hP hPb (sV hRb (by omega)) (by omega), ?_⟩
    rw [hd3, cond_false]
theorem aVw (hc : pF cmp ok le) : ∀ (d : Nat) (xs : List aG) (bs k : Nat), xs.length - bs = d → d < k → 0 < bs → bs < 1152921504606846976 → Blk le bs xs → (∀ y ∈ xs, ok y) → xs.length < 288230376151711744 →
  ∃ ys, ys.Perm xs ∧ ys.Pairwise le ∧ cY (xs.length : Nat) cmp k (bs : Nat) xs = some ys := by
 intro d
 induction d using Nat.strongRecOn with
 | _ d ih =>
  intro xs bs k hd hk hbs hbb hbl hok hb
  obtain ⟨k, rfl⟩ : ∃ q, k = q + 1 := ⟨k - 1, by omega⟩
  by_cases h : bs < xs.length
  ·have hlt : decide ((bs : Int) < (xs.length : Int)) = true := decide_eq_true (by omega)
   have e2' : w64 (2 * (bs : Int)) = ((2 * bs : Nat) : Int) := by rw [cF (by omega) (by omega)]; omega
   simp only [cY, hlt, cond_true, e2']
   obtain ⟨L, p1, b1, hr⟩ := aVn hc (cY (xs.length : Nat) cmp k) hbs hbb xs.length [] xs BIG 0 rfl (cR (by omega)) (by simp) (fun i j _ hj => by simp at hj) hbl (by simpa using hok) (by simp; omega)
   simp only [List.nil_append, List.length_nil, Nat.zero_add] at hr p1
   have hL : L.length = xs.length := p1.length_eq
   obtain ⟨ys, p2, s2, hy⟩ := ih (L.length - bs * 2) (by omega) L (bs * 2) k rfl (by omega) (by omega) (by omega) (by rwa [Nat.mul_comm]) (fun y hy => hok y (p1.mem_iff.1 hy)) (by omega)
   rw [hL] at hy
   refine ⟨ys, p2.trans p1, s2, ?_⟩
   rw [← hy]
   exact hr
  ·have hlt : decide ((bs : Int) < (xs.length : Int)) = false := decide_eq_false (by omega)
   refine ⟨xs, .refl _, sV hbl (by omega), ?_⟩
   simp only [cY, hlt, cond_false, kV]
theorem aFj (hc : pF cmp ok le) (xs : List aG) (hok : ∀ y ∈ xs, ok y) (hb : xs.length < 288230376151711744) : ∃ ys, ys.Perm xs ∧ ys.Pairwise le ∧ eW xs cmp = some ys := by
 have main : ∀ (d : Nat) (P R : List aG) (k c : Nat), R.length = d → d < k → P.length = c * 20 → Blk le 20 P → (∀ y ∈ P ++ R, ok y) → (P ++ R).length < 288230376151711744 →
   ∃ ys, ys.Perm (P ++ R) ∧ ys.Pairwise le ∧ dT ((P ++ R).length : Nat) cmp 20 k (P.length : Nat) ((P.length + 20 : Nat) : Int) (P ++ R) = some ys := by
  intro d
  induction d using Nat.strongRecOn with
  | _ d ih =>
   intro P R k c hd hk hP hPb hok hb
   obtain ⟨k, rfl⟩ : ∃ q, k = q + 1 := ⟨k - 1, by omega⟩
   simp only [List.length_append] at hb
   by_cases hfull : 20 ≤ R.length
   ·obtain ⟨M, S, rfl, hM⟩ : ∃ M S, R = M ++ S ∧ M.length = 20 := ⟨R.take 20, R.drop 20, by simp, by simp; omega⟩
    simp only [List.length_append] at hb hd hfull
    have hlt : decide (((P.length + 20 : Nat) : Int) ≤ ((P ++ (M ++ S)).length : Int)) = true := decide_eq_true (by simp only [List.length_append]; omega)
    obtain ⟨M', p1, s1, hr⟩ := aAx hc P M S (fun y hy => hok y (by simp [hy])) (by simp only [List.length_append]; omega)
    have hM' : M'.length = 20 := by rw [p1.length_eq, hM]
    obtain ⟨ys, p2, s2, hy⟩ := ih S.length (by omega) (P ++ M') S k (c + 1) rfl (by omega) (by rw [List.length_append, hP, hM', Nat.add_mul]) (uN (c := c) (by omega) hP hPb s1 (by omega)) (fun y hy => by
     simp only [List.mem_append] at hy
     rcases hy with (h | h) | h
     ·exact hok y (by simp [h])
     ·exact hok y (by simp [p1.mem_iff.1 h])
     ·exact hok y (by simp [h])) (by simp only [List.length_append]; omega)
    refine ⟨ys, p2.trans ?_, s2, ?_⟩
    ·have : (P ++ M' ++ S).Perm (P ++ M ++ S) := List.Perm.append_right _ (List.Perm.append_left _ p1)
     simpa using this
    ·have ex : (P ++ M).length = P.length + 20 := by rw [List.length_append, hM]
     rw [ex, List.append_assoc P M S] at hr
     simp only [dT, hlt, cond_true]
     rw [hr, Option.bind_some]
     have eb : w64 (((P.length + 20 : Nat) : Int) + 20) = (((P ++ M').length + 20 : Nat) : Int) := by rw [cF (by omega) (by omega), List.length_append, hM']; omega
     have ea : ((P.length + 20 : Nat) : Int) = (((P ++ M').length : Nat) : Int) := by rw [List.length_append, hM']
     have el : (P ++ M' ++ S).length = (P ++ (M ++ S)).length := by simp only [List.length_append, hM']; omega
     rw [eb, ea, ← el]
     exact hy
   ·have hlt : decide (((P.length + 20 : Nat) : Int) ≤ ((P ++ R).length : Int)) = false := decide_eq_false (by simp only [List.length_append]; omega)
    obtain ⟨M', p1, s1, hr⟩ := aAx hc P R [] (fun y hy => hok y (by simp [hy])) (by simp only [List.length_append]; omega)
    have hM' : M'.length = R.length := p1.length_eq
    simp only [List.append_nil] at hr
    have hl : (P ++ M').length = (P ++ R).length := by rw [List.length_append, List.length_append, hM']
    obtain ⟨ys, p2, s2, hy⟩ := aVw hc _ (P ++ M') 20 BIG rfl (cR (by simp only [List.length_append]; omega)) (by omega) (by omega) (uN (c := c) (by omega) hP hPb s1 (by omega)) (fun y hy => by
     rcases List.mem_append.1 hy with h | h
     ·exact hok y (by simp [h])
     ·exact hok y (by simp [p1.mem_iff.1 h])) (by simp only [List.length_append]; omega)
    refine ⟨ys, p2.trans (List.Perm.append_left _ p1), s2, ?_⟩
    simp only [dT, hlt, cond_false, kU]
    rw [hr, Option.bind_some, ← hl]
    exact hy
 obtain ⟨ys, p, s, h⟩ := main xs.length [] xs BIG 0 rfl (cR (by omega)) (by simp) (fun i j _ hj => by simp at hj) (by simpa using hok) (by simpa using hb)
 refine ⟨ys, by simpa using p, s, ?_⟩
 unfold eW jK
 simp only [List.nil_append, List.length_nil, Nat.zero_add] at h
 have e0 : ((0 : Nat) : Int) = 0 := rfl
 have e20 : ((20 : Nat) : Int) = 20 := rfl
 rw [e0, e20] at h
 rw [h]; rfl
end stable
end Go.Am.Rk
end
section
namespace Go.Am.Rk
section line
variable {cmp : aW → aW → Option Int} {ok : aW → Prop} {le : aW → aW → Prop}
theorem aMy (hc : pF cmp ok le) (again : Int → List aW → Option (List aW)) {a b i : Int} {P : List aW} (ha : a = P.length) (x : aW) (hx : ok x) :
  ∀ (n : Nat) (L R : List aW) (k : Nat), L.length = n → (∀ y ∈ L, ok y) → n < k → (P ++ L).length < 4611686018427387904 →
   ∃ L1 L2, L = L1 ++ L2 ∧ (∀ y ∈ L2, ¬ le y x) ∧ (∀ y, L1.getLast? = some y → le y x) ∧
    cQ again a b cmp i k ((P ++ L).length : Nat) (P ++ L ++ x :: R) = again (w64 (i + 1)) (P ++ (L1 ++ x :: L2) ++ R) := by
 intro n
 induction n with
 | zero =>
  intro L R k hl hok hk hb
  have : L = [] := List.length_eq_zero_iff.1 hl
  subst this
  obtain ⟨k, rfl⟩ : ∃ q, k = q + 1 := ⟨k - 1, by omega⟩
  refine ⟨[], [], rfl, by simp, by simp, ?_⟩
  simp only [cQ, ha, List.append_nil, Int.lt_irrefl, decide_false, cond_false, Option.bind_some, gB, gA, List.nil_append]
  simp
 | succ n ih =>
  intro L R k hl hok hk hb
  obtain ⟨k, rfl⟩ : ∃ q, k = q + 1 := ⟨k - 1, by omega⟩
  rcases xX L with rfl | ⟨L', y, rfl⟩
  ·simp at hl
  simp only [List.length_append, List.length_singleton] at hl hb
  have hoy : ok y := hok y (by simp)
  have hA : P ++ (L' ++ [y]) ++ x :: R = (P ++ L') ++ y :: x :: R := by simp
  have hj : ((P ++ (L' ++ [y])).length : Nat) = (P ++ L').length + 1 := by simp [Nat.add_assoc]
  have hAl : (P ++ L').length = P.length + L'.length := by simp
  have hlt : decide (a < (((P ++ L').length + 1 : Nat) : Int)) = true := decide_eq_true (by omega)
  have hw : w64 ((((P ++ L').length + 1 : Nat) : Int) - 1) = ((P ++ L').length : Int) := by rw [cF (by omega) (by omega)]; omega
  obtain ⟨r, hr, hlr⟩ := hc.run x y hx hoy
  rw [hA, hj]
  by_cases h : r < 0
  ·obtain ⟨L1, L2, rfl, h2, h1, he⟩ := ih L' (y :: R) k (by omega) (fun z hz => hok z (by simp [hz])) (by omega) (by omega)
   refine ⟨L1, L2 ++ [y], by simp, fun z hz => ?_, h1, ?_⟩
   ·rcases List.mem_append.1 hz with hz | hz
    ·exact h2 z hz
    ·simp at hz; subst hz; exact hlr.1 h
   ·simp only [cQ, hlt, cond_true, pB rfl, hw, jM rfl, Option.bind_some, hr, decide_eq_true h]
    have hn : (((P ++ (L1 ++ L2)).length + 1 : Nat) : Int).toNat = (P ++ (L1 ++ L2)).length + 1 := rfl
    have hn2 : (((P ++ (L1 ++ L2)).length : Nat) : Int).toNat = (P ++ (L1 ++ L2)).length := rfl
    rw [hn, hn2, aCl rfl, jM rfl, Option.bind_some, tA rfl, he]
    simp
  ·refine ⟨L' ++ [y], [], by simp, by simp, fun z hz => ?_, ?_⟩
   ·simp at hz; subst hz; exact Classical.byContradiction fun hn => h (hlr.2 hn)
   ·simp only [cQ, hlt, cond_true, pB rfl, hw, jM rfl, Option.bind_some, hr, decide_eq_false h, cond_false, gB, gA]
    simp
theorem aFz (hc : pF cmp ok le) (P M S : List aW) (hok : ∀ y ∈ M, ok y) (hb : (P ++ M).length < 4611686018427387904) :
  ∃ M', M'.Perm M ∧ M'.Pairwise le ∧ dL (P ++ M ++ S) (P.length : Nat) ((P ++ M).length : Nat) cmp = some (P ++ M' ++ S) := by
 have main : ∀ (n : Nat) (L R : List aW) (k : Nat), R.length = n → n < k → (∀ y ∈ L ++ R, ok y) → (P ++ L ++ R).length < 4611686018427387904 → L.Pairwise le →
   ∃ M', M'.Perm (L ++ R) ∧ M'.Pairwise le ∧ cD (P.length : Nat) ((P ++ L ++ R).length : Nat) cmp k ((P ++ L).length : Nat) (P ++ L ++ R ++ S) = some (P ++ M' ++ S) := by
  intro n
  induction n with
  | zero =>
   intro L R k hl hk hok hb hs
   have : R = [] := List.length_eq_zero_iff.1 hl
   subst this
   obtain ⟨k, rfl⟩ : ∃ q, k = q + 1 := ⟨k - 1, by omega⟩
   refine ⟨L, by simp, hs, ?_⟩
   simp [cD, fZ]
  | succ n ih =>
   intro L R k hl hk hok hb hs
   obtain ⟨k, rfl⟩ : ∃ q, k = q + 1 := ⟨k - 1, by omega⟩
   match R, hl with
   | x :: R, hl =>
    simp only [List.length_cons] at hl
    have hbl : (P ++ L ++ x :: R).length = P.length + L.length + (R.length + 1) := by simp [Nat.add_assoc]
    have hox : ok x := hok x (by simp)
    obtain ⟨L1, L2, rfl, h2, h1, he⟩ := aMy hc (cD (P.length : Nat) ((P ++ L ++ x :: R).length : Nat) cmp k) (b := ((P ++ L ++ x :: R).length : Nat)) (i := ((P ++ L).length : Nat)) (a := (P.length : Nat)) rfl x hox L.length L (R ++ S) BIG rfl
     (fun y hy => hok y (by simp [hy])) (cR (by omega)) (by simp only [List.length_append]; omega)
    have hlt : decide (((P ++ (L1 ++ L2)).length : Int) < ((P ++ (L1 ++ L2) ++ x :: R).length : Int)) = true := decide_eq_true (by simp only [List.length_append, List.length_cons]; omega)
    obtain ⟨M', hp, hss, hr⟩ := ih (L1 ++ x :: L2) R k (by omega) (by omega) (fun y hy => hok y (by
      simp only [List.mem_append, List.mem_cons] at hy ⊢
      rcases hy with (h | h | h) | h <;> simp [h])) (by simp only [List.length_append, List.length_cons] at hb ⊢; omega)
      (aHz hc hox hs (fun y hy => hok y (by simp only [List.mem_append] at hy ⊢; exact .inl hy)) h2 h1)
    refine ⟨M', hp.trans ?_, hss, ?_⟩
    ·have : ((L1 ++ x :: L2) ++ R).Perm (L1 ++ L2 ++ x :: R) := by
      rw [List.append_assoc, List.append_assoc, List.cons_append]
      exact List.Perm.append_left _ (List.perm_middle.symm)
     exact this
    ·simp only [cD, hlt, cond_true]
     have e1 : P ++ (L1 ++ L2) ++ x :: R ++ S = P ++ (L1 ++ L2) ++ x :: (R ++ S) := by simp
     rw [e1, he, cA (by simp only [List.length_append, List.length_cons] at hb ⊢; omega)]
     have e2 : ((P ++ (L1 ++ L2) ++ x :: R).length : Nat) = (P ++ (L1 ++ x :: L2) ++ R).length := by simp only [List.length_append, List.length_cons]; omega
     have e3 : ((P ++ (L1 ++ L2)).length + 1 : Nat) = (P ++ (L1 ++ x :: L2)).length := by simp only [List.length_append, List.length_cons]; omega
     rw [e2, e3]
     have e4 : P ++ (L1 ++ x :: L2) ++ (R ++ S) = P ++ (L1 ++ x :: L2) ++ R ++ S := by simp
     rw [e4]
     exact hr
 match M, hok, hb with
 | [], hok, hb =>
  refine ⟨[], .refl _, .nil, ?_⟩
  have hlt : decide (((P.length + 1 : Nat) : Int) < (P.length : Int)) = false := decide_eq_false (by omega)
  unfold dL
  simp only [List.append_nil] at hb ⊢
  rw [aFl, cA (by omega)]
  generalize 18446744073709551615 = kk
  simp only [cD, hlt, cond_false, fZ]
 | x :: M, hok, hb =>
  simp only [List.length_append, List.length_cons] at hb
  obtain ⟨M', h1, h2, h3⟩ := main M.length [x] M BIG rfl (cR (by omega)) (fun y hy => hok y (by simpa using hy)) (by simp only [List.length_append, List.length_cons, List.length_nil]; omega) (List.pairwise_singleton _ _)
  refine ⟨M', by simpa using h1, h2, ?_⟩
  unfold dL
  rw [cA (by omega)]
  have e1 : (P ++ [x]).length = P.length + 1 := by simp
  have e2 : P ++ [x] ++ M = P ++ x :: M := by simp
  rw [e1, e2] at h3
  exact h3
theorem aKi (hc : pF cmp ok le) (xs : List aW) (hok : ∀ y ∈ xs, ok y) (hb : xs.length ≤ 12) : ∃ ys, ys.Perm xs ∧ ys.Pairwise le ∧ jX xs cmp = some ys := by
 obtain ⟨M', h1, h2, h3⟩ := aFz hc [] xs [] hok (by simp; omega)
 simp only [List.nil_append, List.append_nil, List.length_nil] at h3
 refine ⟨M', h1, h2, ?_⟩
 have e1 : IntKind.u64.wrap (xs.length : Int) = (xs.length : Int) := by
  simp only [IntKind.wrap, IntKind.signed, IntKind.bits]
  simp
  omega
 have e2 : tW (xs.length : Int) = some ((Lib.bitLen (xs.length : Int).toNat : Nat) : Int) := by
  unfold tW aEj
  rw [if_pos ⟨by omega, by omega⟩]
 have e3 : w64 ((xs.length : Int) - 0) = (xs.length : Int) := by rw [cF (by omega) (by omega)]; omega
 have hd : decide ((xs.length : Int) ≤ 12) = true := decide_eq_true (by omega)
 have h3' : dL xs 0 (xs.length : Int) cmp = some M' := h3
 unfold jX jJ
 rw [e1, e2, Option.bind_some, aFl]
 generalize 18446744073709551615 = kk
 simp only [iP, e3, hd, cond_true, h3', Option.bind_some]
end line
def jS (p : aG) : List aG → List aG
 | [] => []
 | y :: t => if y = p then jS p t else y :: jS y t
def fA : List aG → List aG
 | [] => []
 | x :: t => x :: jS x t
theorem aBm (again : Int → List aG → Option (List aG)) {k0 : Nat} : ∀ (t : List aG) (p : aG) (W X : List aG) (k2 k : Nat), 1 ≤ k2 → W.length + X.length + 1 = k0 + k2 → k0 ≤ W.length → (W ++ X ++ p :: t).length < 4611686018427387904 → t.length < k →
  eG again (k0 : Nat) k (W.length : Nat) (k2 : Nat) (W ++ X ++ p :: t) = some (W ++ jS p t) := by
 intro t
 induction t with
 | nil =>
  intro p W X k2 k h1 h2 h3 hb hk
  obtain ⟨k, rfl⟩ : ∃ q, k = q + 1 := ⟨k - 1, by omega⟩
  simp only [List.length_append, List.length_cons, List.length_nil] at hb
  have t0 : ((k0 : Nat) : Int).toNat = k0 := rfl
  have t1 : ((W.length : Nat) : Int).toNat = W.length := rfl
  have hlt : decide ((k2 : Int) < (((W ++ X ++ [p]).drop k0).length : Int)) = false := decide_eq_false (by simp; omega)
  have c1 : (decide ((0 : Int) ≤ (W.length : Int)) && decide ((W.length : Int) ≤ ((W ++ X ++ [p]).length : Int))) = true := by simp; omega
  have c2 : decide (W.length ≤ (W ++ X ++ [p]).length) = true := by simp
  have c3 : decide ((0 : Int) ≤ (W.length : Int)) = true := by simp
  simp only [eG, t0, hlt, cond_false, nH]
  rw [c1, t1, c2, c3]
  simp [chk, jS]
 | cons y t ih =>
  intro p W X k2 k h1 h2 h3 hb hk
  obtain ⟨k, rfl⟩ : ∃ q, k = q + 1 := ⟨k - 1, by omega⟩
  simp only [List.length_append, List.length_cons] at hb hk
  have t0 : ((k0 : Nat) : Int).toNat = k0 := rfl
  have t1 : ((W.length : Nat) : Int).toNat = W.length := rfl
  have hlt : decide ((k2 : Int) < (((W ++ X ++ p :: y :: t).drop k0).length : Int)) = true := decide_eq_true (by simp; omega)
  have ed : (W ++ X ++ p :: y :: t).drop k0 = (W ++ X).drop k0 ++ p :: y :: t := by rw [List.drop_append_of_le_length (by simp; omega)]
  have hdl : ((W ++ X).drop k0).length = k2 - 1 := by simp; omega
  have i1 : idx ((W ++ X ++ p :: y :: t).drop k0) (k2 : Nat) = some y := by rw [ed]; exact pB (by rw [hdl]; omega)
  have i2 : idx ((W ++ X ++ p :: y :: t).drop k0) (w64 ((k2 : Int) - 1)) = some p := by rw [aGm (by omega) (by omega), ed]; exact jM (by rw [hdl])
  simp only [eG, t0, hlt, cond_true, i1, i2, Option.bind_some, cA (show k2 < 9223372036854775807 by omega)]
  by_cases hyp : y = p
  ·subst hyp
   have := ih y W (X ++ [y]) (k2 + 1) k (by omega) (by simp; omega) h3 (by simp only [List.length_append, List.length_cons, List.length_nil]; omega) (by omega)
   have e1 : W ++ (X ++ [y]) ++ y :: t = W ++ X ++ y :: y :: t := by simp
   rw [e1] at this
   rw [decide_eq_true rfl, Bool.not_true, cond_false, this]
   simp [jS]
  ·have hd : (!decide (y = p)) = true := by rw [decide_eq_false hyp]; rfl
   have i3 : ∃ z, idx (W ++ X ++ p :: y :: t) (W.length : Nat) = some z := ⟨_, cT (by simp; omega)⟩
   obtain ⟨z, i3⟩ := i3
   rw [hd, cond_true, i3, Option.bind_some, t1, cA (by omega)]
   obtain ⟨X', e2⟩ : ∃ X', (W ++ X ++ p :: y :: t).set W.length y = (W ++ [y]) ++ X' ++ y :: t ∧ X'.length = X.length := by
    cases X with
    | nil => exact ⟨[], by simp, rfl⟩
    | cons x X => exact ⟨X ++ [p], by simp, by simp⟩
   rw [e2.1]
   have := ih y (W ++ [y]) X' (k2 + 1) k (by omega) (by rw [List.length_append, e2.2]; simp; omega) (by simp; omega) (by simp only [List.length_append, List.length_cons, List.length_nil, e2.2]; omega) (by omega)
   have e3 : (W ++ [y]).length = W.length + 1 := by simp
   rw [e3] at this
   rw [this]
   simp [jS, hyp]
theorem yM (s : List aG) (hb : s.length < 4611686018427387904) : jW s = some (fA s) := by
 have main : ∀ (t A : List aG) (p : aG) (k : Nat), t.length < k → (A ++ p :: t).length < 4611686018427387904 → dI k ((A.length + 1 : Nat) : Int) (A ++ p :: t) = some (A ++ p :: jS p t) := by
  intro t
  induction t with
  | nil =>
   intro A p k hk hb
   obtain ⟨k, rfl⟩ : ∃ q, k = q + 1 := ⟨k - 1, by omega⟩
   have hlt : decide (((A.length + 1 : Nat) : Int) < ((A ++ [p]).length : Int)) = false := decide_eq_false (by simp)
   simp only [dI, hlt, cond_false, nF, jS]
  | cons y t ih =>
   intro A p k hk hb
   obtain ⟨k, rfl⟩ : ∃ q, k = q + 1 := ⟨k - 1, by omega⟩
   simp only [List.length_append, List.length_cons] at hb hk
   have hlt : decide (((A.length + 1 : Nat) : Int) < ((A ++ p :: y :: t).length : Int)) = true := decide_eq_true (by simp; omega)
   have i2 : w64 (((A.length + 1 : Nat) : Int) - 1) = (A.length : Int) := by rw [cF (by omega) (by omega)]; omega
   simp only [dI, hlt, cond_true, pB rfl, i2, jM rfl, Option.bind_some]
   by_cases hyp : y = p
   ·subst hyp
    have c1 : (decide ((0 : Int) ≤ ((A.length + 1 : Nat) : Int)) && decide (((A.length + 1 : Nat) : Int) ≤ ((A ++ y :: y :: t).length : Int))) = true := by simp; omega
    rw [decide_eq_true rfl, cond_true, c1]
    simp only [chk, cond_true, Option.bind_some]
    have := aBm (dI k) (k0 := A.length + 1) t y (A ++ [y]) [] 1 BIG (Nat.le_refl _) (by simp) (by simp) (by simp only [List.length_append, List.length_cons, List.length_nil]; omega) (cR (by omega))
    have e3 : (A ++ [y]).length = A.length + 1 := by simp
    have e4 : A ++ [y] ++ [] ++ y :: t = A ++ y :: y :: t := by simp
    rw [e3, e4] at this
    have e5 : ((1 : Nat) : Int) = 1 := rfl
    rw [e5] at this
    rw [this]
    simp [jS]
   ·rw [decide_eq_false hyp, cond_false]
    unfold nG
    rw [cA (by omega)]
    have := ih (A ++ [p]) y k (by omega) (by simp only [List.length_append, List.length_cons, List.length_nil]; omega)
    have e3 : (A ++ [p]).length = A.length + 1 := by simp
    have e4 : A ++ [p] ++ y :: t = A ++ p :: y :: t := by simp
    rw [e3, e4] at this
    rw [this]
    simp [jS, hyp]
 unfold jW
 match s, hb with
 | [], _ => simp [fA]
 | x :: t, hb =>
  by_cases ht : t = []
  ·subst ht; simp [fA, jS]
  ·have hl : 0 < t.length := List.length_pos_iff.2 ht
   have hd : decide (((x :: t).length : Int) < 2) = false := decide_eq_false (by simp; omega)
   rw [hd, cond_false]
   have := main t [] x BIG (cR (by simp at hb; omega)) (by simpa using hb)
   simp only [List.length_nil, List.nil_append, Nat.zero_add] at this
   have e5 : ((1 : Nat) : Int) = 1 := rfl
   rw [e5] at this
   rw [this]; rfl
theorem aGa (p x : aG) (t : List aG) : (x = p ∨ x ∈ jS p t) ↔ (x = p ∨ x ∈ t) := by
 induction t generalizing p with
 | nil => rfl
 | cons y t ih =>
  simp only [jS, List.mem_cons]
  by_cases h : y = p
  ·subst h
   rw [if_pos rfl]
   have := ih y
   constructor
   ·rintro (h | h)
    ·exact .inl h
    ·rcases this.1 (.inr h) with h | h
     ·exact .inl h
     ·exact .inr (.inr h)
   ·rintro (h | h | h)
    ·exact .inl h
    ·exact .inl h
    ·exact this.2 (.inr h)
  ·rw [if_neg h, List.mem_cons]
   have := ih y
   constructor
   ·rintro (h | h)
    ·exact .inl h
    ·exact .inr (this.1 h)
   ·rintro (h | h)
    ·exact .inl h
    ·exact .inr (this.2 h)
theorem aAa (x : aG) (s : List aG) : x ∈ fA s ↔ x ∈ s := by
 cases s with
 | nil => rfl
 | cons p t => simp only [fA, List.mem_cons]; exact aGa p x t
theorem aBz (p : aG) (t : List aG) : (jS p t).Sublist t := by
 induction t generalizing p with
 | nil => exact .slnil
 | cons y t ih =>
  simp only [jS]
  split
  ·exact (ih p).cons _
  ·exact (ih y).cons_cons _
theorem wM (p : aG) (t : List aG) (hs : (p :: t).Pairwise fun x y => x.Id ≤ y.Id) (hcl : ∀ x ∈ p :: t, ∀ y ∈ p :: t, x.Id = y.Id → x = y) : (p :: jS p t).Pairwise fun x y => x.Id < y.Id := by
 induction t generalizing p with
 | nil => exact List.pairwise_singleton _ _
 | cons y t ih =>
  have h1 := List.pairwise_cons.1 hs
  have h2 := List.pairwise_cons.1 h1.2
  simp only [jS]
  by_cases h : y = p
  ·subst h
   rw [if_pos rfl]
   exact ih y h1.2 (fun a ha b hb => hcl a (List.mem_cons_of_mem _ ha) b (List.mem_cons_of_mem _ hb))
  ·rw [if_neg h]
   have h3 := ih y h1.2 (fun a ha b hb => hcl a (List.mem_cons_of_mem _ ha) b (List.mem_cons_of_mem _ hb))
   refine List.pairwise_cons.2 ⟨fun z hz => ?_, h3⟩
   have hpy : p.Id < y.Id := by
    have := h1.1 y (by simp)
    rcases Int.lt_or_eq_of_le this with h4 | h4
    ·exact h4
    ·exact absurd (hcl p (by simp) y (by simp) h4).symm h
   rcases List.mem_cons.1 hz with rfl | hz
   ·exact hpy
   ·exact Int.lt_trans hpy ((List.pairwise_cons.1 h3).1 z hz)
theorem oE {α : Type} {key : α → Int} : ∀ {xs ys : List α}, xs.Pairwise (fun x y => key x < key y) → ys.Pairwise (fun x y => key x < key y) → (∀ x, x ∈ xs ↔ x ∈ ys) → xs = ys
 | [], [], _, _, _ => rfl
 | [], y :: ys, _, _, h => by have := (h y).2 (by simp); simp at this
 | x :: xs, [], _, _, h => by have := (h x).1 (by simp); simp at this
 | x :: xs, y :: ys, h1, h2, h => by
  have a1 := List.pairwise_cons.1 h1
  have a2 := List.pairwise_cons.1 h2
  have hxy : x = y := by
   rcases List.mem_cons.1 ((h x).1 (by simp)) with e | e
   ·exact e
   ·rcases List.mem_cons.1 ((h y).2 (by simp)) with e2 | e2
    ·exact e2.symm
    ·have := a2.1 x e; have := a1.1 y e2; omega
  subst hxy
  have := oE a1.2 a2.2 fun z => by
   have hz := h z
   simp only [List.mem_cons] at hz
   constructor
   ·intro hm
    rcases hz.1 (.inr hm) with e | e
    ·have := a1.1 z hm; rw [e] at this; omega
    ·exact e
   ·intro hm
    rcases hz.2 (.inr hm) with e | e
    ·have := a2.1 z hm; rw [e] at this; omega
    ·exact e
  rw [this]
theorem aVl : pF (fun x y => rS x y) (fun x => 0 ≤ x.Id ∧ x.Id ≤ 99) (fun x y => x.Id ≤ y.Id) where
 run x y hx hy := ⟨x.Id - y.Id, by unfold rS; rw [cF (by omega) (by omega)], by omega⟩
 tot x y _ _ := by omega
 tr x y z _ _ _ h1 h2 := by omega
def vN (xs : List aG) : Prop := ∃ x ∈ xs, ∃ y ∈ xs, x.Id = y.Id ∧ x ≠ y
theorem aQt (zs : List aG) (hb : zs.length < 4611686018427387904) : ∀ (d i k : Nat), zs.length - i = d → d < k → 1 ≤ i → (∃ j, i ≤ j ∧ ∃ (h : j < zs.length), (zs[j]).Id = (zs[j - 1]'(by omega)).Id) ∧ jI zs k (i : Nat) = some ([], false) ∨
  (∀ j, i ≤ j → ∀ (h : j < zs.length), (zs[j]).Id ≠ (zs[j - 1]'(by omega)).Id) ∧ jI zs k (i : Nat) = some (zs, true) := by
 intro d
 induction d with
 | zero =>
  intro i k hd hk hi
  obtain ⟨k, rfl⟩ : ∃ q, k = q + 1 := ⟨k - 1, by omega⟩
  have hlt : decide ((i : Int) < (zs.length : Int)) = false := decide_eq_false (by omega)
  exact .inr ⟨fun j h1 h => by omega, by simp only [jI, hlt, cond_false, zD]⟩
 | succ d ih =>
  intro i k hd hk hi
  obtain ⟨k, rfl⟩ : ∃ q, k = q + 1 := ⟨k - 1, by omega⟩
  have hlt : decide ((i : Int) < (zs.length : Int)) = true := decide_eq_true (by omega)
  have hil : i < zs.length := by omega
  have i1 := cT (xs := zs) hil
  have i2 : idx zs (w64 ((i : Int) - 1)) = some (zs[i - 1]'(by omega)) := by rw [aGm (by omega) (by omega)]; exact cT (by omega)
  by_cases h : (zs[i]).Id = (zs[i - 1]'(by omega)).Id
  ·refine .inl ⟨⟨i, Nat.le_refl _, hil, h⟩, ?_⟩
   simp only [jI, hlt, cond_true, i1, i2, Option.bind_some, decide_eq_true h]
  ·have e : jI zs (k + 1) (i : Nat) = jI zs k ((i + 1 : Nat) : Int) := by
    simp only [jI, hlt, cond_true, i1, i2, Option.bind_some, decide_eq_false h, cond_false, cA (show i < 9223372036854775807 by omega)]
   rw [e]
   rcases ih (i + 1) k (by omega) (by omega) (by omega) with ⟨⟨j, h1, h2, h3⟩, h4⟩ | ⟨h1, h2⟩
   ·exact .inl ⟨⟨j, by omega, h2, h3⟩, h4⟩
   ·refine .inr ⟨fun j hj hjl => ?_, h2⟩
    rcases Nat.eq_or_lt_of_le hj with rfl | hj
    ·exact h
    ·exact h1 j hj hjl
theorem aJs (xs : List aG) (hid : ∀ x ∈ xs, 0 ≤ x.Id ∧ x.Id ≤ 99) (hb : xs.length ≤ 1000000) :
  (vN xs ∧ pX xs = some ([], false)) ∨ (¬ vN xs ∧ ∃ zs, pX xs = some (zs, true) ∧ zs.Pairwise (fun x y => x.Id < y.Id) ∧ (∀ x, x ∈ zs ↔ x ∈ xs) ∧ zs.length ≤ xs.length) := by
 obtain ⟨ys, hp, hs, hr⟩ := aFj aVl xs hid (by omega)
 have hyl : ys.length = xs.length := hp.length_eq
 have hcl : fQ xs = some xs := by
  unfold fQ
  rw [nI (by simp; omega)]; rfl
 have hmem : ∀ x, x ∈ fA ys ↔ x ∈ xs := fun x => (aAa x ys).trans hp.mem_iff
 have hlen : (fA ys).length ≤ ys.length := by
  cases ys with
  | nil => exact Nat.le_refl _
  | cons p t => simp only [fA, List.length_cons]; have := (aBz p t).length_le; omega
 have hws : (fA ys).Pairwise fun x y => x.Id ≤ y.Id := by
  cases ys with
  | nil => exact .nil
  | cons p t =>
   refine List.Pairwise.sublist ?_ hs
   exact (aBz p t).cons_cons _
 have e : pX xs = jI (fA ys) BIG 1 := by
  unfold pX
  rw [hcl, Option.bind_some, hr, Option.bind_some, yM ys (by omega), Option.bind_some]
 rw [e]
 have e1 : ((1 : Nat) : Int) = 1 := rfl
 rcases aQt (fA ys) (by omega) _ 1 BIG rfl (cR (by omega)) (Nat.le_refl _) with ⟨⟨j, h1, h2, h3⟩, h4⟩ | ⟨h1, h2⟩
 ·left
  refine ⟨Classical.byContradiction fun hn => ?_, by rw [← e1]; exact h4⟩
  have hcl2 : ∀ x ∈ ys, ∀ y ∈ ys, x.Id = y.Id → x = y := fun x hx y hy hxy => Classical.byContradiction fun hne => hn ⟨x, hp.mem_iff.1 hx, y, hp.mem_iff.1 hy, hxy, hne⟩
  cases ys with
  | nil => simp [fA] at h2
  | cons p t =>
   have hst := wM p t hs hcl2
   have := List.pairwise_iff_getElem.1 hst (j - 1) j (by simp only [fA] at h2; omega) (by simpa only [fA] using h2) (by omega)
   simp only [fA] at h3
   omega
 ·by_cases hn : vN xs
  ·exfalso
   obtain ⟨x, hx, y, hy, hxy, hne⟩ := hn
   have hst : (fA ys).Pairwise fun x y => x.Id < y.Id := by
    refine List.pairwise_iff_getElem.2 fun i j hi hj hij => ?_
    have a1 := List.pairwise_iff_getElem.1 hws
    have a2 := h1 j (by omega) hj
    have a3 := a1 (j - 1) j (by omega) hj (by omega)
    rcases Nat.eq_or_lt_of_le (show i ≤ j - 1 by omega) with rfl | h
    ·omega
    ·have := a1 i (j - 1) hi (by omega) h; omega
   obtain ⟨i, hi, rfl⟩ := List.getElem_of_mem ((hmem x).2 hx)
   obtain ⟨j, hj, rfl⟩ := List.getElem_of_mem ((hmem y).2 hy)
   have a1 := List.pairwise_iff_getElem.1 hst
   rcases Nat.lt_trichotomy i j with h | h | h
   ·have := a1 i j hi hj h; omega
   ·subst h; exact hne rfl
   ·have := a1 j i hj hi h; omega
  ·right
   refine ⟨hn, fA ys, by rw [← e1]; exact h2, ?_, hmem, by omega⟩
   have hcl2 : ∀ x ∈ ys, ∀ y ∈ ys, x.Id = y.Id → x = y := fun x hx y hy hxy => Classical.byContradiction fun hne => hn ⟨x, hp.mem_iff.1 hx, y, hp.mem_iff.1 hy, hxy, hne⟩
   cases ys with
   | nil => exact .nil
   | cons p t => exact wM p t hs hcl2
end Go.Am.Rk
end
section
namespace Go.Am.Rk
def findI {α : Type} (p : α → Bool) (l : List α) : Int := if l.findIdx p < l.length then (l.findIdx p : Int) else -1
theorem aJh {α : Type} (p : α → Bool) (l : List α) : decide (0 ≤ findI p l) = l.any p := by
 unfold findI
 split
 ·rename_i h
  have : l.any p = true := List.any_eq_true.2 ⟨_, List.getElem_mem h, List.findIdx_getElem (w := h)⟩
  rw [this]; simp
 ·rename_i h
  have : l.any p = false := by
   rw [Bool.eq_false_iff]
   intro hn
   obtain ⟨x, hx, hp⟩ := List.any_eq_true.1 hn
   exact h (List.findIdx_lt_length_of_exists ⟨x, hx, hp⟩)
  rw [this]; simp
theorem wV {α : Type} (F : Nat → Int → Option Int) (l : List α) (p : α → Bool) (h1 : ∀ k i (hi : i < l.length), F (k + 1) (i : Nat) = bif p l[i] then some (i : Int) else F k ((i + 1 : Nat) : Int)) (h2 : ∀ k, F (k + 1) (l.length : Nat) = some (-1)) :
  ∀ k, l.length < k → F k 0 = some (findI p l) := by
 have main : ∀ d i k, l.length - i = d → d < k → i ≤ l.length → (∀ j (hj : j < l.length), j < i → p l[j] = false) → F k (i : Nat) = some (findI p l) := by
  intro d
  induction d with
  | zero =>
   intro i k hd hk hi hno
   obtain ⟨k, rfl⟩ : ∃ q, k = q + 1 := ⟨k - 1, by omega⟩
   have : i = l.length := by omega
   subst this
   have he : ¬ l.findIdx p < l.length := fun h => by
    have := hno _ h h
    rw [List.findIdx_getElem (w := h)] at this
    cases this
   rw [h2, findI, if_neg he]
  | succ d ih =>
   intro i k hd hk hi hno
   obtain ⟨k, rfl⟩ : ∃ q, k = q + 1 := ⟨k - 1, by omega⟩
   have hil : i < l.length := by omega
   rw [h1 k i hil]
   cases hp : p l[i] with
   | true =>
    have he : l.findIdx p = i := by
     rw [List.findIdx_eq hil]
     exact ⟨hp, fun j hj => hno j (by omega) hj⟩
    rw [cond_true, findI, he, if_pos hil]
   | false =>
    rw [cond_false]
    exact ih (i + 1) k (by omega) (by omega) (by omega) fun j hj hji => by
     rcases Nat.lt_or_eq_of_le (Nat.le_of_lt_succ hji) with h | h
     ·exact hno j hj h
     ·subst h; exact hp
 intro k hk
 exact main _ 0 k rfl (by omega) (Nat.zero_le _) fun j _ h => by omega
theorem yK (n a b : Int) : fN n a b = some (decide (a ≤ n) && decide (n ≤ b)) := by unfold fN; rw [jQ, Option.bind_some]
theorem vO (n a b : Int) : fU n a b = some (decide (a ≤ n) && decide (n ≤ b)) := by unfold fU; rw [jQ, Option.bind_some]
theorem aSe (l : List bB) (f : bB → Option Bool) (p : bB → Bool) (h : ∀ x ∈ l, f x = some (p x)) (hb : l.length ≤ 1000000) : iT l f = some (findI p l) := by
 unfold iT
 refine wV (fun k i => eI l f (l.length : Int) k i) l p (fun k i hi => ?_) (fun k => ?_) BIG (cR (by omega))
 ·have hlt : decide ((i : Int) < (l.length : Int)) = true := decide_eq_true (by omega)
  simp only [eI, hlt, cond_true, cT hi, Option.bind_some, h _ (List.getElem_mem hi), cA (show i < 9223372036854775807 by omega)]
 ·have hlt : decide ((l.length : Int) < (l.length : Int)) = false := decide_eq_false (by omega)
  simp only [eI, hlt, cond_false, lT]
theorem aAb (l : List bB) (f : bB → Option Bool) (p : bB → Bool) (h : ∀ x ∈ l, f x = some (p x)) (hb : l.length ≤ 1000000) : eH l f = some (l.any p) := by
 unfold eH
 rw [aSe l f p h hb, Option.bind_some, aJh]
def inB (n a b : Int) : Bool := decide (a ≤ n) && decide (n ≤ b)
def sB (P : Int) (r : aG) : Bool := inB r.Id 0 99 && inB r.Player 0 (P - 1) && inB r.Week 0 400 && inB r.Points 0 2000
def mQ (P : Int) (a : bB) : Bool := inB a.Player 0 (P - 1) && decide (0 ≤ a.From) && decide (a.From ≤ a.To) && decide (a.To ≤ 400)
def nM (a b : bB) : Bool := decide (a.Player = b.Player) && decide (a.From ≤ b.To) && decide (b.From ≤ a.To)
def qM (l : List bB) : Bool := (List.range l.length).all fun i => (List.range i).all fun k => !nM (l.getD i default) (l.getD k default)
def kY (l : aU) : Bool :=
 inB l.Players 1 16 && inB l.Counts 1 20 && decide (l.Reports.length ≤ 40) && (decide (l.Bans.length ≤ 8) && l.Bans.all (mQ l.Players)) && (decide (l.Frozen.length ≤ 8) && l.Frozen.all (mQ l.Players)) && l.Reports.all (sB l.Players) && qM l.Frozen
section leaves
variable {P : Int} (hP : 1 ≤ P ∧ P ≤ 16)
include hP
theorem wP : w64 (P - 1) = P - 1 := cF (by omega) (by omega)
theorem aOd (l : aU) (hl : l.Players = P) (all : List bB) (hb : all.length ≤ 1000000) : oR l all = some (decide (all.length ≤ 8) && all.all (mQ P)) := by
 have h1 : ∀ x ∈ all, pD x l = some (!mQ P x) := by
  intro x _
  unfold pD
  simp only [yK, Option.bind_some, hG, hl, wP hP, Option.some.injEq]
  unfold mQ inB
  by_cases a1 : 0 ≤ x.Player <;> by_cases a2 : x.Player ≤ P - 1 <;> by_cases a3 : 0 ≤ x.From <;> by_cases a4 : x.From ≤ x.To <;> by_cases a5 : x.To ≤ 400 <;> simp [a1, a2, a3, a4, a5] <;> omega
 unfold oR
 rw [aAb all _ _ h1 hb, Option.bind_some, jQ, Option.bind_some, Option.some.injEq]
 have e1 : decide ((all.length : Int) ≤ 8) = decide (all.length ≤ 8) := by rw [decide_eq_decide]; omega
 rw [e1, List.not_any_eq_all_not]
 simp
theorem aNq (all : List bB) (hb : all.length ≤ 1000000) : kK P all = some (decide (all.length ≤ 8) && all.all (mQ P)) := by
 unfold kK
 have main := oC (fun k i => gU P all k i) all.length (fun i => mQ P (all.getD i default)) (some false) (some (decide ((all.length : Int) ≤ 8))) ?_ ?_ BIG (cR (by omega))
 ·rw [main]
  have e1 : decide ((all.length : Int) ≤ 8) = decide (all.length ≤ 8) := by rw [decide_eq_decide]; omega
  have e2 : (List.range all.length).all (fun i => mQ P (all.getD i default)) = all.all (mQ P) := by
   rw [Bool.eq_iff_iff, List.all_eq_true, List.all_eq_true]
   constructor
   ·intro h x hx
    obtain ⟨i, hi, rfl⟩ := List.getElem_of_mem hx
    have := h i (List.mem_range.2 hi)
    simpa [List.getD, List.getElem?_eq_getElem hi] using this
   ·intro h i hi
    have hi' := List.mem_range.1 hi
    simpa [List.getD, List.getElem?_eq_getElem hi'] using h _ (List.getElem_mem hi')
  rw [e1, e2]
  cases all.all (mQ P) <;> simp
 ·intro k i hi
  have hlt : decide ((i : Int) < (all.length : Int)) = true := decide_eq_true (by omega)
  have eg : all.getD i default = all[i] := by simp [List.getD, List.getElem?_eq_getElem hi]
  simp only [gU, hlt, cond_true, cT hi, Option.bind_some, vO, wP hP, hG, cA (show i < 9223372036854775807 by omega), eg]
  have : mQ P all[i] = !(!(decide (0 ≤ all[i].Player) && decide (all[i].Player ≤ P - 1)) || decide (all[i].From < 0) || decide (all[i].To < all[i].From) || decide (400 < all[i].To)) := by
   unfold mQ inB
   by_cases a1 : 0 ≤ all[i].Player <;> by_cases a2 : all[i].Player ≤ P - 1 <;> by_cases a3 : 0 ≤ all[i].From <;> by_cases a4 : all[i].From ≤ all[i].To <;> by_cases a5 : all[i].To ≤ 400 <;> simp [a1, a2, a3, a4, a5] <;> omega
  rw [this]
  cases (!(decide (0 ≤ all[i].Player) && decide (all[i].Player ≤ P - 1)) || decide (all[i].From < 0) || decide (all[i].To < all[i].From) || decide (400 < all[i].To)) <;> rfl
 ·intro k
  have hlt : decide ((all.length : Int) < (all.length : Int)) = false := decide_eq_false (by omega)
  simp only [gU, hlt, cond_false, pH]
theorem aTs (r : aG) : mU P r = some (sB P r) := by
 unfold mU sB inB
 simp only [vO, Option.bind_some, jQ, wP hP]
end leaves
theorem sY {α : Type} [Inhabited α] (l : List α) (p : α → Bool) : (List.range l.length).all (fun i => p (l.getD i default)) = l.all p := by
 rw [Bool.eq_iff_iff, List.all_eq_true, List.all_eq_true]
 constructor
 ·intro h x hx
  obtain ⟨i, hi, rfl⟩ := List.getElem_of_mem hx
  have := h i (List.mem_range.2 hi)
  simpa [List.getD, List.getElem?_eq_getElem hi] using this
 ·intro h i hi
  have hi' := List.mem_range.1 hi
  simpa [List.getD, List.getElem?_eq_getElem hi'] using h _ (List.getElem_mem hi')
theorem aSt {α : Type} [Inhabited α] (l : List α) (p : α → Bool) {i : Nat} (hi : i ≤ l.length) : (!(l.take i).any p) = (List.range i).all fun k => !p (l.getD k default) := by
 rw [List.not_any_eq_all_not]
 have := sY (l.take i) (fun x => !p x)
 rw [← this]
 have e : (l.take i).length = i := by simp; omega
 rw [e]
 rw [Bool.eq_iff_iff, List.all_eq_true, List.all_eq_true]
 refine forall_congr' fun k => forall_congr' fun hk => ?_
 have hk' := List.mem_range.1 hk
 have : (l.take i).getD k default = l.getD k default := by simp [List.getD, List.getElem?_take, hk']
 rw [this]
theorem aVd (l : aU) (h3 : l.Frozen.length ≤ 1000000) : eC l BIG 0 = some (qM l.Frozen) := by
 have main := oC (fun k i => eC l k i) l.Frozen.length (fun i => (List.range i).all fun k => !nM (l.Frozen.getD i default) (l.Frozen.getD k default)) (some false) (some true) ?_ ?_ BIG (cR (by omega))
 ·rw [main]; unfold qM
  cases (List.range l.Frozen.length).all fun i => (List.range i).all fun k => !nM (l.Frozen.getD i default) (l.Frozen.getD k default) <;> rfl
 ·intro k i hi
  have hlt : decide ((i : Int) < (l.Frozen.length : Int)) = true := decide_eq_true (by omega)
  have ei : l.Frozen.getD i default = l.Frozen[i] := by simp [List.getD, List.getElem?_eq_getElem hi]
  simp only [eC, hlt, cond_true]
  refine oC (fun k4 q => iG (eC l k) i l k4 q) i (fun q => !nM (l.Frozen.getD i default) (l.Frozen.getD q default)) (some false) (eC l k ((i + 1 : Nat) : Int)) ?_ ?_ BIG (cR (by omega))
  ·intro k4 q hq
   have hql : q < l.Frozen.length := by omega
   have eq : l.Frozen.getD q default = l.Frozen[q] := by simp [List.getD, List.getElem?_eq_getElem hql]
   have hlt2 : decide ((q : Int) < (i : Int)) = true := decide_eq_true (by omega)
   simp only [iG, hlt2, cond_true, cT hi, cT hql, Option.bind_some, jQ, cA (show q < 9223372036854775807 by omega), ei, eq]
   show (bif nM l.Frozen[i] l.Frozen[q] then _ else _) = _
   cases nM l.Frozen[i] l.Frozen[q] <;> rfl
  ·intro k4
   have hlt2 : decide ((i : Int) < (i : Int)) = false := decide_eq_false (by omega)
   simp only [iG, hlt2, cond_false, qF, qE, cA (show i < 9223372036854775807 by omega)]
 ·intro k
  have hlt : decide ((l.Frozen.length : Int) < (l.Frozen.length : Int)) = false := decide_eq_false (by omega)
  simp only [eC, hlt, cond_false, qD]
theorem aRp (l : aU) (hP : 1 ≤ l.Players ∧ l.Players ≤ 16) (h1 : l.Reports.length ≤ 1000000) (h3 : l.Frozen.length ≤ 1000000) : gC l BIG 0 = some (l.Reports.all (sB l.Players) && qM l.Frozen) := by
 have main := oC (fun k i => gC l k i) l.Reports.length (fun i => sB l.Players (l.Reports.getD i default)) (some false) (some (qM l.Frozen)) ?_ ?_ BIG (cR (by omega))
 ·rw [main, sY]
  cases l.Reports.all (sB l.Players) <;> rfl
 ·intro k i hi
  have hlt : decide ((i : Int) < (l.Reports.length : Int)) = true := decide_eq_true (by omega)
  have ei : l.Reports.getD i default = l.Reports[i] := by simp [List.getD, List.getElem?_eq_getElem hi]
  simp only [gC, hlt, cond_true, cT hi, Option.bind_some, aTs hP, cA (show i < 9223372036854775807 by omega), ei]
  cases sB l.Players l.Reports[i] <;> rfl
 ·intro k
  have hlt : decide ((l.Reports.length : Int) < (l.Reports.length : Int)) = false := decide_eq_false (by omega)
  simp only [gC, hlt, cond_false, qC, aVd l h3]
theorem aHd {l : aU} (h : ¬ (1 ≤ l.Players ∧ l.Players ≤ 16)) : kY l = false := by
 have : inB l.Players 1 16 = false := by unfold inB; rw [Bool.eq_false_iff]; simpa using h
 unfold kY
 rw [this]; simp
theorem aTr (l : aU) (h1 : l.Reports.length ≤ 1000000) (h2 : l.Bans.length ≤ 1000000) (h3 : l.Frozen.length ≤ 1000000) : mT l = some (kY l) := by
 unfold mT
 have e40 : decide (40 < (l.Reports.length : Int)) = !decide (l.Reports.length ≤ 40) := by
  by_cases h : l.Reports.length ≤ 40
  ·rw [decide_eq_true h, decide_eq_false (by omega)]; rfl
  ·rw [decide_eq_false h, decide_eq_true (by omega)]; rfl
 rw [vO, Option.bind_some, vO, Option.bind_some, hG, Option.bind_some, hG, Option.bind_some, e40]
 rcases Classical.em (1 ≤ l.Players ∧ l.Players ≤ 16) with hP | hP
 ·rw [aNq hP l.Bans h2, aNq hP l.Frozen h3, Option.bind_some, Option.bind_some, hG, Option.bind_some, hG, Option.bind_some, aRp l hP h1 h3]
  unfold kY inB
  cases (decide (1 ≤ l.Players) && decide (l.Players ≤ 16)) <;> cases (decide (1 ≤ l.Counts) && decide (l.Counts ≤ 20)) <;> cases decide (l.Reports.length ≤ 40) <;> cases (decide (l.Bans.length ≤ 8) && l.Bans.all (mQ l.Players)) <;> cases (decide (l.Frozen.length ≤ 8) && l.Frozen.all (mQ l.Players)) <;> simp
 ·have : (decide (1 ≤ l.Players) && decide (l.Players ≤ 16)) = false := by rw [Bool.eq_false_iff]; simpa using hP
  rw [this, aHd hP]
  simp
theorem aVr (l : aU) (h3 : l.Frozen.length ≤ 1000000) : kF l.Frozen (l.Frozen.length : Int) l BIG 0 = some (qM l.Frozen) := by
 have main := oC (fun k i => kF l.Frozen (l.Frozen.length : Int) l k i) l.Frozen.length (fun i => (List.range i).all fun k => !nM (l.Frozen.getD i default) (l.Frozen.getD k default)) (some false) (some true) ?_ ?_ BIG (cR (by omega))
 ·rw [main]; unfold qM
  cases (List.range l.Frozen.length).all fun i => (List.range i).all fun k => !nM (l.Frozen.getD i default) (l.Frozen.getD k default) <;> rfl
 ·intro k i hi
  have hlt : decide ((i : Int) < (l.Frozen.length : Int)) = true := decide_eq_true (by omega)
  have ei : l.Frozen.getD i default = l.Frozen[i] := by simp [List.getD, List.getElem?_eq_getElem hi]
  have hm : ∀ y ∈ l.Frozen.take i, pW y l.Frozen[i] = some (nM l.Frozen[i] y) := by
   intro y _
   unfold pW nM
   simp only [jQ, Option.bind_some]
  simp only [kF, hlt, cond_true, cT hi, Option.bind_some, aOk (show i ≤ l.Frozen.length by omega), aAb _ _ _ hm (by simp; omega), cA (show i < 9223372036854775807 by omega)]
  rw [← aSt l.Frozen (fun y => nM (l.Frozen.getD i default) y) (by omega), ei]
  cases (l.Frozen.take i).any fun y => nM l.Frozen[i] y <;> rfl
 ·intro k
  have hlt : decide ((l.Frozen.length : Int) < (l.Frozen.length : Int)) = false := decide_eq_false (by omega)
  simp only [kF, hlt, cond_false, uI]
theorem aSm (l : aU) (hP : 1 ≤ l.Players ∧ l.Players ≤ 16) (h1 : l.Reports.length ≤ 1000000) (h2 : l.Bans.length ≤ 1000000) (h3 : l.Frozen.length ≤ 1000000) : kE l.Reports (l.Reports.length : Int) l BIG 0 =
  some (l.Reports.all (sB l.Players) && ((decide (l.Bans.length ≤ 8) && l.Bans.all (mQ l.Players)) && ((decide (l.Frozen.length ≤ 8) && l.Frozen.all (mQ l.Players)) && qM l.Frozen))) := by
 have main := oC (fun k i => kE l.Reports (l.Reports.length : Int) l k i) l.Reports.length (fun i => sB l.Players (l.Reports.getD i default)) (some false) (some ((decide (l.Bans.length ≤ 8) && l.Bans.all (mQ l.Players)) && ((decide (l.Frozen.length ≤ 8) && l.Frozen.all (mQ l.Players)) && qM l.Frozen))) ?_ ?_ BIG (cR (by omega))
 ·rw [main, sY]
  cases l.Reports.all (sB l.Players) <;> rfl
 ·intro k i hi
  have hlt : decide ((i : Int) < (l.Reports.length : Int)) = true := decide_eq_true (by omega)
  have ei : l.Reports.getD i default = l.Reports[i] := by simp [List.getD, List.getElem?_eq_getElem hi]
  simp only [kE, hlt, cond_true, cT hi, Option.bind_some, yK, hG, wP hP, cA (show i < 9223372036854775807 by omega), ei]
  have : sB l.Players l.Reports[i] = !(!inB l.Reports[i].Id 0 99 || !inB l.Reports[i].Player 0 (l.Players - 1) || !inB l.Reports[i].Week 0 400 || !inB l.Reports[i].Points 0 2000) := by
   unfold sB
   cases inB l.Reports[i].Id 0 99 <;> cases inB l.Reports[i].Player 0 (l.Players - 1) <;> cases inB l.Reports[i].Week 0 400 <;> cases inB l.Reports[i].Points 0 2000 <;> rfl
  rw [this]
  show (bif (!inB l.Reports[i].Id 0 99 || !inB l.Reports[i].Player 0 (l.Players - 1) || !inB l.Reports[i].Week 0 400 || !inB l.Reports[i].Points 0 2000) then _ else _) = _
  cases (!inB l.Reports[i].Id 0 99 || !inB l.Reports[i].Player 0 (l.Players - 1) || !inB l.Reports[i].Week 0 400 || !inB l.Reports[i].Points 0 2000) <;> rfl
 ·intro k
  have hlt : decide ((l.Reports.length : Int) < (l.Reports.length : Int)) = false := decide_eq_false (by omega)
  simp only [kE, hlt, cond_false, uH, aOd hP l rfl l.Bans h2, aOd hP l rfl l.Frozen h3, Option.bind_some, hG, aVr l h3]
  cases (decide (l.Bans.length ≤ 8) && l.Bans.all (mQ l.Players)) <;> cases (decide (l.Frozen.length ≤ 8) && l.Frozen.all (mQ l.Players)) <;> simp
theorem aUl (l : aU) (h1 : l.Reports.length ≤ 1000000) (h2 : l.Bans.length ≤ 1000000) (h3 : l.Frozen.length ≤ 1000000) : rM l = some (kY l) := by
 unfold rM
 have e40 : decide (40 < (l.Reports.length : Int)) = !decide (l.Reports.length ≤ 40) := by
  by_cases h : l.Reports.length ≤ 40
  ·rw [decide_eq_true h, decide_eq_false (by omega)]; rfl
  ·rw [decide_eq_false h, decide_eq_true (by omega)]; rfl
 rw [yK, Option.bind_some, yK, Option.bind_some, hG, Option.bind_some, hG, Option.bind_some, e40]
 rcases Classical.em (1 ≤ l.Players ∧ l.Players ≤ 16) with hP | hP
 ·rw [aSm l hP h1 h2 h3]
  unfold kY inB
  cases (decide (1 ≤ l.Players) && decide (l.Players ≤ 16)) <;> cases (decide (1 ≤ l.Counts) && decide (l.Counts ≤ 20)) <;> cases decide (l.Reports.length ≤ 40) <;> cases (decide (l.Bans.length ≤ 8) && l.Bans.all (mQ l.Players)) <;> cases (decide (l.Frozen.length ≤ 8) && l.Frozen.all (mQ l.Players)) <;> simp
 ·have : (decide (1 ≤ l.Players) && decide (l.Players ≤ 16)) = false := by rw [Bool.eq_false_iff]; simpa using hP
  rw [this, aHd hP]
  simp
def tG (l : List aG) : Bool := (List.range l.length).any fun i => (List.range i).any fun k => decide ((l.getD i default).Id = (l.getD k default).Id) && !decide (l.getD i default = l.getD k default)
theorem aVe (l : List aG) (hb : l.length ≤ 1000000) : oV l = some (tG l) := by
 unfold oV
 have main := oC (fun k i => fK l k i) l.length (fun i => (List.range i).all fun k => !(decide ((l.getD i default).Id = (l.getD k default).Id) && !decide (l.getD i default = l.getD k default))) (some true) (some false) ?_ ?_ BIG (cR (by omega))
 ·rw [main]
  have : tG l = !((List.range l.length).all fun i => (List.range i).all fun k => !(decide ((l.getD i default).Id = (l.getD k default).Id) && !decide (l.getD i default = l.getD k default))) := by
   unfold tG
   rw [List.not_all_eq_any_not]
   congr 1; funext i
   rw [List.not_all_eq_any_not]
   congr 1; funext k
   rw [Bool.not_not]
  rw [this]
  cases (List.range l.length).all fun i => (List.range i).all fun k => !(decide ((l.getD i default).Id = (l.getD k default).Id) && !decide (l.getD i default = l.getD k default)) <;> rfl
 ·intro k i hi
  have hlt : decide ((i : Int) < (l.length : Int)) = true := decide_eq_true (by omega)
  have ei : l.getD i default = l[i] := by simp [List.getD, List.getElem?_eq_getElem hi]
  simp only [fK, hlt, cond_true]
  refine oC (fun k4 q => jR (fK l k) l i k4 q) i (fun q => !(decide ((l.getD i default).Id = (l.getD q default).Id) && !decide (l.getD i default = l.getD q default))) (some true) (fK l k ((i + 1 : Nat) : Int)) ?_ ?_ BIG (cR (by omega))
  ·intro k4 q hq
   have hql : q < l.length := by omega
   have eq : l.getD q default = l[q] := by simp [List.getD, List.getElem?_eq_getElem hql]
   have hlt2 : decide ((q : Int) < (i : Int)) = true := decide_eq_true (by omega)
   simp only [jR, hlt2, cond_true, cT hi, cT hql, Option.bind_some, jQ, cA (show q < 9223372036854775807 by omega), ei, eq]
   cases (decide (l[i].Id = l[q].Id) && !decide (l[i] = l[q])) <;> rfl
  ·intro k4
   have hlt2 : decide ((i : Int) < (i : Int)) = false := decide_eq_false (by omega)
   simp only [jR, hlt2, cond_false, rW, rV, cA (show i < 9223372036854775807 by omega)]
 ·intro k
  have hlt : decide ((l.length : Int) < (l.length : Int)) = false := decide_eq_false (by omega)
  simp only [fK, hlt, cond_false, rU]
theorem xT (l : List aG) : tG l = true ↔ vN l := by
 unfold tG vN
 rw [List.any_eq_true]
 constructor
 ·rintro ⟨i, hi, h⟩
  obtain ⟨k, hk, h⟩ := List.any_eq_true.1 h
  rw [List.mem_range] at hi hk
  simp only [Bool.and_eq_true, decide_eq_true_eq, Bool.not_eq_true', decide_eq_false_iff_not] at h
  have ei : l.getD i default = l[i] := by simp [List.getD, List.getElem?_eq_getElem hi]
  have ek : l.getD k default = l[k] := by simp [List.getD, List.getElem?_eq_getElem (show k < l.length by omega)]
  rw [ei, ek] at h
  exact ⟨_, List.getElem_mem hi, _, List.getElem_mem (show k < l.length by omega), h.1, h.2⟩
 ·rintro ⟨x, hx, y, hy, h1, h2⟩
  obtain ⟨i, hi, rfl⟩ := List.getElem_of_mem hx
  obtain ⟨k, hk, rfl⟩ := List.getElem_of_mem hy
  have ei : l.getD i default = l[i] := by simp [List.getD, List.getElem?_eq_getElem hi]
  have ek : l.getD k default = l[k] := by simp [List.getD, List.getElem?_eq_getElem hk]
  rcases Nat.lt_trichotomy i k with h | h | h
  ·exact ⟨k, List.mem_range.2 hk, List.any_eq_true.2 ⟨i, List.mem_range.2 h, by rw [ei, ek]; simp [h1, Ne.symm h2]⟩⟩
  ·subst h; exact absurd rfl h2
  ·exact ⟨i, List.mem_range.2 hi, List.any_eq_true.2 ⟨k, List.mem_range.2 h, by rw [ei, ek]; simp [h1, h2]⟩⟩
def rJ (l : aU) : Int := bif !kY l then 40 else bif tG l.Reports then 41 else 0
theorem dCheck (l : aU) (h1 : l.Reports.length ≤ 1000000) (h2 : l.Bans.length ≤ 1000000) (h3 : l.Frozen.length ≤ 1000000) : mZ l = some (rJ l) := by
 unfold mZ rJ
 rw [aTr l h1 h2 h3, Option.bind_some, aVe _ h1, Option.bind_some]
 cases kY l <;> cases tG l.Reports <;> rfl
theorem aIm {l : aU} (h : kY l = true) : ∀ r ∈ l.Reports, sB l.Players r = true := by
 unfold kY at h
 simp only [Bool.and_eq_true] at h
 exact List.all_eq_true.1 h.1.2
theorem aVs (l : aU) (h1 : l.Reports.length ≤ 1000000) (h2 : l.Bans.length ≤ 1000000) (h3 : l.Frozen.length ≤ 1000000) : vA l = some (rJ l) := by
 unfold vA rJ
 rw [aUl l h1 h2 h3, Option.bind_some]
 cases hl : kY l with
 | false => rfl
 | true =>
  have hid : ∀ x ∈ l.Reports, 0 ≤ x.Id ∧ x.Id ≤ 99 := fun x hx => by
   have := aIm hl x hx
   unfold sB inB at this
   simp only [Bool.and_eq_true, decide_eq_true_eq] at this
   exact this.1.1.1
  simp only [Bool.not_true, cond_false]
  rcases aJs l.Reports hid h1 with ⟨hc, he⟩ | ⟨hc, zs, he, _⟩
  ·rw [he, (xT _).2 hc]; rfl
  ·have : tG l.Reports = false := by rw [Bool.eq_false_iff]; exact fun h => hc ((xT _).1 h)
   rw [he, this]; rfl
end Go.Am.Rk
end
section
namespace Go.Am.Rk
theorem sM {α S T : Type} (F : Nat → Int → S → T) (l : List α) (f : S → α → S) (K : S → T) (s0 : S) (h1 : ∀ k i (hi : i < l.length) s, s = (l.take i).foldl f s0 → F (k + 1) (i : Nat) s = F k ((i + 1 : Nat) : Int) (f s l[i])) (h2 : ∀ k s, F (k + 1) (l.length : Nat) s = K s) :
  ∀ k, l.length < k → F k 0 s0 = K (l.foldl f s0) := by
 intro k hk
 have := rR F l.length (fun i s => K ((l.drop i).foldl f s)) (fun i s => s = (l.take i).foldl f s0) (fun k i s hi hI ih => by
  rw [h1 k i hi s hI, ih _ (by rw [List.take_succ_eq_append_getElem hi, List.foldl_append, ← hI]; rfl), List.drop_eq_getElem_cons hi]; rfl)
  (fun k s _ => by rw [h2]; simp) k s0 hk (by simp)
 simpa using this
theorem filter_loop {α T : Type} (F : Nat → Int → List α → T) (l : List α) (p : α → Bool) (K : List α → T) (h1 : ∀ k i (hi : i < l.length) s, s = (l.take i).filter p → F (k + 1) (i : Nat) s = F k ((i + 1 : Nat) : Int) (bif p l[i] then s ++ [l[i]] else s)) (h2 : ∀ k s, F (k + 1) (l.length : Nat) s = K s) :
  ∀ k, l.length < k → F k 0 [] = K (l.filter p) := by
 intro k hk
 have hf : ∀ (l : List α) (s : List α), l.foldl (fun s x => bif p x then s ++ [x] else s) s = s ++ l.filter p := by
  intro l
  induction l with
  | nil => intro s; simp
  | cons x l ih =>
   intro s
   rw [List.foldl_cons, ih]
   cases hp : p x <;> simp [hp]
 have := sM F l (fun s x => bif p x then s ++ [x] else s) K [] (fun k i hi s hs => h1 k i hi s (by rw [hs, hf]; simp)) h2 k hk
 rw [this, hf]; simp
def qI (all : List bB) (p w : Int) : Bool := all.any fun a => decide (a.Player = p) && (decide (a.From ≤ w) && decide (w ≤ a.To))
theorem aTj (all : List bB) (p w : Int) (hb : all.length ≤ 1000000) : qX all p w = some (qI all p w) := by
 have h1 : ∀ x ∈ all, tN x p w = some (decide (x.Player = p) && (decide (x.From ≤ w) && decide (w ≤ x.To))) := by
  intro x _
  unfold tN
  simp only [yK, Option.bind_some, jQ]
 unfold qX
 rw [aAb all _ _ h1 hb]; rfl
theorem aPz {α : Type} [Inhabited α] (l : List α) (p : α → Bool) : (List.range l.length).all (fun i => !p (l.getD i default)) = !l.any p := by
 rw [sY l (fun x => !p x), List.not_any_eq_all_not]
def aIf (fz : List bB) (r : aG) (w : Int) : Int := (((List.range (w - r.Week).toNat).filter fun j => !qI fz r.Player (r.Week + 1 + (j : Nat))).length : Nat)
theorem aMz (f t s : Int) (n : Nat) : ((((List.range n).filter fun j => decide (f ≤ s + 1 + (j : Nat)) && decide (s + 1 + (j : Nat) ≤ t)).length : Nat) : Int) = max 0 (min t (s + n) - max f (s + 1) + 1) := by
 induction n with
 | zero => simp only [List.range_zero, List.filter_nil, List.length_nil]; omega
 | succ n ih =>
  rw [List.range_succ, List.filter_append, List.length_append]
  simp only [Int.natCast_add, ih]
  by_cases h1 : f ≤ s + 1 + (n : Int) <;> by_cases h2 : s + 1 + (n : Int) ≤ t <;> simp [h1, h2] <;> omega
theorem aFp {α : Type} (l : List α) (p q : α → Bool) (h : ∀ x ∈ l, ¬ (p x = true ∧ q x = true)) : (l.filter fun x => p x || q x).length = (l.filter p).length + (l.filter q).length := by
 induction l with
 | nil => rfl
 | cons x l ih =>
  have h1 := ih fun y hy => h y (List.mem_cons_of_mem _ hy)
  have h2 := h x (by simp)
  cases hp : p x <;> cases hq : q x <;> simp [hp, hq] at h2 ⊢ <;> omega
theorem aQd {α : Type} (l : List α) (p : α → Bool) : (l.filter p).length + (l.filter fun x => !p x).length = l.length := by
 induction l with
 | nil => rfl
 | cons x l ih => cases hp : p x <;> simp [hp] <;> omega
def xN (p s w : Int) : List bB → Int
 | [] => 0
 | f :: fz => (if f.Player = p then max 0 (min f.To w - max f.From (s + 1) + 1) else 0) + xN p s w fz
theorem aJg (l : List Nat) : l.filter (fun _ => false) = [] := by
 induction l with
 | nil => rfl
 | cons x l ih => rw [List.filter_cons, ih]; rfl
theorem aJr (p s w : Int) (hsw : s ≤ w) : ∀ fz : List bB, fz.Pairwise (fun a b => nM a b = false) → xN p s w fz = (((List.range (w - s).toNat).filter fun j => qI fz p (s + 1 + (j : Nat))).length : Nat)
 | [], _ => by simp [xN, qI, aJg]
 | f :: fz, h => by
  have h' := List.pairwise_cons.1 h
  have ih := aJr p s w hsw fz h'.2
  have e : (List.range (w - s).toNat).filter (fun j => qI (f :: fz) p (s + 1 + (j : Nat))) = (List.range (w - s).toNat).filter (fun j => (decide (f.Player = p) && (decide (f.From ≤ s + 1 + (j : Nat)) && decide (s + 1 + (j : Nat) ≤ f.To))) || qI fz p (s + 1 + (j : Nat))) := by
   simp only [qI, List.any_cons]
  rw [e, aFp]
  ·simp only [xN, ih, Int.natCast_add]
   congr 1
   by_cases hp : f.Player = p
   ·have := aMz f.From f.To s (w - s).toNat
    have e2 : s + ((w - s).toNat : Int) = w := by omega
    rw [e2] at this
    simp only [hp, if_true, decide_true, Bool.true_and]
    rw [this]
   ·simp [hp, aJg]
  ·rintro j _ ⟨h1, h2⟩
   simp only [Bool.and_eq_true, decide_eq_true_eq] at h1
   obtain ⟨a, ha, h3⟩ := List.any_eq_true.1 h2
   simp only [Bool.and_eq_true, decide_eq_true_eq] at h3
   have := h'.1 a ha
   unfold nM at this
   rw [Bool.eq_false_iff] at this
   apply this
   simp only [Bool.and_eq_true, decide_eq_true_eq]
   omega
theorem aIg {l : List bB} (h : qM l = true) : l.Pairwise (fun a b => nM a b = false) := by
 refine List.pairwise_iff_getElem.2 fun i j hi hj hij => ?_
 have h1 := List.all_eq_true.1 h j (List.mem_range.2 hj)
 have h2 := List.all_eq_true.1 h1 i (List.mem_range.2 hij)
 have ei : l.getD i default = l[i] := by simp [List.getD, List.getElem?_eq_getElem hi]
 have ej : l.getD j default = l[j] := by simp [List.getD, List.getElem?_eq_getElem hj]
 rw [ei, ej] at h2
 unfold nM at h2 ⊢
 rw [Bool.eq_false_iff]
 simp only [Bool.not_eq_true', Bool.eq_false_iff] at h2
 intro hn
 apply h2
 simp only [Bool.and_eq_true, decide_eq_true_eq] at hn ⊢
 omega
theorem aTn (fz : List bB) (r : aG) (w : Int) (hw : r.Week ≤ w) (ha : fz.Pairwise (fun a b => nM a b = false)) : w - r.Week - xN r.Player r.Week w fz = aIf fz r w := by
 rw [aJr r.Player r.Week w hw fz ha]
 unfold aIf
 have := aQd (List.range (w - r.Week).toNat) fun j => qI fz r.Player (r.Week + 1 + (j : Nat))
 rw [List.length_range] at this
 omega
theorem aJq (p s w : Int) : ∀ (fz : List bB), (∀ f ∈ fz, 0 ≤ f.From ∧ f.To ≤ 400) → 0 ≤ xN p s w fz ∧ xN p s w fz ≤ 401 * fz.length
 | [], _ => by simp [xN]
 | f :: fz, h => by
  have h1 := aJq p s w fz fun x hx => h x (List.mem_cons_of_mem _ hx)
  have h2 := h f (by simp)
  simp only [xN, List.length_cons]
  split <;> constructor <;> omega
theorem aWr (b : dF) (r : aG) (w : Int) (hfz : ∀ f ∈ b.Ledger.Frozen, 0 ≤ f.From ∧ f.To ≤ 400 ∧ f.From ≤ f.To) (hb : b.Ledger.Frozen.length ≤ 8) (ha : qM b.Ledger.Frozen = true) (h0 : 0 ≤ r.Week) (h1 : r.Week ≤ w) (h2 : w ≤ 1000) : pL b r w = some (aIf b.Ledger.Frozen r w) := by
 unfold pL
 have hoff : ∀ (l : List bB) (n : Int), l.foldl (fun n f => if f.Player = r.Player then n - max 0 (min f.To w - max f.From (r.Week + 1) + 1) else n) n = n - xN r.Player r.Week w l := by
  intro l
  induction l with
  | nil => intro n; simp [xN]
  | cons f l ih =>
   intro n
   rw [List.foldl_cons, ih]
   simp only [xN]
   split <;> omega
 have main := sM (fun k i n => kD w b.Ledger.Frozen (b.Ledger.Frozen.length : Int) r k n i) b.Ledger.Frozen (fun n f => if f.Player = r.Player then n - max 0 (min f.To w - max f.From (r.Week + 1) + 1) else n) (fun n => some n) (w - r.Week) ?_ ?_ BIG (cR (by omega))
 ·rw [cF (by omega) (by omega), main, hoff, aTn _ _ _ h1 (aIg ha)]
 ·intro k i hi n hn
  have hlt : decide ((i : Int) < (b.Ledger.Frozen.length : Int)) = true := decide_eq_true (by omega)
  have hf := hfz _ (List.getElem_mem hi)
  have hr := aJq r.Player r.Week w (b.Ledger.Frozen.take i) fun x hx => by have := hfz x (List.mem_of_mem_take hx); omega
  rw [hoff] at hn
  simp only [List.length_take] at hr
  simp only [kD, hlt, cond_true, cT hi, Option.bind_some, cA (show i < 9223372036854775807 by omega)]
  by_cases hp : b.Ledger.Frozen[i].Player = r.Player
  ·rw [decide_eq_true hp, cond_true, if_pos hp]
   have e1 : w64 (r.Week + 1) = r.Week + 1 := cF (by omega) (by omega)
   rw [e1]
   have e2 : w64 (min b.Ledger.Frozen[i].To w - max b.Ledger.Frozen[i].From (r.Week + 1)) = min b.Ledger.Frozen[i].To w - max b.Ledger.Frozen[i].From (r.Week + 1) := cF (by omega) (by omega)
   rw [e2]
   have e3 : w64 (min b.Ledger.Frozen[i].To w - max b.Ledger.Frozen[i].From (r.Week + 1) + 1) = min b.Ledger.Frozen[i].To w - max b.Ledger.Frozen[i].From (r.Week + 1) + 1 := cF (by omega) (by omega)
   rw [e3]
   have e4 : w64 (n - max 0 (min b.Ledger.Frozen[i].To w - max b.Ledger.Frozen[i].From (r.Week + 1) + 1)) = n - max 0 (min b.Ledger.Frozen[i].To w - max b.Ledger.Frozen[i].From (r.Week + 1) + 1) := cF (by omega) (by omega)
   rw [e4]
  ·rw [decide_eq_false hp, cond_false, if_neg hp]
 ·intro k n
  have hlt : decide ((b.Ledger.Frozen.length : Int) < (b.Ledger.Frozen.length : Int)) = false := decide_eq_false (by omega)
  simp only [kD, hlt, cond_false, uG]
end Go.Am.Rk
end
section
namespace Go.Am.Rk
structure GL (l : aU) (z : List aG) : Prop where
 led : kY l = true
 once : pX l.Reports = some (z, true)
 st : z.Pairwise fun x y => x.Id < y.Id
 mem : ∀ x, x ∈ z ↔ x ∈ l.Reports
 len : z.length ≤ 40
 ncl : ¬ vN l.Reports
theorem sN {l : aU} (h : kY l = true) : (1 ≤ l.Players ∧ l.Players ≤ 16) ∧ (1 ≤ l.Counts ∧ l.Counts ≤ 20) ∧ l.Reports.length ≤ 40 ∧ (l.Bans.length ≤ 8 ∧ ∀ a ∈ l.Bans, mQ l.Players a = true) ∧ (l.Frozen.length ≤ 8 ∧ ∀ a ∈ l.Frozen, mQ l.Players a = true) ∧ (∀ r ∈ l.Reports, sB l.Players r = true) ∧ qM l.Frozen = true := by
 unfold kY inB at h
 simp only [Bool.and_eq_true, decide_eq_true_eq, List.all_eq_true] at h
 obtain ⟨⟨⟨⟨⟨⟨h1, h2⟩, h3⟩, h4⟩, h5⟩, h6⟩, h7⟩ := h
 exact ⟨h1, h2, h3, h4, h5, h6, h7⟩
theorem aJu {P : Int} {r : aG} (h : sB P r = true) : (0 ≤ r.Id ∧ r.Id ≤ 99) ∧ (0 ≤ r.Player ∧ r.Player ≤ P - 1) ∧ (0 ≤ r.Week ∧ r.Week ≤ 400) ∧ (0 ≤ r.Points ∧ r.Points ≤ 2000) := by
 unfold sB inB at h
 simp only [Bool.and_eq_true, decide_eq_true_eq] at h
 exact ⟨h.1.1.1, h.1.1.2, h.1.2, h.2⟩
theorem aPw {P : Int} {a : bB} (h : mQ P a = true) : (0 ≤ a.Player ∧ a.Player ≤ P - 1) ∧ 0 ≤ a.From ∧ a.From ≤ a.To ∧ a.To ≤ 400 := by
 unfold mQ inB at h
 simp only [Bool.and_eq_true, decide_eq_true_eq] at h
 exact ⟨h.1.1.1, h.1.1.2, h.1.2, h.2⟩
theorem aTf {l : aU} (h : rJ l = 0) : ∃ z, GL l z := by
 unfold rJ at h
 cases hl : kY l with
 | false => rw [hl] at h; simp at h
 | true =>
  cases hc : tG l.Reports with
  | true => rw [hl, hc] at h; simp at h
  | false =>
   have hncl : ¬ vN l.Reports := fun hn => by rw [(xT _).2 hn] at hc; cases hc
   obtain ⟨_, _, h3, _, _, h6, _⟩ := sN hl
   have hid : ∀ x ∈ l.Reports, 0 ≤ x.Id ∧ x.Id ≤ 99 := fun x hx => (aJu (h6 x hx)).1
   rcases aJs l.Reports hid (by omega) with ⟨hn, _⟩ | ⟨_, z, h7, h8, h9, h10⟩
   ·exact absurd hn hncl
   ·exact ⟨z, hl, h7, h8, h9, by omega, hncl⟩
theorem aRl {l : aU} {z : List aG} (h : GL l z) : rJ l = 0 := by
 have : tG l.Reports = false := by rw [Bool.eq_false_iff]; exact fun hn => h.ncl ((xT _).1 hn)
 unfold rJ
 rw [h.led, this]; rfl
def aRm (l : aU) (p w : Int) (r : aG) : Bool := decide (r.Player = p) && decide (r.Week ≤ w) && decide (aIf l.Frozen r w < 52) && !qI l.Bans p r.Week
def kA (l : aU) (z : List aG) (p w : Int) : List aG := z.filter (aRm l p w)
def kO (l : aU) (z : List aG) : dF := ⟨⟨l.Players, l.Counts, z, l.Bans, l.Frozen⟩⟩
def zX (l : aU) : Bool := kY ⟨l.Players, l.Counts, [], l.Bans, l.Frozen⟩
theorem aHs {l : aU} (h : zX l = true) : (1 ≤ l.Players ∧ l.Players ≤ 16) ∧ (1 ≤ l.Counts ∧ l.Counts ≤ 20) ∧ True ∧ (l.Bans.length ≤ 8 ∧ ∀ a ∈ l.Bans, mQ l.Players a = true) ∧ (l.Frozen.length ≤ 8 ∧ ∀ a ∈ l.Frozen, mQ l.Players a = true) ∧ True ∧ qM l.Frozen = true := by
 have a := sN h
 exact ⟨a.1, a.2.1, trivial, a.2.2.2.1, a.2.2.2.2.1, trivial, a.2.2.2.2.2.2⟩
theorem aUp {l : aU} (h : kY l = true) : zX l = true := by
 unfold zX
 unfold kY at h ⊢
 simp only [Bool.and_eq_true, decide_eq_true_eq] at h ⊢
 simp only [List.length_nil, List.all_nil, Nat.zero_le, and_true, true_and]
 exact ⟨⟨⟨⟨h.1.1.1.1.1.1, h.1.1.1.1.1.2⟩, h.1.1.1.2⟩, h.1.1.2⟩, h.2⟩
def aAj (P : Int) (r : aG) : Bool := inB r.Id 0 10000 && inB r.Player 0 (P - 1) && inB r.Week 0 400 && inB r.Points 0 2000
theorem aHr {P : Int} {r : aG} (h : aAj P r = true) : (0 ≤ r.Id ∧ r.Id ≤ 10000) ∧ (0 ≤ r.Player ∧ r.Player ≤ P - 1) ∧ (0 ≤ r.Week ∧ r.Week ≤ 400) ∧ (0 ≤ r.Points ∧ r.Points ≤ 2000) := by
 unfold aAj inB at h
 simp only [Bool.and_eq_true, decide_eq_true_eq] at h
 exact ⟨h.1.1.1, h.1.1.2, h.1.2, h.2⟩
theorem aUo {P : Int} {r : aG} (h : sB P r = true) : aAj P r = true := by
 have := aJu h
 unfold aAj inB
 simp only [Bool.and_eq_true, decide_eq_true_eq]
 omega
theorem GL.rest {l : aU} {z : List aG} (h : GL l z) : zX l = true := aUp h.led
section count
variable {l : aU} {z : List aG} (hl : zX l = true) (hz : ∀ x ∈ z, aAj l.Players x = true) (hlen : z.length ≤ 1000) {p w : Int} (hw : 0 ≤ w) (hw1 : w ≤ 1000)
include hl hz hlen hw hw1
omit hw in
theorem aVt : pR (kO l z) p w = some (kA l z p w) := by
 obtain ⟨_, _, _, hbans, hfz, _, hap⟩ := aHs hl
 unfold pR
 refine filter_loop (fun k i s => jB (kO l z) p w z (z.length : Int) k i s) z (aRm l p w) (fun s => some s) (fun k i hi s hs => ?_) (fun k s => ?_) BIG (cR (by omega))
 ·have hlt : decide ((i : Int) < (z.length : Int)) = true := decide_eq_true (by omega)
  have hr := aHr (hz _ (List.getElem_mem hi))
  have hsl : s.length ≤ i := by rw [hs]; exact Nat.le_trans (List.length_filter_le _ _) (by simp; omega)
  have hage : z[i].Week ≤ w → pL (kO l z) z[i] w = some (aIf l.Frozen z[i] w) := fun h => aWr (kO l z) z[i] w (fun f hf => by have := aPw (hfz.2 f hf); omega) hfz.1 hap hr.2.2.1.1 h hw1
  have haw : qX (kO l z).Ledger.Bans p z[i].Week = some (qI l.Bans p z[i].Week) := aTj _ _ _ (show l.Bans.length ≤ 1000000 by omega)
  simp only [jB, hlt, cond_true, cT hi, Option.bind_some, jQ, cA (show i < 9223372036854775807 by omega), nI (show (s.length + [z[i]].length) * 40 ≤ 140737488355328 by simp; omega)]
  unfold aRm
  by_cases h1 : z[i].Player = p <;> by_cases h2 : z[i].Week ≤ w
  ·have ha := hage h2
   by_cases h3 : aIf l.Frozen z[i] w < 52
   ·simp only [h1, h2, h3, decide_true, Bool.true_and, cond_true, ha, Option.bind_some, haw]
    cases qI l.Bans p z[i].Week <;> rfl
   ·simp only [h1, h2, h3, decide_true, decide_false, Bool.true_and, Bool.and_true, Bool.and_false, Bool.false_and, cond_true, cond_false, ha, Option.bind_some]
  ·simp [h1, h2]
  ·simp [h1, h2]
  ·simp [h1, h2]
 ·have hlt : decide ((z.length : Int) < (z.length : Int)) = false := decide_eq_false (by omega)
  simp only [jB, hlt, cond_false, sP]
end count
theorem GL.reps {l : aU} {z : List aG} (h : GL l z) : ∀ x ∈ z, aAj l.Players x = true := fun x hx => aUo ((sN h.led).2.2.2.2.2.1 x ((h.mem x).1 hx))
end Go.Am.Rk
end
section
namespace Go.Am.Rk
def orF : List Int → Int
 | [] => 0
 | x :: t => if x = 0 then orF t else x
theorem aOc (l : List Int) (hb : l.length ≤ 1000000) : lD l = some (orF l) := by
 unfold lD
 have main : ∀ (d i k : Nat), l.length - i = d → d < k → i ≤ l.length → lE 0 l (l.length : Int) k (i : Nat) = some (orF (l.drop i)) := by
  intro d
  induction d with
  | zero =>
   intro i k hd hk hi
   obtain ⟨k, rfl⟩ : ∃ q, k = q + 1 := ⟨k - 1, by omega⟩
   have hlt : decide ((i : Int) < (l.length : Int)) = false := decide_eq_false (by omega)
   have : l.drop i = [] := List.drop_eq_nil_of_le (by omega)
   simp only [lE, hlt, cond_false, rK, this, orF]
  | succ d ih =>
   intro i k hd hk hi
   obtain ⟨k, rfl⟩ : ∃ q, k = q + 1 := ⟨k - 1, by omega⟩
   have hil : i < l.length := by omega
   have hlt : decide ((i : Int) < (l.length : Int)) = true := decide_eq_true (by omega)
   simp only [lE, hlt, cond_true, cT hil, Option.bind_some, cA (show i < 9223372036854775807 by omega), ih (i + 1) k (by omega) (by omega) (by omega)]
   rw [List.drop_eq_getElem_cons hil]
   simp only [orF]
   by_cases h : l[i] = 0
   ·rw [decide_eq_true h, if_pos h]; rfl
   ·rw [decide_eq_false h, if_neg h]; rfl
 exact main _ 0 BIG rfl (cR (by omega)) (Nat.zero_le _)
def leT (x y : aG) : Prop := (x.Must = true ∧ y.Must = false) ∨ (x.Must = y.Must ∧ (y.Points < x.Points ∨ (x.Points = y.Points ∧ x.Id ≤ y.Id)))
def nL (x y : aG) : Bool := (x.Must && !y.Must) || (decide (x.Must = y.Must) && (decide (y.Points < x.Points) || (decide (x.Points = y.Points) && decide (x.Id < y.Id))))
def okT (x : aG) : Prop := (0 ≤ x.Id ∧ x.Id ≤ 10000) ∧ (0 ≤ x.Points ∧ x.Points ≤ 2000)
theorem aWo : pF (fun x y => mN x y) okT leT where
 run x y hx hy := by
  unfold okT at hx hy
  unfold mN leT
  have e1 : w64 (y.Points - x.Points) = y.Points - x.Points := cF (by omega) (by omega)
  have e2 : w64 (x.Id - y.Id) = x.Id - y.Id := cF (by omega) (by omega)
  rw [e1, e2, aOc _ (by simp), Option.bind_some]
  cases hxm : x.Must <;> cases hym : y.Must
  ·refine ⟨orF [y.Points - x.Points, x.Id - y.Id], rfl, ?_⟩
   simp only [orF]
   split <;> simp <;> omega
  ·exact ⟨1, rfl, by simp⟩
  ·exact ⟨-1, rfl, by simp⟩
  ·refine ⟨orF [y.Points - x.Points, x.Id - y.Id], rfl, ?_⟩
   simp only [orF]
   split <;> simp <;> omega
 tot x y _ _ := by
  unfold leT
  cases x.Must <;> cases y.Must <;> simp <;> omega
 tr x y z _ _ _ h1 h2 := by
  unfold leT at *
  cases hx : x.Must <;> cases hy : y.Must <;> cases hz : z.Must <;> simp [hx, hy, hz] at h1 h2 ⊢ <;> omega
def lO (all : List aG) : Nat := (all.filter fun r => r.Must).length
def aIh (all : List aG) (r : aG) : Nat := (all.filter fun q => !q.Must && (decide (r.Points < q.Points) || (decide (q.Points = r.Points) && decide (q.Id < r.Id)))).length
def aBg (C : Int) (all : List aG) : List aG := all.filter fun r => r.Must || decide ((aIh all r : Int) < C - lO all)
theorem aOj {x y : aG} (h : leT x y) (hne : x.Id ≠ y.Id) : nL x y = true ∧ nL y x = false := by
 unfold leT at h
 unfold nL
 rw [Bool.eq_false_iff]
 cases hx : x.Must <;> cases hy : y.Must <;> simp [hx, hy] at h ⊢ <;> omega
theorem aNx (x : aG) : nL x x = false := by unfold nL; simp
theorem aOe {s : List aG} (hs : s.Pairwise leT) (hid : ∀ i j (hi : i < s.length) (hj : j < s.length), i ≠ j → (s[i]).Id ≠ (s[j]).Id) {i : Nat} (hi : i < s.length) : (s.filter fun q => nL q s[i]).length = i := by
 have e : s = s.take i ++ s[i] :: s.drop (i + 1) := by rw [← List.drop_eq_getElem_cons hi, List.take_append_drop]
 have h1 : (s.take i).filter (fun q => nL q s[i]) = s.take i := by
  refine List.filter_eq_self.2 fun q hq => ?_
  obtain ⟨j, hj, rfl⟩ := List.getElem_of_mem hq
  simp only [List.length_take] at hj
  rw [List.getElem_take]
  exact (aOj (List.pairwise_iff_getElem.1 hs j i (by omega) hi (by omega)) (hid j i (by omega) hi (by omega))).1
 have h2 : (s.drop (i + 1)).filter (fun q => nL q s[i]) = [] := by
  refine List.filter_eq_nil_iff.2 fun q hq => ?_
  obtain ⟨j, hj, rfl⟩ := List.getElem_of_mem hq
  simp only [List.length_drop] at hj
  rw [List.getElem_drop]
  have := (aOj (List.pairwise_iff_getElem.1 hs i (i + 1 + j) hi (by omega) (by omega)) (hid i (i + 1 + j) hi (by omega) (by omega))).2
  rw [this]; simp
 have h3 : (s.filter fun q => nL q s[i]) = s.take i :=
  calc (s.filter fun q => nL q s[i]) = (s.take i ++ s[i] :: s.drop (i + 1)).filter (fun q => nL q s[i]) := congrArg (fun l => List.filter (fun q => nL q s[i]) l) e
   _ = s.take i := by
    rw [List.filter_append, List.filter_cons, h1, h2, aNx]
    simp
 rw [h3, List.length_take]; omega
theorem yL (all : List aG) (r : aG) : (r.Must = false → (all.filter fun q => nL q r).length = lO all + aIh all r) ∧ (r.Must = true → (all.filter fun q => nL q r).length ≤ lO (all.filter fun q => nL q r)) := by
 constructor
 ·intro hr
  unfold lO aIh
  rw [← aFp]
  ·congr 1
   refine List.filter_congr fun q _ => ?_
   unfold nL
   rw [hr]
   cases q.Must <;> simp
  ·rintro q _ ⟨h1, h2⟩
   simp [h1] at h2
 ·intro hr
  unfold lO
  rw [List.filter_filter]
  refine Nat.le_of_eq ?_
  congr 1
  refine List.filter_congr fun q _ => ?_
  unfold nL
  rw [hr]
  cases q.Must <;> simp
theorem uX {p : aG → Bool} {a b : List aG} (h : a.Perm b) : (a.filter p).length = (b.filter p).length := (h.filter p).length_eq
theorem aPu {z : List aG} (h : z.Pairwise fun x y => x.Id < y.Id) : ∀ x ∈ z, ∀ y ∈ z, x.Id = y.Id → x = y := by
 intro x hx y hy hxy
 obtain ⟨i, hi, rfl⟩ := List.getElem_of_mem hx
 obtain ⟨j, hj, rfl⟩ := List.getElem_of_mem hy
 have h1 := List.pairwise_iff_getElem.1 h
 rcases Nat.lt_trichotomy i j with h2 | h2 | h2
 ·have := h1 i j hi hj h2; omega
 ·subst h2; rfl
 ·have := h1 j i hj hi h2; omega
theorem aEf {z : List aG} (h : z.Pairwise fun x y => x.Id < y.Id) : z.Nodup := h.imp fun h he => by rw [he] at h; omega
theorem aPv {C : Int} {all s : List aG} (hall : all.Pairwise fun x y => x.Id < y.Id) (hp : s.Perm all) (hs : s.Pairwise leT) {N : Nat} (hN : (N : Int) = min (s.length : Int) (max (lO s : Int) C)) (hNl : N ≤ s.length) : (s.take N).Perm (aBg C all) := by
 have hsl : s.length = all.length := hp.length_eq
 have hnd : s.Nodup := hp.nodup_iff.2 (aEf hall)
 have hml : lO s ≤ s.length := List.length_filter_le _ _
 have hids : ∀ i j (hi : i < s.length) (hj : j < s.length), i ≠ j → (s[i]).Id ≠ (s[j]).Id := fun i j hi hj hij he => by
  have := aPu hall _ (hp.mem_iff.1 (List.getElem_mem hi)) _ (hp.mem_iff.1 (List.getElem_mem hj)) he
  have hn := List.pairwise_iff_getElem.1 hnd
  rcases Nat.lt_or_gt_of_ne hij with h | h
  ·exact hn i j hi hj h this
  ·exact hn j i hj hi h this.symm
 refine (List.perm_ext_iff_of_nodup (hnd.sublist (List.take_sublist N s)) ((aEf hall).sublist List.filter_sublist)).2 fun r => ?_
 have hmust : lO s = lO all := uX hp
 rw [List.mem_filter]
 constructor
 ·intro h
  obtain ⟨i, hi, rfl⟩ := List.getElem_of_mem h
  simp only [List.length_take] at hi
  have hil : i < s.length := by omega
  have e : (s.take N)[i]'(by simp; omega) = s[i] := List.getElem_take
  rw [e]
  have h1 := aOe hs hids hil
  rw [uX (p := fun q => nL q s[i]) hp] at h1
  refine ⟨hp.mem_iff.1 (List.getElem_mem hil), ?_⟩
  cases hmu : s[i].Must with
  | true => rfl
  | false =>
   have h2 := (yL all s[i]).1 hmu
   simp only [Bool.false_or, decide_eq_true_eq]
   omega
 ·rintro ⟨h1, h2⟩
  obtain ⟨i, hi, rfl⟩ := List.getElem_of_mem (hp.mem_iff.2 h1)
  have h3 := aOe hs hids hi
  have hiN : i < N := by
   cases hmu : s[i].Must with
   | true =>
    have h4 := (yL s s[i]).2 hmu
    rw [h3] at h4
    have h5 : lO (s.filter fun q => nL q s[i]) < lO s := by
     unfold lO
     rw [List.filter_filter]
     have h6 := aFp s (fun q => q.Must && nL q s[i]) (fun q => q.Must && !nL q s[i]) (fun q _ h => by simp only [Bool.and_eq_true, Bool.not_eq_true'] at h; rw [h.1.2] at h; exact absurd h.2.2 (by simp))
     have h7 : (s.filter fun q => (q.Must && nL q s[i]) || (q.Must && !nL q s[i])) = s.filter fun q => q.Must := List.filter_congr fun q _ => by cases q.Must <;> cases nL q s[i] <;> rfl
     rw [h7] at h6
     have h8 : 0 < (s.filter fun q => q.Must && !nL q s[i]).length := List.length_pos_of_mem (List.mem_filter.2 ⟨List.getElem_mem hi, by rw [hmu, aNx]; rfl⟩)
     omega
    omega
   | false =>
    rw [hmu] at h2
    simp only [Bool.false_or, decide_eq_true_eq] at h2
    rw [uX (p := fun q => nL q s[i]) hp] at h3
    have h4 := (yL all s[i]).1 hmu
    omega
  have : (s.take N)[i]'(by simp; omega) = s[i] := List.getElem_take
  rw [← this]
  exact List.getElem_mem _
theorem aVv (b : dF) (all : List aG) (hall : all.Pairwise fun x y => x.Id < y.Id) (hok : ∀ x ∈ all, okT x) (hb : all.length ≤ 1000) (hC : 0 ≤ b.Ledger.Counts ∧ b.Ledger.Counts ≤ 1000) : ∃ t, pT b all = some t ∧ t.Perm (aBg b.Ledger.Counts all) := by
 obtain ⟨s, hp, hs, hr⟩ := aFj aWo all hok (by omega)
 have hsl : s.length = all.length := hp.length_eq
 have hcl : fQ all = some all := by
  unfold fQ
  rw [nI (by simp; omega)]; rfl
 have hm : ∀ (l : List aG) (n : Int), l.foldl (fun n r => bif r.Must then n + 1 else n) n = n + lO l := by
  intro l
  induction l with
  | nil => intro n; simp [lO]
  | cons x l ih =>
   intro n
   rw [List.foldl_cons, ih]
   unfold lO
   rw [List.filter_cons]
   cases x.Must <;> simp <;> omega
 have hml : lO s ≤ s.length := List.length_filter_le _ _
 have loop : iC b (s.length : Int) s BIG 0 0 = nN b (lO s : Nat) s := by
  have main := sM (fun k i n => iC b (s.length : Int) s k n i) s (fun n r => bif r.Must then n + 1 else n) (fun n => nN b n s) 0 ?_ ?_ BIG (cR (by omega))
  ·rw [main, hm]; simp
  ·intro k i hi n hn
   have hlt : decide ((i : Int) < (s.length : Int)) = true := decide_eq_true (by omega)
   have hmi : lO (s.take i) ≤ i := Nat.le_trans (List.length_filter_le _ _) (by simp; omega)
   rw [hm] at hn
   simp only [iC, hlt, cond_true, cT hi, Option.bind_some, cA (show i < 9223372036854775807 by omega)]
   cases s[i].Must
   ·rfl
   ·simp only [cond_true]; rw [cF (by omega) (by omega)]
  ·intro k n
   have hlt : decide ((s.length : Int) < (s.length : Int)) = false := decide_eq_false (by omega)
   simp only [iC, hlt, cond_false]
 obtain ⟨N, hN, hNl⟩ : ∃ N : Nat, (N : Int) = min (s.length : Int) (max (lO s : Int) b.Ledger.Counts) ∧ N ≤ s.length := ⟨(min (s.length : Int) (max (lO s : Int) b.Ledger.Counts)).toNat, by omega, by omega⟩
 refine ⟨s.take N, ?_, ?_⟩
 ·unfold pT
  rw [hcl, Option.bind_some, hr, Option.bind_some, loop]
  unfold nN
  rw [← hN, aOk hNl]; rfl
 ·exact aPv hall hp hs hN hNl
end Go.Am.Rk
end
section
namespace Go.Am.Rk
theorem uU {α : Type} {p : α → Bool} {x : α} {l : List α} (h : x ∈ l.filter p) : x ∈ l := (List.mem_filter.1 h).1
def sD : List aG → Int
 | [] => 0
 | r :: t => r.Points + sD t
def zS (l : List aG) : Int := sD (l.filter fun r => r.Must)
theorem aRe {a b : List aG} (h : a.Perm b) : sD a = sD b := by
 induction h with
 | nil => rfl
 | cons x _ ih => simp only [sD, ih]
 | swap x y l => simp only [sD]; omega
 | trans _ _ h1 h2 => exact h1.trans h2
theorem yD {l : List aG} (h : ∀ r ∈ l, 0 ≤ r.Points ∧ r.Points ≤ 2000) : 0 ≤ sD l ∧ sD l ≤ 2000 * l.length := by
 induction l with
 | nil => simp [sD]
 | cons r l ih =>
  have h1 := ih fun x hx => h x (List.mem_cons_of_mem _ hx)
  have h2 := h r (by simp)
  simp only [sD, List.length_cons]
  omega
theorem aCm : ∀ (l : List aG) (n : Int), l.foldl (fun n r => n + r.Points) n = n + sD l
 | [], n => by simp [sD]
 | r :: l, n => by rw [List.foldl_cons, aCm l]; simp only [sD]; omega
theorem aWs (l : List aG) (h : ∀ r ∈ l, 0 ≤ r.Points ∧ r.Points ≤ 2000) (hb : l.length ≤ 1000000) : zE l = some (sD l) := by
 unfold zE
 have main := sM (fun k i n => qG l (l.length : Int) k n i) l (fun n r => n + r.Points) (fun n => some n) 0 ?_ ?_ BIG (cR (by omega))
 ·rw [main, aCm]; simp
 ·intro k i hi n hn
  have hlt : decide ((i : Int) < (l.length : Int)) = true := decide_eq_true (by omega)
  have h1 := yD (l := l.take i) fun r hr => h r (List.mem_of_mem_take hr)
  have h2 := h _ (List.getElem_mem hi)
  simp only [List.length_take] at h1
  rw [aCm] at hn
  simp only [qG, hlt, cond_true, cT hi, Option.bind_some, cA (show i < 9223372036854775807 by omega)]
  rw [cF (by omega) (by omega)]
 ·intro k n
  have hlt : decide ((l.length : Int) < (l.length : Int)) = false := decide_eq_false (by omega)
  simp only [qG, hlt, cond_false, aAi]
def aSl (l : aU) (z : List aG) (p w : Int) : Int := sD (aBg l.Counts (kA l z p w))
theorem aBn {l : aU} {z : List aG} (hz : ∀ x ∈ z, aAj l.Players x = true) {p w : Int} : ∀ x ∈ kA l z p w, okT x := fun x hx => by
 have := aHr (hz x (uU hx))
 exact ⟨this.1, this.2.2.2⟩
theorem aRn {l : aU} {z : List aG} (hz : z.Pairwise fun x y => x.Id < y.Id) {p w : Int} : (kA l z p w).Pairwise fun x y => x.Id < y.Id := hz.sublist List.filter_sublist
theorem zM {l : aU} {z : List aG} {p w : Int} : (kA l z p w).length ≤ z.length := List.length_filter_le _ _
end Go.Am.Rk
end
section
namespace Go.Am.Rk
def leL (x y : aW) : Prop := y.points < x.points ∨ (x.points = y.points ∧ (y.musts < x.musts ∨ (x.musts = y.musts ∧ (x.many < y.many ∨ (x.many = y.many ∧ x.player ≤ y.player)))))
def ltL (x y : aW) : Prop := y.points < x.points ∨ (x.points = y.points ∧ (y.musts < x.musts ∨ (x.musts = y.musts ∧ (x.many < y.many ∨ (x.many = y.many ∧ x.player < y.player)))))
def aLu (x : aW) : Prop := (0 ≤ x.points ∧ x.points ≤ 1000000000) ∧ (0 ≤ x.musts ∧ x.musts ≤ 1000000000) ∧ (0 ≤ x.many ∧ x.many ≤ 1000000000) ∧ (0 ≤ x.player ∧ x.player ≤ 1000000000)
theorem aWm : pF (fun x y => mO x y) aLu leL where
 run x y hx hy := by
  unfold aLu at hx hy
  unfold mO leL
  have e1 : w64 (y.points - x.points) = y.points - x.points := cF (by omega) (by omega)
  have e2 : w64 (y.musts - x.musts) = y.musts - x.musts := cF (by omega) (by omega)
  have e3 : w64 (x.many - y.many) = x.many - y.many := cF (by omega) (by omega)
  have e4 : w64 (x.player - y.player) = x.player - y.player := cF (by omega) (by omega)
  rw [e1, e2, e3, e4, aOc _ (by simp), Option.bind_some]
  refine ⟨_, rfl, ?_⟩
  simp only [orF]
  split
  ·split
   ·split
    ·split <;> omega
    ·omega
   ·omega
  ·omega
 tot x y _ _ := by unfold leL; omega
 tr x y z _ _ _ h1 h2 := by unfold leL at *; omega
def tV (l : aU) (z : List aG) (w p : Int) : aW := ⟨p, aSl l z p w, zS (kA l z p w), ((kA l z p w).length : Nat)⟩
def sX (l : aU) (z : List aG) (w p : Int) : Bool := !qI l.Bans p w && !decide ((kA l z p w).length = 0)
def bef (l : aU) (z : List aG) (w : Int) (a b : Int) : Prop := ltL (tV l z w a) (tV l z w b)
theorem bef_irr (l : aU) (z : List aG) (w a : Int) : ¬ bef l z w a a := by unfold bef ltL; omega
structure IsList (l : aU) (z : List aG) (w : Int) (out : List Int) : Prop where
 st : out.Pairwise (bef l z w)
 mem : ∀ p, p ∈ out ↔ (0 ≤ p ∧ p < l.Players) ∧ sX l z w p = true
section list
variable {l : aU} {z : List aG} (hl : zX l = true) (hz : ∀ x ∈ z, aAj l.Players x = true) (hst : z.Pairwise fun x y => x.Id < y.Id) (hlen : z.length ≤ 1000) {w : Int} (hw : 0 ≤ w) (hw1 : w ≤ 1000)
include hl hz hlen hw hw1
omit hl hw hw1 in
theorem aUf (p : Int) (hp : 0 ≤ p ∧ p ≤ 100) : aLu (tV l z w p) := by
 have h1 : ∀ r ∈ kA l z p w, 0 ≤ r.Points ∧ r.Points ≤ 2000 := fun r hr => (aBn hz r hr).2
 have h2 := yD (l := aBg l.Counts (kA l z p w)) fun r hr => h1 r (uU hr)
 have h3 := yD (l := (kA l z p w).filter fun r => r.Must) fun r hr => h1 r (uU hr)
 have h4 : (aBg l.Counts (kA l z p w)).length ≤ 1000 := Nat.le_trans (List.length_filter_le _ _) (Nat.le_trans zM hlen)
 have h5 : ((kA l z p w).filter fun r => r.Must).length ≤ 1000 := Nat.le_trans (List.length_filter_le _ _) (Nat.le_trans zM hlen)
 have h6 : (kA l z p w).length ≤ 1000 := Nat.le_trans zM hlen
 unfold aLu tV aSl zS
 simp only
 omega
include hst
omit hw in
theorem aWn (hP : l.Players ≤ 12) : ∃ out, jN (kO l z) w = some out ∧ IsList l z w out := by
 have hf := aHs hl
 obtain ⟨P, hPe⟩ : ∃ P : Nat, l.Players = P := ⟨l.Players.toNat, by omega⟩
 have hfold : ∀ (ps : List Nat) (s : List aW), ps.foldl (fun s p => bif sX l z w (p : Nat) then s ++ [tV l z w (p : Nat)] else s) s = s ++ (ps.filter fun p => sX l z w (p : Nat)).map fun p => tV l z w (p : Nat) := by
  intro ps
  induction ps with
  | nil => intro s; simp
  | cons p ps ih =>
   intro s
   rw [List.foldl_cons, ih]
   cases h : sX l z w (p : Nat) <;> simp [h]
 obtain ⟨lines, hlines⟩ : ∃ lines, lines = ((List.range P).filter fun p => sX l z w (p : Nat)).map fun p => tV l z w (p : Nat) := ⟨_, rfl⟩
 have hll : lines.length ≤ P := by rw [hlines, List.length_map]; exact Nat.le_trans (List.length_filter_le _ _) (by simp)
 have step1 : jN (kO l z) w = oG lines := by
  unfold jN
  have main := sM (fun k i s => fW (kO l z) w l.Players k i s) (List.range P) (fun s p => bif sX l z w (p : Nat) then s ++ [tV l z w (p : Nat)] else s) (fun s => oG s) [] ?_ ?_ BIG (cR (by simp; omega))
  ·refine Eq.trans main ?_
   rw [hfold, hlines]; simp
  ·intro k i hi s hs
   have hi' : i < P := by simpa using hi
   have hlt : decide ((i : Int) < l.Players) = true := decide_eq_true (by omega)
   have hsl : s.length ≤ i := by
    rw [hs, hfold]
    simp only [List.nil_append, List.length_map]
    exact Nat.le_trans (List.length_filter_le _ _) (by simp; omega)
   have haw : qX (kO l z).Ledger.Bans (i : Int) w = some (qI l.Bans (i : Int) w) := aTj _ _ _ (show l.Bans.length ≤ 1000000 by omega)
   have hcl : (kA l z (i : Int) w).length ≤ 1000 := Nat.le_trans zM hlen
   have eg : (List.range P)[i] = i := by simp
   have hdz : decide (((kA l z (i : Int) w).length : Int) = 0) = decide ((kA l z (i : Int) w).length = 0) := by rw [decide_eq_decide]; omega
   simp only [fW, hlt, cond_true, aVt hl hz hlen hw1, haw, Option.bind_some, hG, eg, hdz]
   have hlb : sX l z w (i : Int) = !(qI l.Bans (i : Int) w || decide ((kA l z (i : Int) w).length = 0)) := by unfold sX; cases qI l.Bans (i : Int) w <;> simp
   rw [hlb]
   cases hb : (qI l.Bans (i : Int) w || decide ((kA l z (i : Int) w).length = 0)) with
   | true =>
    simp only [cond_true, Bool.not_true, cond_false, mM, cA (show i < 9223372036854775807 by omega)]
   | false =>
    simp only [cond_false, Bool.not_false, cond_true]
    obtain ⟨t, h1, h2⟩ := aVv (kO l z) (kA l z (i : Int) w) (aRn hst) (aBn hz) hcl (by have := hf.2.1; show 0 ≤ l.Counts ∧ l.Counts ≤ 1000; omega)
    have ht : ∀ r ∈ t, 0 ≤ r.Points ∧ r.Points ≤ 2000 := fun r hr => (aBn hz r (uU (h2.mem_iff.1 hr))).2
    have htl : t.length ≤ 1000 := by rw [h2.length_eq]; exact Nat.le_trans (List.length_filter_le _ _) hcl
    rw [h1, Option.bind_some, aWs t ht (by omega), Option.bind_some, aRe h2]
    obtain ⟨c, hc⟩ : ∃ c, c = kA l z (i : Int) w := ⟨_, rfl⟩
    have hcp : ∀ r ∈ c, 0 ≤ r.Points ∧ r.Points ≤ 2000 := fun r hr => (aBn hz r (hc ▸ hr)).2
    have hmf : ∀ (c : List aG) (x : aW), c.foldl (fun (x : aW) r => bif r.Must then aW.mk x.player x.points (x.musts + r.Points) x.many else x) x = aW.mk x.player x.points (x.musts + zS c) x.many := by
     intro c
     induction c with
     | nil => intro x; simp [zS, sD]
     | cons r c ih =>
      intro x
      rw [List.foldl_cons, ih]
      unfold zS
      rw [List.filter_cons]
      cases r.Must <;> simp [sD] <;> omega
    have inner := sM (fun k2 q x => jO (fW (kO l z) w l.Players k) (kO l z) w l.Players (i : Nat) c (c.length : Int) s k2 q x) c (fun (x : aW) r => bif r.Must then aW.mk x.player x.points (x.musts + r.Points) x.many else x)
     (fun x => qL (fW (kO l z) w l.Players k) (kO l z) w l.Players (i : Nat) s x) (aW.mk (i : Int) (sD (aBg (kO l z).Ledger.Counts (kA l z (i : Int) w))) 0 ((kA l z (i : Int) w).length : Nat)) ?_ ?_ BIG (cR (by rw [hc]; omega))
    ·rw [← hc] at inner ⊢
     refine Eq.trans inner ?_
     rw [hmf]
     unfold qL mM
     rw [nI (by simp; omega), Option.bind_some, cA (by omega)]
     unfold tV aSl
     rw [← hc]
     simp [kO]
    ·intro k2 q hq x hx
     have hlt2 : decide ((q : Int) < (c.length : Int)) = true := decide_eq_true (by omega)
     rw [hmf] at hx
     have h3 := yD (l := (c.take q).filter fun r => r.Must) fun r hr => hcp r (List.mem_of_mem_take (uU hr))
     have h4 := List.length_filter_le (fun r : aG => r.Must) (c.take q)
     have h5 := hcp _ (List.getElem_mem hq)
     have hcl' : c.length ≤ 1000 := hc ▸ hcl
     simp only [List.length_take] at h4
     have hxm : x.musts = 0 + zS (c.take q) := by rw [hx]
     simp only [jO, hlt2, cond_true, cT hq, Option.bind_some, cA (show q < 9223372036854775807 by omega)]
     rw [cF (by rw [hxm]; unfold zS; omega) (by rw [hxm]; unfold zS; omega)]
     cases c[q].Must <;> rfl
    ·intro k2 x
     have hlt2 : decide ((c.length : Int) < (c.length : Int)) = false := decide_eq_false (by omega)
     simp only [jO, hlt2, cond_false]
  ·intro k s
   have hlt : decide ((((List.range P).length : Nat) : Int) < l.Players) = false := decide_eq_false (by simp; omega)
   simp only [fW, hlt, cond_false]
 have hlok : ∀ y ∈ lines, aLu y ∧ y = tV l z w y.player ∧ (0 ≤ y.player ∧ y.player < l.Players) ∧ sX l z w y.player = true := by
  intro y hy
  rw [hlines] at hy
  obtain ⟨p, hp, rfl⟩ := List.mem_map.1 hy
  have h1 := List.mem_filter.1 hp
  have h2 := List.mem_range.1 h1.1
  exact ⟨aUf hz hlen p (by omega), rfl, by show 0 ≤ (p : Int) ∧ (p : Int) < l.Players; omega, h1.2⟩
 obtain ⟨s, hp, hs, hr⟩ := aKi aWm lines (fun y hy => (hlok y hy).1) (by omega)
 have hnd : (lines.map (·.player)).Nodup := by
  rw [hlines, List.map_map]
  have : ((fun y : aW => y.player) ∘ fun p : Nat => tV l z w (p : Nat)) = fun p : Nat => (p : Int) := rfl
  rw [this]
  refine List.Pairwise.map _ (fun a b h => ?_) (List.Pairwise.sublist List.filter_sublist (List.nodup_range (n := P)))
  omega
 have hnd2 : (s.map (·.player)).Nodup := (hp.map _).nodup_iff.2 hnd
 refine ⟨s.map (·.player), ?_, ?_, fun p => ?_⟩
 ·rw [step1]
  unfold oG
  rw [hr, Option.bind_some]
  have hsl : s.length ≤ 12 := by rw [hp.length_eq]; omega
  have hmf : ∀ (t : List aW) (o : List Int), t.foldl (fun o x => o ++ [x.player]) o = o ++ t.map (·.player) := by
   intro t
   induction t with
   | nil => intro o; simp
   | cons x t ih => intro o; rw [List.foldl_cons, ih]; simp
  have main := sM (fun k i o => kS (s.length : Int) s k i o) s (fun o x => o ++ [x.player]) (fun o => some o) [] ?_ ?_ BIG (cR (by omega))
  ·refine Eq.trans main ?_
   rw [hmf]; simp
  ·intro k i hi o ho
   have hlt : decide ((i : Int) < (s.length : Int)) = true := decide_eq_true (by omega)
   have hol : o.length ≤ i := by rw [ho, hmf]; simp; omega
   simp only [kS, hlt, cond_true, cT hi, Option.bind_some, nI (show (o.length + [s[i].player].length) * 8 ≤ 140737488355328 by simp; omega), cA (show i < 9223372036854775807 by omega)]
  ·intro k o
   have hlt : decide ((s.length : Int) < (s.length : Int)) = false := decide_eq_false (by omega)
   simp only [kS, hlt, cond_false, tD]
 ·refine List.pairwise_iff_getElem.2 fun i j hi hj hij => ?_
  simp only [List.length_map] at hi hj
  simp only [List.getElem_map]
  have h1 := List.pairwise_iff_getElem.1 hs i j hi hj hij
  have h2 := hlok _ (hp.mem_iff.1 (List.getElem_mem hi))
  have h3 := hlok _ (hp.mem_iff.1 (List.getElem_mem hj))
  have h4 := List.pairwise_iff_getElem.1 hnd2 i j (by simpa using hi) (by simpa using hj) hij
  simp only [List.getElem_map] at h4
  unfold bef
  rw [← h2.2.1, ← h3.2.1]
  unfold leL at h1
  unfold ltL
  omega
 ·rw [List.mem_map]
  constructor
  ·rintro ⟨y, hy, rfl⟩
   exact (hlok y (hp.mem_iff.1 hy)).2.2
  ·rintro ⟨h1, h2⟩
   obtain ⟨q, rfl⟩ : ∃ q : Nat, p = q := ⟨p.toNat, by omega⟩
   refine ⟨tV l z w (q : Nat), hp.mem_iff.2 ?_, rfl⟩
   rw [hlines]
   exact List.mem_map.2 ⟨q, List.mem_filter.2 ⟨List.mem_range.2 (by omega), h2⟩, rfl⟩
end list
end Go.Am.Rk
end
section
namespace Go.Am.Rk
instance (l : aU) (z : List aG) (w a b : Int) : Decidable (bef l z w a b) := by unfold bef ltL; infer_instance
section list
end list
def dY (l : aU) (z : List aG) (w : Int) : List Int := (jN (kO l z) w).getD []
theorem aNy {l : aU} {z : List aG} (hl : zX l = true) (hz : ∀ x ∈ z, aAj l.Players x = true) (hst : z.Pairwise fun x y => x.Id < y.Id) (hlen : z.length ≤ 1000) {w : Int} (hw : 0 ≤ w) (hw1 : w ≤ 1000) (hP : l.Players ≤ 12) : jN (kO l z) w = some (dY l z w) ∧ IsList l z w (dY l z w) := by
 obtain ⟨out, h1, h2⟩ := aWn hl hz hst hlen hw1 hP
 unfold dY
 rw [h1]
 exact ⟨rfl, h2⟩
theorem GL.list {l : aU} {z : List aG} (h : GL l z) {w : Int} (hw : 0 ≤ w) (hw1 : w ≤ 1000) (hP : l.Players ≤ 12) : jN (kO l z) w = some (dY l z w) ∧ IsList l z w (dY l z w) := aNy h.rest h.reps h.st (Nat.le_trans h.len (by omega)) hw hw1 hP
theorem IsList.len {l : aU} {z : List aG} {w : Int} {out : List Int} (h : IsList l z w out) (hP : l.Players ≤ 16) : out.length ≤ 16 := by
 have hnd : out.Nodup := h.st.imp fun {a b} hb he => by subst he; exact bef_irr _ _ _ _ hb
 have hsub : out ⊆ (List.range 16).map fun n : Nat => (n : Int) := fun x hx => by
  have := (h.mem x).1 hx
  exact List.mem_map.2 ⟨x.toNat, List.mem_range.2 (by omega), by omega⟩
 have hnr : ((List.range 16).map fun n : Nat => (n : Int)).Nodup := List.Pairwise.map _ (fun a b h => by omega) (List.nodup_range (n := 16))
 have hp : out.Perm (((List.range 16).map fun n : Nat => (n : Int)).filter fun x => decide (x ∈ out)) := (List.perm_ext_iff_of_nodup hnd (hnr.sublist List.filter_sublist)).2 fun x => by
  rw [List.mem_filter, decide_eq_true_eq]
  exact ⟨fun hx => ⟨hsub hx, hx⟩, fun hx => hx.2⟩
 rw [hp.length_eq]
 exact Nat.le_trans (List.length_filter_le _ _) (by simp)
def dG (out : List Int) (p : Int) : Int := findI (fun x => decide (p = x)) out + 1
theorem aQw (out : List Int) (p : Int) (hb : out.length ≤ 1000000) : iH out p = some (findI (fun x => decide (p = x)) out) := by
 unfold iH
 refine wV (fun k i => eB out p (out.length : Int) k i) out (fun x => decide (p = x)) (fun k i hi => ?_) (fun k => ?_) BIG (cR (by omega))
 ·have hlt : decide ((i : Int) < (out.length : Int)) = true := decide_eq_true (by omega)
  simp only [eB, hlt, cond_true, cT hi, Option.bind_some, cA (show i < 9223372036854775807 by omega)]
 ·have hlt : decide ((out.length : Int) < (out.length : Int)) = false := decide_eq_false (by omega)
  simp only [eB, hlt, cond_false, mY]
theorem aAe {α : Type} (p : α → Bool) (l : List α) : -1 ≤ findI p l ∧ findI p l < l.length := by unfold findI; split <;> omega
theorem placeI_range (out : List Int) (p : Int) : 0 ≤ dG out p ∧ dG out p ≤ out.length := by unfold dG; have := aAe (fun x => decide (p = x)) out; omega
theorem aUm {l : aU} {z : List aG} (hl : zX l = true) (hz : ∀ x ∈ z, aAj l.Players x = true) (hst : z.Pairwise fun x y => x.Id < y.Id) (hlen : z.length ≤ 1000) {w : Int} (hw : 0 ≤ w) (hw1 : w ≤ 1000) (hP : l.Players ≤ 12) (p : Int) : pS (kO l z) p w = some (dG (dY l z w) p) := by
 obtain ⟨h1, h2⟩ := aNy hl hz hst hlen hw hw1 hP
 have h3 := h2.len (by omega)
 have h4 := aAe (fun x => decide (p = x)) (dY l z w)
 unfold pS
 rw [h1, Option.bind_some, aQw _ _ (by omega), Option.bind_some, cF (by omega) (by omega)]; rfl
end Go.Am.Rk
end
section
namespace Go.Am.Rk
def Bd (l : aU) : Prop := l.Reports.length ≤ 1000 ∧ l.Bans.length ≤ 1000 ∧ l.Frozen.length ≤ 1000
def aDa (l : aU) (p w : Int) : Bool := inB p 0 (l.Players - 1) && inB w 0 400
theorem GL.bd {l : aU} {z : List aG} (h : GL l z) : Bd l := by have := sN h.led; unfold Bd; omega
theorem GL.players {l : aU} {z : List aG} (h : GL l z) : 1 ≤ l.Players ∧ l.Players ≤ 16 := (sN h.led).1
theorem aIx {l : aU} {p w : Int} (h : aDa l p w = true) : (0 ≤ p ∧ p < l.Players) ∧ (0 ≤ w ∧ w ≤ 400) := by
 unfold aDa inB at h
 simp only [Bool.and_eq_true, decide_eq_true_eq] at h
 omega
theorem aVu {l : aU} {z : List aG} (h : GL l z) : xA l = some (some (kO l z), 0) := by
 obtain ⟨h1, h2, h3⟩ := h.bd
 unfold xA
 rw [aVs l (by omega) (by omega) (by omega), Option.bind_some, aRl h, h.once]; rfl
theorem aTi {l : aU} {z : List aG} (h : GL l z) {p w : Int} (ha : aDa l p w = true) : wE l p w = some (some (kO l z), 0) := by
 have hP := h.players
 unfold wE
 rw [aVu h, Option.bind_some]
 have e1 : w64 (l.Players - 1) = l.Players - 1 := cF (by omega) (by omega)
 have e2 : (!(decide (0 ≤ p) && decide (p ≤ l.Players - 1)) || !(decide (0 ≤ w) && decide (w ≤ 400))) = false := by
  have := aIx ha
  rw [Bool.or_eq_false_iff]
  simp; omega
 simp only [aDu, e1, yK, Option.bind_some, hG, e2, cond_false]
 rfl
theorem aJt {l : aU} {z : List aG} (h : GL l z) (hP : l.Players ≤ 12) {w : Int} (hw : 0 ≤ w ∧ w ≤ 400) : qW l w = some (dY l z w, 0) := by
 have hp := h.players
 unfold qW
 rw [aTi h (by unfold aDa inB; simp; omega), Option.bind_some]
 simp only [aDu, decide_true, Bool.not_true, cond_false, (h.list hw.1 (by omega) hP).1, Option.bind_some]
def aDx (n : Int) : Int × Int := bif decide (n = 0) then (0, 3) else (n, 0)
theorem aCe {l : aU} {z : List aG} (h : GL l z) (hP : l.Players ≤ 12) {p w : Int} (ha : aDa l p w = true) : sZ l p w = some (aDx (dG (dY l z w) p)) := by
 have hw := (aIx ha).2
 unfold sZ aDx
 rw [aTi h ha, Option.bind_some]
 simp only [aDu, decide_true, Bool.not_true, cond_false, aUm h.rest h.reps h.st (Nat.le_trans h.len (by omega)) hw.1 (by omega) hP, Option.bind_some]
 cases decide (dG (dY l z w) p = 0) <;> rfl
theorem aJb {l : aU} (h : kJ l = some false) : (l.Reports.length ≤ 60 ∧ l.Bans.length ≤ 20 ∧ l.Frozen.length ≤ 20) ∧ (rJ l = 0 → l.Players ≤ 5 ∧ l.Reports.length ≤ 10 ∧ ∀ r ∈ l.Reports, r.Week ≤ 150) := by
 unfold kJ at h
 rw [hG, Option.bind_some, hG, Option.bind_some] at h
 cases hf : (decide (60 < (l.Reports.length : Int)) || decide (20 < (l.Bans.length : Int)) || decide (20 < (l.Frozen.length : Int))) with
 | true => rw [hf] at h; simp at h
 | false =>
  simp only [Bool.or_eq_false_iff, decide_eq_false_iff_not] at hf
  refine ⟨by omega, fun hc => ?_⟩
  have hf' : (decide (60 < (l.Reports.length : Int)) || decide (20 < (l.Bans.length : Int)) || decide (20 < (l.Frozen.length : Int))) = false := by simp only [Bool.or_eq_false_iff, decide_eq_false_iff_not]; omega
  rw [hf', cond_false, dCheck l (by omega) (by omega) (by omega), Option.bind_some, hc] at h
  simp only [decide_true, Bool.not_true, cond_false] at h
  have main := oC (fun k i => gQ l k i) l.Reports.length (fun i => !(fun r : aG => decide (150 < r.Week)) (l.Reports.getD i default)) (some true) (mH l) (fun k i hi => by
   have hlt : decide ((i : Int) < (l.Reports.length : Int)) = true := decide_eq_true (by omega)
   have ei : l.Reports.getD i default = l.Reports[i] := by simp [List.getD, List.getElem?_eq_getElem hi]
   simp only [gQ, hlt, cond_true, cT hi, Option.bind_some, cA (show i < 9223372036854775807 by omega), ei]
   cases decide (150 < l.Reports[i].Week) <;> rfl) (fun k => by
   have hlt : decide ((l.Reports.length : Int) < (l.Reports.length : Int)) = false := decide_eq_false (by omega)
   simp only [gQ, hlt, cond_false]) BIG (cR (by omega))
  rw [main, aPz l.Reports (fun r : aG => decide (150 < r.Week))] at h
  cases hw : l.Reports.any fun r => decide (150 < r.Week) with
  | true => rw [hw] at h; simp at h
  | false =>
   rw [hw] at h
   unfold mH at h
   simp only [Bool.not_false, cond_true, hG, Option.bind_some, Option.some.injEq, Bool.or_eq_false_iff, decide_eq_false_iff_not] at h
   refine ⟨by omega, by omega, fun r hr => ?_⟩
   have := List.any_eq_false.1 hw r hr
   simp only [decide_eq_true_eq] at this
   omega
theorem aKz (l : aU) (hb : l.Reports.length ≤ 140737488355328 ∧ l.Bans.length ≤ 140737488355328 ∧ l.Frozen.length ≤ 140737488355328) : ∃ b, kJ l = some b := by
 unfold kJ
 rw [hG, Option.bind_some, hG, Option.bind_some]
 cases hf : (decide (60 < (l.Reports.length : Int)) || decide (20 < (l.Bans.length : Int)) || decide (20 < (l.Frozen.length : Int))) with
 | true => exact ⟨true, rfl⟩
 | false =>
  simp only [Bool.or_eq_false_iff, decide_eq_false_iff_not] at hf
  rw [cond_false, dCheck l (by omega) (by omega) (by omega), Option.bind_some]
  cases (!decide (rJ l = 0)) with
  | true => exact ⟨false, rfl⟩
  | false =>
   rw [cond_false]
   have main := oC (fun k i => gQ l k i) l.Reports.length (fun i => !(fun r : aG => decide (150 < r.Week)) (l.Reports.getD i default)) (some true) (mH l) (fun k i hi => by
    have hlt : decide ((i : Int) < (l.Reports.length : Int)) = true := decide_eq_true (by omega)
    have ei : l.Reports.getD i default = l.Reports[i] := by simp [List.getD, List.getElem?_eq_getElem hi]
    simp only [gQ, hlt, cond_true, cT hi, Option.bind_some, cA (show i < 9223372036854775807 by omega), ei]
    cases decide (150 < l.Reports[i].Week) <;> rfl) (fun k => by
    have hlt : decide ((l.Reports.length : Int) < (l.Reports.length : Int)) = false := decide_eq_false (by omega)
    simp only [gQ, hlt, cond_false]) BIG (cR (by omega))
   rw [main]
   unfold mH
   rw [hG, Option.bind_some]
   cases (List.range l.Reports.length).all fun i => !(fun r : aG => decide (150 < r.Week)) (l.Reports.getD i default)
   ·exact ⟨_, rfl⟩
   ·exact ⟨_, rfl⟩
end Go.Am.Rk
end
