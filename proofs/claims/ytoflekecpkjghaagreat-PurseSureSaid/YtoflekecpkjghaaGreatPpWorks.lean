/- Plain laws, one behind the other. -/
import Derived.Test.YtoflekecpkjghaaGreatPgSh
import Derived.Test.YtoflekecpkjghaaGreatAmPlain
import Derived.Test.YtoflekecpkjghaaGreatBkDet
import Derived.KernelRfl
section
namespace Go.Am
section lists
variable {α : Type}
theorem oH {A : List α} {x : α} {B : List α} {p : Int} (h : p = (A.length : Int)) : idx (A ++ x :: B) p = some x := by
 subst h; rw [bM (by simp)]; simp
theorem aAt {A : List α} {x y : α} {B : List α} {p : Nat} (h : p = A.length) : (A ++ x :: B).set p y = A ++ y :: B := by
 subst h; simp
theorem uQ {A : List α} {x y : α} {B : List α} {p : Int} (h : p = ((A.length + 1 : Nat) : Int)) : idx (A ++ x :: y :: B) p = some y := by
 have : A ++ x :: y :: B = (A ++ [x]) ++ y :: B := by simp
 rw [this, oH (by simp [h])]
theorem aKh {A : List α} {x y z : α} {B : List α} {p : Nat} (h : p = A.length + 1) : (A ++ x :: y :: B).set p z = A ++ x :: z :: B := by
 have : A ++ x :: y :: B = (A ++ [x]) ++ y :: B := by simp
 rw [this, aAt (by simp [h])]; simp
theorem aEj (L : List α) : L = [] ∨ ∃ A x, L = A ++ [x] := by
 rcases List.eq_nil_or_concat L with h | ⟨A, x, h⟩
 ·exact .inl h
 ·exact .inr ⟨A, x, by simpa using h⟩
end lists
structure vE {α : Type} (cmp : α → α → Option Int) (ok : α → Prop) (le : α → α → Prop) : Prop where
 run : ∀ x y, ok x → ok y → ∃ n, cmp x y = some n ∧ (n < 0 ↔ ¬ le y x)
 tot : ∀ x y, ok x → ok y → le x y ∨ le y x
 tr : ∀ x y z, ok x → ok y → ok z → le x y → le y z → le x z
section sorted
variable {α : Type} {ok : α → Prop} {le : α → α → Prop} {cmp : α → α → Option Int}
theorem aTw (hc : vE cmp ok le) {x : α} (hx : ok x) {L1 L2 : List α} (hs : (L1 ++ L2).Pairwise le) (hok : ∀ y ∈ L1 ++ L2, ok y) (h2 : ∀ y ∈ L2, ¬ le y x) (h1 : ∀ y, L1.getLast? = some y → le y x) : (L1 ++ x :: L2).Pairwise le := by
 have hp := List.pairwise_append.1 hs
 refine List.pairwise_append.2 ⟨hp.1, List.pairwise_cons.2 ⟨fun y hy => ?_, hp.2.1⟩, fun y hy z hz => ?_⟩
 ·exact (hc.tot x y hx (hok y (by simp [hy]))).resolve_right (h2 y hy)
 ·rcases List.mem_cons.1 hz with rfl | hz
  ·rcases aEj L1 with rfl | ⟨A, q, rfl⟩
   ·cases hy
   ·have hq := h1 q (by simp)
    rcases List.mem_append.1 hy with h | h
    ·have := (List.pairwise_append.1 hp.1).2.2 y h q (by simp)
     exact hc.tr y q _ (hok y (by simp [h])) (hok q (by simp)) hx this hq
    ·simp at h; subst h; exact hq
  ·exact hp.2.2 y hy z hz
end sorted
section insertion
variable {cmp : aI → aI → Option Int} {ok : aI → Prop} {le : aI → aI → Prop}
theorem aUq (hc : vE cmp ok le) (again : Int → List aI → Option (List aI)) {a b i : Int} {P : List aI} (ha : a = P.length) (x : aI) (hx : ok x) :
  ∀ (n : Nat) (L R : List aI) (k : Nat), L.length = n → (∀ y ∈ L, ok y) → n < k → (P ++ L).length < 4611686018427387904 →
   ∃ L1 L2, L = L1 ++ L2 ∧ (∀ y ∈ L2, ¬ le y x) ∧ (∀ y, L1.getLast? = some y → le y x) ∧
    cR again a b cmp i k ((P ++ L).length : Nat) (P ++ L ++ x :: R) = again (w64 (i + 1)) (P ++ (L1 ++ x :: L2) ++ R) := by
 intro n
 induction n with
 | zero =>
  intro L R k hl hok hk hb
  have : L = [] := List.length_eq_zero_iff.1 hl
  subst this
  obtain ⟨k, rfl⟩ : ∃ q, k = q + 1 := ⟨k - 1, by omega⟩
  refine ⟨[], [], rfl, by simp, by simp, ?_⟩
  simp only [cR, ha, List.append_nil, Int.lt_irrefl, decide_false, cond_false, Option.bind_some, gD, gC, List.nil_append]
  simp
 | succ n ih =>
  intro L R k hl hok hk hb
  obtain ⟨k, rfl⟩ : ∃ q, k = q + 1 := ⟨k - 1, by omega⟩
  rcases aEj L with rfl | ⟨L', y, rfl⟩
  ·simp at hl
  simp only [List.length_append, List.length_singleton] at hl hb
  have hoy : ok y := hok y (by simp)
  have hA : P ++ (L' ++ [y]) ++ x :: R = (P ++ L') ++ y :: x :: R := by simp
  have hj : ((P ++ (L' ++ [y])).length : Nat) = (P ++ L').length + 1 := by simp [Nat.add_assoc]
  have hAl : (P ++ L').length = P.length + L'.length := by simp
  have hlt : decide (a < (((P ++ L').length + 1 : Nat) : Int)) = true := decide_eq_true (by omega)
  have hw : w64 ((((P ++ L').length + 1 : Nat) : Int) - 1) = ((P ++ L').length : Int) := by rw [bW (by omega) (by omega)]; omega
  obtain ⟨r, hr, hlr⟩ := hc.run x y hx hoy
  rw [hA, hj]
  by_cases h : r < 0
  ·obtain ⟨L1, L2, rfl, h2, h1, he⟩ := ih L' (y :: R) k (by omega) (fun z hz => hok z (by simp [hz])) (by omega) (by omega)
   refine ⟨L1, L2 ++ [y], by simp, fun z hz => ?_, h1, ?_⟩
   ·rcases List.mem_append.1 hz with hz | hz
    ·exact h2 z hz
    ·simp at hz; subst hz; exact hlr.1 h
   ·simp only [cR, hlt, cond_true, uQ rfl, hw, oH rfl, Option.bind_some, hr, decide_eq_true h]
    have hn : (((P ++ (L1 ++ L2)).length + 1 : Nat) : Int).toNat = (P ++ (L1 ++ L2)).length + 1 := rfl
    have hn2 : (((P ++ (L1 ++ L2)).length : Nat) : Int).toNat = (P ++ (L1 ++ L2)).length := rfl
    rw [hn, hn2, aKh rfl, oH rfl, Option.bind_some, aAt rfl, he]
    simp
  ·refine ⟨L' ++ [y], [], by simp, by simp, fun z hz => ?_, ?_⟩
   ·simp at hz; subst hz; exact Classical.byContradiction fun hn => h (hlr.2 hn)
   ·simp only [cR, hlt, cond_true, uQ rfl, hw, oH rfl, Option.bind_some, hr, decide_eq_false h, cond_false, gD, gC]
    simp
theorem aDh (hc : vE cmp ok le) (P M S : List aI) (hok : ∀ y ∈ M, ok y) (hb : (P ++ M).length < 4611686018427387904) :
  ∃ M', M'.Perm M ∧ M'.Pairwise le ∧ dG (P ++ M ++ S) (P.length : Nat) ((P ++ M).length : Nat) cmp = some (P ++ M' ++ S) := by
 have main : ∀ (n : Nat) (L R : List aI) (k : Nat), R.length = n → n < k → (∀ y ∈ L ++ R, ok y) → (P ++ L ++ R).length < 4611686018427387904 → L.Pairwise le →
   ∃ M', M'.Perm (L ++ R) ∧ M'.Pairwise le ∧ cF (P.length : Nat) ((P ++ L ++ R).length : Nat) cmp k ((P ++ L).length : Nat) (P ++ L ++ R ++ S) = some (P ++ M' ++ S) := by
  intro n
  induction n with
  | zero =>
   intro L R k hl hk hok hb hs
   have : R = [] := List.length_eq_zero_iff.1 hl
   subst this
   obtain ⟨k, rfl⟩ : ∃ q, k = q + 1 := ⟨k - 1, by omega⟩
   refine ⟨L, by simp, hs, ?_⟩
   simp [cF, gB]
  | succ n ih =>
   intro L R k hl hk hok hb hs
   obtain ⟨k, rfl⟩ : ∃ q, k = q + 1 := ⟨k - 1, by omega⟩
   match R, hl with
   | x :: R, hl =>
    simp only [List.length_cons] at hl
    have hbl : (P ++ L ++ x :: R).length = P.length + L.length + (R.length + 1) := by simp [Nat.add_assoc]
    have hox : ok x := hok x (by simp)
    obtain ⟨L1, L2, rfl, h2, h1, he⟩ := aUq hc (cF (P.length : Nat) ((P ++ L ++ x :: R).length : Nat) cmp k) (b := ((P ++ L ++ x :: R).length : Nat)) (i := ((P ++ L).length : Nat)) (a := (P.length : Nat)) rfl x hox L.length L (R ++ S) BIG rfl
     (fun y hy => hok y (by simp [hy])) (cE (by omega)) (by simp only [List.length_append]; omega)
    have hlt : decide (((P ++ (L1 ++ L2)).length : Int) < ((P ++ (L1 ++ L2) ++ x :: R).length : Int)) = true := decide_eq_true (by simp only [List.length_append, List.length_cons]; omega)
    obtain ⟨M', hp, hss, hr⟩ := ih (L1 ++ x :: L2) R k (by omega) (by omega) (fun y hy => hok y (by
      simp only [List.mem_append, List.mem_cons] at hy ⊢
      rcases hy with (h | h | h) | h <;> simp [h])) (by simp only [List.length_append, List.length_cons] at hb ⊢; omega)
      (aTw hc hox hs (fun y hy => hok y (by simp only [List.mem_append] at hy ⊢; exact .inl hy)) h2 h1)
    refine ⟨M', hp.trans ?_, hss, ?_⟩
    ·have : ((L1 ++ x :: L2) ++ R).Perm (L1 ++ L2 ++ x :: R) := by
      rw [List.append_assoc, List.append_assoc, List.cons_append]
      exact List.Perm.append_left _ (List.perm_middle.symm)
     exact this
    ·simp only [cF, hlt, cond_true]
     have e1 : P ++ (L1 ++ L2) ++ x :: R ++ S = P ++ (L1 ++ L2) ++ x :: (R ++ S) := by simp
     rw [e1, he, bH (by simp only [List.length_append, List.length_cons] at hb ⊢; omega)]
     have e2 : ((P ++ (L1 ++ L2) ++ x :: R).length : Nat) = (P ++ (L1 ++ x :: L2) ++ R).length := by simp only [List.length_append, List.length_cons]; omega
     have e3 : ((P ++ (L1 ++ L2)).length + 1 : Nat) = (P ++ (L1 ++ x :: L2)).length := by simp only [List.length_append, List.length_cons]; omega
     rw [e2, e3]
     have e4 : P ++ (L1 ++ x :: L2) ++ (R ++ S) = P ++ (L1 ++ x :: L2) ++ R ++ S := by simp
     rw [e4]
     exact hr
 match M, hok, hb with
 | [], hok, hb =>
  refine ⟨[], .refl _, .nil, ?_⟩
  have hlt : decide (((P.length + 1 : Nat) : Int) < (P.length : Int)) = false := decide_eq_false (by omega)
  unfold dG
  simp only [List.append_nil] at hb ⊢
  rw [aWe, bH (by omega)]
  generalize 18446744073709551615 = kk
  simp only [cF, hlt, cond_false, gB]
 | x :: M, hok, hb =>
  simp only [List.length_append, List.length_cons] at hb
  obtain ⟨M', h1, h2, h3⟩ := main M.length [x] M BIG rfl (cE (by omega)) (fun y hy => hok y (by simpa using hy)) (by simp only [List.length_append, List.length_cons, List.length_nil]; omega) (List.pairwise_singleton _ _)
  refine ⟨M', by simpa using h1, h2, ?_⟩
  unfold dG
  rw [bH (by omega)]
  have e1 : (P ++ [x]).length = P.length + 1 := by simp
  have e2 : P ++ [x] ++ M = P ++ x :: M := by simp
  rw [e1, e2] at h3
  exact h3
end insertion
end Go.Am
end
section
namespace Go.Am
section lists
variable {α : Type}
theorem aSf {A : List α} {u : α} {B : List α} {v : α} {C : List α} {p : Int} (h : p = ((A.length + 1 + B.length : Nat) : Int)) : idx (A ++ u :: (B ++ v :: C)) p = some v := by
 have : A ++ u :: (B ++ v :: C) = (A ++ u :: B) ++ v :: C := by simp
 rw [this, oH (by rw [h]; simp; omega)]
theorem aZh {A : List α} {u : α} {B : List α} {v w : α} {C : List α} {p : Nat} (h : p = A.length + 1 + B.length) : (A ++ u :: (B ++ v :: C)).set p w = A ++ u :: (B ++ w :: C) := by
 have : A ++ u :: (B ++ v :: C) = (A ++ u :: B) ++ v :: C := by simp
 rw [this, aAt (by rw [h]; simp; omega)]; simp
theorem yM {i j : Nat} (h : i + j < 4611686018427387904) : w64 ((IntKind.u64.wrap (w64 ((i : Int) + (j : Int)))).fdiv (2 ^ (min (1 : Int).toNat 64))) = (((i + j) / 2 : Nat) : Int) := by
 have e1 : w64 ((i : Int) + (j : Int)) = ((i + j : Nat) : Int) := by rw [bW (by omega) (by omega)]; omega
 have e2 : IntKind.u64.wrap ((i + j : Nat) : Int) = ((i + j : Nat) : Int) := by
  simp only [IntKind.wrap, IntKind.signed, IntKind.bits]
  simp
  omega
 have e3 : (2 : Int) ^ (min (1 : Int).toNat 64) = 2 := by decide
 rw [e1, e2, e3, Int.fdiv_eq_ediv_of_nonneg _ (by omega), bW (by omega) (by omega)]
 omega
theorem aMf {T : Type} (F : Nat → Int → Int → T) (K : Int → T) (good : Nat → Prop) (lo hi : Nat) (hstep : ∀ k (i j : Nat), lo ≤ i → i < j → j ≤ hi → (good ((i + j) / 2) ∧ F (k + 1) i j = F k (((i + j) / 2 + 1 : Nat) : Int) j) ∨ (¬ good ((i + j) / 2) ∧ F (k + 1) i j = F k i (((i + j) / 2 : Nat) : Int)))
  (hstop : ∀ k (i : Nat), F (k + 1) i i = K i) (mono : ∀ x y, lo ≤ x → x ≤ y → y < hi → good y → good x) (hlh : lo ≤ hi) {k : Nat} (hk : hi - lo < k) :
  ∃ r : Nat, lo ≤ r ∧ r ≤ hi ∧ F k lo hi = K r ∧ (∀ x, lo ≤ x → x < r → good x) ∧ (∀ x, r ≤ x → x < hi → ¬ good x) := by
 have main : ∀ (d : Nat) (i j : Nat) (k : Nat), j - i = d → d < k → lo ≤ i → i ≤ j → j ≤ hi → (∀ x, lo ≤ x → x < i → good x) → (∀ x, j ≤ x → x < hi → ¬ good x) →
   ∃ r : Nat, lo ≤ r ∧ r ≤ hi ∧ F k i j = K r ∧ (∀ x, lo ≤ x → x < r → good x) ∧ (∀ x, r ≤ x → x < hi → ¬ good x) := by
  intro d
  induction d using Nat.strongRecOn with
  | _ d ih =>
   intro i j k hd hk h1 h2 h3 h4 h5
   obtain ⟨k, rfl⟩ : ∃ q, k = q + 1 := ⟨k - 1, by omega⟩
   rcases Nat.eq_or_lt_of_le h2 with rfl | hlt
   ·exact ⟨i, h1, h3, hstop k i, h4, h5⟩
   ·rcases hstep k i j h1 hlt h3 with ⟨hg, he⟩ | ⟨hg, he⟩
    ·rw [he]
     refine ih (j - ((i + j) / 2 + 1)) (by omega) _ j k rfl (by omega) (by omega) (by omega) h3 (fun x hx hxr => ?_) h5
     exact mono x ((i + j) / 2) hx (by omega) (by omega) hg
    ·rw [he]
     refine ih ((i + j) / 2 - i) (by omega) i _ k rfl (by omega) h1 (by omega) (by omega) h4 fun x hx hxr hgx => ?_
     exact hg (mono _ x (by omega) hx hxr hgx)
 exact main _ lo hi k rfl hk (Nat.le_refl _) hlh (Nat.le_refl _) (fun x h1 h2 => by omega) (fun x h1 h2 => by omega)
end lists
section rotate
variable {cmp : aI → aI → Option Int}
theorem yO (P U Q V S : List aI) (hl : U.length = V.length) (hb : (P ++ U ++ Q ++ V ++ S).length < 4611686018427387904) :
  eF (P ++ U ++ Q ++ V ++ S) (P.length : Nat) ((P ++ U ++ Q).length : Nat) (U.length : Nat) cmp = some (P ++ V ++ Q ++ U ++ S) := by
 have main : ∀ (n : Nat) (U1 U2 V1 V2 : List aI) (k : Nat), U2.length = n → V2.length = n → U1.length = V1.length → n < k → (P ++ U1 ++ U2 ++ Q ++ V1 ++ V2).length < 4611686018427387904 →
   dQ (P.length : Nat) ((P.length + (U1.length + U2.length) + Q.length : Nat) : Int) ((U1.length + U2.length : Nat) : Int) k (U1.length : Nat) (P ++ V1 ++ U2 ++ Q ++ U1 ++ V2 ++ S) = some (P ++ (V1 ++ V2) ++ Q ++ (U1 ++ U2) ++ S) := by
  intro n
  induction n with
  | zero =>
   intro U1 U2 V1 V2 k h1 h2 h3 hk hb
   have : U2 = [] := List.length_eq_zero_iff.1 h1
   subst this
   have : V2 = [] := List.length_eq_zero_iff.1 h2
   subst this
   obtain ⟨k, rfl⟩ : ∃ q, k = q + 1 := ⟨k - 1, by omega⟩
   simp [dQ, kC]
  | succ n ih =>
   intro U1 U2 V1 V2 k h1 h2 h3 hk hb
   obtain ⟨k, rfl⟩ : ∃ q, k = q + 1 := ⟨k - 1, by omega⟩
   match U2, h1, V2, h2 with
   | u :: U2, h1, v :: V2, h2 =>
    simp only [List.length_cons] at h1 h2
    simp only [List.length_append, List.length_cons] at hb
    have hlt : decide ((U1.length : Int) < ((U1.length + (u :: U2).length : Nat) : Int)) = true := decide_eq_true (by simp only [List.length_cons]; omega)
    have ea : w64 ((P.length : Int) + (U1.length : Int)) = (((P ++ V1).length : Nat) : Int) := by rw [bW (by omega) (by omega)]; simp only [List.length_append]; omega
    have eb : w64 (((P.length + (U1.length + (u :: U2).length) + Q.length : Nat) : Int) + (U1.length : Int)) = (((P ++ V1).length + 1 + (U2 ++ Q ++ U1).length : Nat) : Int) := by
     rw [bW (by omega) (by simp only [List.length_cons]; omega)]; simp only [List.length_append, List.length_cons]; omega
    have ed : P ++ V1 ++ u :: U2 ++ Q ++ U1 ++ v :: V2 ++ S = (P ++ V1) ++ u :: ((U2 ++ Q ++ U1) ++ v :: (V2 ++ S)) := by simp
    rw [ed]
    simp only [dQ, hlt, cond_true, ea, eb, aSf rfl, oH rfl, Option.bind_some]
    have t1 : (((P ++ V1).length : Nat) : Int).toNat = (P ++ V1).length := rfl
    have t2 : (((P ++ V1).length + 1 + (U2 ++ Q ++ U1).length : Nat) : Int).toNat = (P ++ V1).length + 1 + (U2 ++ Q ++ U1).length := rfl
    rw [t1, t2, aAt rfl, aSf rfl, Option.bind_some, aZh rfl, bH (by omega)]
    have := ih (U1 ++ [u]) U2 (V1 ++ [v]) V2 k (by omega) (by omega) (by simp [h3]) (by omega) (by simp only [List.length_append, List.length_cons, List.length_nil]; omega)
    have e1 : (U1 ++ [u]).length + U2.length = U1.length + (u :: U2).length := by simp; omega
    have e2 : (U1 ++ [u]).length = U1.length + 1 := by simp
    rw [e1, e2] at this
    have e3 : P ++ (V1 ++ [v]) ++ U2 ++ Q ++ (U1 ++ [u]) ++ V2 ++ S = (P ++ V1) ++ v :: ((U2 ++ Q ++ U1) ++ u :: (V2 ++ S)) := by simp
    rw [e3] at this
    rw [this]
    simp
 unfold eF
 simp only [List.length_append] at hb
 have := main U.length [] U [] V BIG rfl hl.symm rfl (cE (by omega)) (by simp only [List.length_append, List.length_nil]; omega)
 simp only [List.append_nil, List.nil_append, List.length_nil, Nat.zero_add] at this
 simp only [List.length_append]
 exact this
theorem aRl (P U V S : List aI) (hu : U ≠ []) (hv : V ≠ []) (hb : (P ++ U ++ V ++ S).length < 4611686018427387904) :
  fN (P ++ U ++ V ++ S) (P.length : Nat) ((P ++ U).length : Nat) ((P ++ U ++ V).length : Nat) cmp = some (P ++ V ++ U ++ S) := by
 have main : ∀ (d : Nat) (P U V S : List aI) (k : Nat), U.length + V.length = d → d < k → 0 < U.length → 0 < V.length → (P ++ U ++ V ++ S).length < 4611686018427387904 →
   cY ((P.length + U.length : Nat) : Int) cmp k (U.length : Nat) (V.length : Nat) (P ++ U ++ V ++ S) = some (P ++ V ++ U ++ S) := by
  intro d
  induction d using Nat.strongRecOn with
  | _ d ih =>
   intro P U V S k hd hk hu hv hb
   obtain ⟨k, rfl⟩ : ∃ q, k = q + 1 := ⟨k - 1, by omega⟩
   simp only [List.length_append] at hb
   have em : w64 (((P.length + U.length : Nat) : Int) - (U.length : Int)) = (P.length : Int) := by rw [bW (by omega) (by omega)]; omega
   by_cases h1 : U.length = V.length
   ·have hd : (!decide ((U.length : Int) = (V.length : Int))) = false := by rw [decide_eq_true (by omega)]; rfl
    simp only [cY, hd, cond_false, lI, em]
    have := yO (cmp := cmp) P U [] V S h1 (by simp only [List.length_append, List.length_nil]; omega)
    simp only [List.append_nil, List.length_append] at this
    rw [this]; rfl
   ·have hd' : (!decide ((U.length : Int) = (V.length : Int))) = true := by rw [decide_eq_false (by omega)]; rfl
    by_cases h2 : V.length < U.length
    ·obtain ⟨U1, U2, rfl, hl1⟩ : ∃ U1 U2, U = U1 ++ U2 ∧ U1.length = V.length := ⟨U.take V.length, U.drop V.length, by simp, by simp; omega⟩
     simp only [List.length_append] at h1 h2 hd hu hb em hd'
     have hlt : decide ((V.length : Int) < ((U1.length + U2.length : Nat) : Int)) = true := decide_eq_true (by omega)
     simp only [cY, List.length_append, hd', cond_true, hlt, em]
     have sw := yO (cmp := cmp) P U1 U2 V S hl1 (by simp only [List.length_append]; omega)
     simp only [List.length_append] at sw
     have e1 : P ++ (U1 ++ U2) ++ V ++ S = P ++ U1 ++ U2 ++ V ++ S := by simp
     rw [e1, show P.length + (U1.length + U2.length) = P.length + U1.length + U2.length by omega, ← hl1, sw, Option.bind_some]
     have hw : w64 (((U1.length + U2.length : Nat) : Int) - (U1.length : Int)) = (U2.length : Int) := by rw [bW (by omega) (by omega)]; omega
     rw [hw]
     have := ih (U2.length + U1.length) (by omega) (P ++ V) U2 U1 S k rfl (by omega) (by omega) (by omega) (by simp only [List.length_append]; omega)
     simp only [List.length_append] at this
     rw [show P.length + V.length + U2.length = P.length + U1.length + U2.length by omega] at this
     rw [this]; simp
    ·obtain ⟨V1, V2, rfl, hl2⟩ : ∃ V1 V2, V = V1 ++ V2 ∧ V2.length = U.length := ⟨V.take (V.length - U.length), V.drop (V.length - U.length), by simp, by simp; omega⟩
     simp only [List.length_append] at h1 h2 hd hv hb hd'
     have hlt : decide (((V1.length + V2.length : Nat) : Int) < (U.length : Int)) = false := decide_eq_false (by omega)
     have hw1 : w64 (((P.length + U.length : Nat) : Int) + ((V1.length + V2.length : Nat) : Int)) = ((P.length + U.length + (V1.length + V2.length) : Nat) : Int) := by rw [bW (by omega) (by omega)]; omega
     have hw2 : w64 (((P.length + U.length + (V1.length + V2.length) : Nat) : Int) - (U.length : Int)) = ((P.length + U.length + V1.length : Nat) : Int) := by rw [bW (by omega) (by omega)]; omega
     have hw3 : w64 (((V1.length + V2.length : Nat) : Int) - (U.length : Int)) = (V1.length : Int) := by rw [bW (by omega) (by omega)]; omega
     simp only [cY, List.length_append, hd', cond_true, hlt, cond_false, em, hw1, hw2, hw3]
     have sw := yO (cmp := cmp) P U V1 V2 S hl2.symm (by simp only [List.length_append]; omega)
     simp only [List.length_append] at sw
     have e1 : P ++ U ++ (V1 ++ V2) ++ S = P ++ U ++ V1 ++ V2 ++ S := by simp
     rw [e1, sw, Option.bind_some]
     have := ih (V2.length + V1.length) (by omega) P V2 V1 (U ++ S) k rfl (by omega) (by omega) (by omega) (by simp only [List.length_append]; omega)
     rw [hl2] at this
     have e2 : P ++ V2 ++ V1 ++ U ++ S = P ++ V2 ++ V1 ++ (U ++ S) := by simp
     rw [e2, this]; simp
 have hu' : 0 < U.length := List.length_pos_iff.2 hu
 have hv' : 0 < V.length := List.length_pos_iff.2 hv
 unfold fN
 simp only [List.length_append] at hb ⊢
 have e1 : w64 (((P.length + U.length : Nat) : Int) - (P.length : Int)) = (U.length : Int) := by rw [bW (by omega) (by omega)]; omega
 have e2 : w64 (((P.length + U.length + V.length : Nat) : Int) - ((P.length + U.length : Nat) : Int)) = (V.length : Int) := by rw [bW (by omega) (by omega)]; omega
 rw [e1, e2]
 exact main _ P U V S BIG rfl (cE (by omega)) hu' hv' (by simp only [List.length_append]; omega)
end rotate
end Go.Am
end
section
namespace Go.Am
section shift
variable {cmp : aI → aI → Option Int}
theorem aRt (again : List aI → Int → Int → Int → Option (List aI)) {i : Nat} (x : aI) (R : List aI) : ∀ (V A : List aI) (k : Nat), A.length + V.length + 1 = i → i < 4611686018427387904 → V.length < k →
  dT again (i : Nat) k (A.length : Nat) (A ++ x :: (V ++ R)) = some (A ++ V ++ x :: R) := by
 intro V
 induction V with
 | nil =>
  intro A k h1 h2 hk
  obtain ⟨k, rfl⟩ : ∃ q, k = q + 1 := ⟨k - 1, by omega⟩
  have hw : w64 ((i : Int) - 1) = (A.length : Int) := by rw [bW (by omega) (by omega)]; simp at h1; omega
  simp [dT, hw, kK]
 | cons v V ih =>
  intro A k h1 h2 hk
  obtain ⟨k, rfl⟩ : ∃ q, k = q + 1 := ⟨k - 1, by omega⟩
  simp only [List.length_cons] at h1 hk
  have hw : w64 ((i : Int) - 1) = ((i - 1 : Nat) : Int) := by rw [bW (by omega) (by omega)]; omega
  have hlt : decide ((A.length : Int) < ((i - 1 : Nat) : Int)) = true := decide_eq_true (by omega)
  have hw1 : w64 ((A.length : Int) + 1) = ((A.length + 1 : Nat) : Int) := bH (by omega)
  have e1 : A ++ x :: (v :: V ++ R) = A ++ x :: v :: (V ++ R) := by simp
  have t1 : ((A.length : Nat) : Int).toNat = A.length := rfl
  have t2 : ((A.length + 1 : Nat) : Int).toNat = A.length + 1 := rfl
  simp only [dT, hw, hlt, cond_true, hw1, e1, uQ rfl, oH rfl, Option.bind_some, t1, t2, aAt rfl, aKh rfl]
  have := ih (A ++ [v]) k (by simp; omega) h2 (by omega)
  simp only [List.length_append, List.length_singleton] at this
  have e2 : (A ++ [v]) ++ x :: (V ++ R) = A ++ v :: x :: (V ++ R) := by simp
  rw [e2] at this
  rw [this]; simp
theorem aRs (again : List aI → Int → Int → Int → Option (List aI)) {i : Nat} (y : aI) (A : List aI) (hi : i = A.length) : ∀ (n : Nat) (U R : List aI) (k : Nat), U.length = n → (A ++ U).length < 4611686018427387904 → n < k →
  dW again (i : Nat) k ((A ++ U).length : Nat) (A ++ U ++ y :: R) = some (A ++ y :: (U ++ R)) := by
 subst hi
 intro n
 induction n with
 | zero =>
  intro U R k h1 h2 hk
  have : U = [] := List.length_eq_zero_iff.1 h1
  subst this
  obtain ⟨k, rfl⟩ : ∃ q, k = q + 1 := ⟨k - 1, by omega⟩
  simp [dW, kL]
 | succ n ih =>
  intro U R k h1 h2 hk
  obtain ⟨k, rfl⟩ : ∃ q, k = q + 1 := ⟨k - 1, by omega⟩
  rcases aEj U with rfl | ⟨U', u, rfl⟩
  ·simp at h1
  simp only [List.length_append, List.length_singleton] at h1 h2
  have hA : A ++ (U' ++ [u]) ++ y :: R = (A ++ U') ++ u :: y :: R := by simp
  have hj : ((A ++ (U' ++ [u])).length : Nat) = (A ++ U').length + 1 := by simp; omega
  have hlt : decide ((A.length : Int) < (((A ++ U').length + 1 : Nat) : Int)) = true := decide_eq_true (by simp only [List.length_append]; omega)
  have hw : w64 ((((A ++ U').length + 1 : Nat) : Int) - 1) = ((A ++ U').length : Int) := by rw [bW (by simp only [List.length_append]; omega) (by simp only [List.length_append]; omega)]; omega
  have t1 : (((A ++ U').length : Nat) : Int).toNat = (A ++ U').length := rfl
  have t2 : (((A ++ U').length + 1 : Nat) : Int).toNat = (A ++ U').length + 1 := rfl
  rw [hA, hj]
  simp only [dW, hlt, cond_true, hw, oH rfl, uQ rfl, Option.bind_some, t1, t2, aKh rfl, aAt rfl]
  rw [ih U' (u :: R) k (by omega) (by simp only [List.length_append]; omega) (by omega)]
  simp
end shift
section merge
variable {cmp : aI → aI → Option Int} {ok : aI → Prop} {le : aI → aI → Prop}
theorem qO (hc : vE cmp ok le) {L : List aI} (hs : L.Pairwise le) (hok : ∀ y ∈ L, ok y) {i j : Nat} (hij : i ≤ j) (hj : j < L.length) : le (L[i]'(by omega)) L[j] := by
 rcases Nat.eq_or_lt_of_le hij with rfl | h
 ·have h1 := hok L[i] (List.getElem_mem _)
  exact (hc.tot _ _ h1 h1).elim id id
 ·exact List.pairwise_iff_getElem.1 hs i j (by omega) hj h
def aGa (ok : aI → Prop) (le : aI → aI → Prop) (f : List aI → Int → Int → Int → Option (List aI)) (N : Nat) : Prop :=
 ∀ (P U V S : List aI), U.length + V.length < N → 0 < U.length → 0 < V.length → (∀ y ∈ U ++ V, ok y) → U.Pairwise le → V.Pairwise le → (P ++ U ++ V ++ S).length < 1152921504606846976 →
  ∃ W, W.Perm (U ++ V) ∧ W.Pairwise le ∧ f (P ++ U ++ V ++ S) (P.length : Nat) ((P ++ U).length : Nat) ((P ++ U ++ V).length : Nat) = some (P ++ W ++ S)
theorem aTi (hc : vE cmp ok le) (again : List aI → Int → Int → Int → Option (List aI)) (P : List aI) (x : aI) (V S : List aI) (hok : ∀ y ∈ x :: V, ok y) (hs : V.Pairwise le) (hb : (P ++ x :: V ++ S).length < 1152921504606846976) :
  ∃ W, W.Perm (x :: V) ∧ W.Pairwise le ∧ cO again (P.length : Nat) cmp (P ++ x :: V ++ S) BIG ((P.length + 1 : Nat) : Int) ((P.length + 1 + V.length : Nat) : Int) = some (P ++ W ++ S) := by
 simp only [List.length_append, List.length_cons] at hb
 have hox := hok x (by simp)
 have hdat : ∀ t (ht : t < V.length), idx (P ++ x :: V ++ S) ((P.length + 1 + t : Nat) : Int) = some V[t] := by
  intro t ht
  rw [bM (by simp; omega)]
  simp only [Option.some.injEq]
  rw [List.getElem_append_left (by simp; omega), List.getElem_append_right (by omega)]
  simp only [show P.length + 1 + t - P.length = t + 1 by omega, List.getElem_cons_succ]
 have hdx : idx (P ++ x :: V ++ S) (P.length : Nat) = some x := by
  have : P ++ x :: V ++ S = P ++ x :: (V ++ S) := by simp
  rw [this, oH rfl]
 have hbs := aMf (fun k i j => cO again (P.length : Nat) cmp (P ++ x :: V ++ S) k i j) (fun i => iL again (P.length : Nat) i (P ++ x :: V ++ S))
  (fun h => ∀ v, V[h - (P.length + 1)]? = some v → ¬ le x v) (P.length + 1) (P.length + 1 + V.length) (k := BIG) ?_ ?_ ?_ (by omega) (cE (by omega))
 ·obtain ⟨r, h1, h2, h3, h4, h5⟩ := hbs
  obtain ⟨t, rfl⟩ : ∃ t, r = P.length + 1 + t := ⟨r - (P.length + 1), by omega⟩
  have htl : t ≤ V.length := by omega
  refine ⟨V.take t ++ x :: V.drop t, ?_, ?_, ?_⟩
  ·have : (V.take t ++ x :: V.drop t).Perm (x :: (V.take t ++ V.drop t)) := List.perm_middle
   rwa [List.take_append_drop] at this
  ·have hp := List.pairwise_append.1 (show (V.take t ++ V.drop t).Pairwise le by rw [List.take_append_drop]; exact hs)
   have hlo : ∀ y ∈ V.take t, ¬ le x y := by
    intro y hy
    obtain ⟨q, hq, rfl⟩ := List.getElem_of_mem hy
    have hq' : q < t := by simp at hq; omega
    refine h4 (P.length + 1 + q) (by omega) (by omega) _ ?_
    rw [show P.length + 1 + q - (P.length + 1) = q by omega, List.getElem_take, List.getElem?_eq_getElem]
   have hhi : ∀ y ∈ V.drop t, le x y := by
    intro y hy
    obtain ⟨q, hq, rfl⟩ := List.getElem_of_mem hy
    simp only [List.length_drop] at hq
    have := h5 (P.length + 1 + (t + q)) (by omega) (by omega)
    refine Classical.byContradiction fun hn => this fun v hv => ?_
    rw [show P.length + 1 + (t + q) - (P.length + 1) = t + q by omega, List.getElem?_eq_getElem (by omega)] at hv
    cases hv
    rwa [List.getElem_drop] at hn
   refine List.pairwise_append.2 ⟨hp.1, List.pairwise_cons.2 ⟨hhi, hp.2.1⟩, fun y hy z hz => ?_⟩
   rcases List.mem_cons.1 hz with rfl | hz
   ·exact (hc.tot y z (hok y (List.mem_cons_of_mem _ (List.mem_of_mem_take hy))) hox).resolve_right (hlo y hy)
   ·exact hp.2.2 y hy z hz
  ·rw [h3]
   unfold iL
   have hvd : V = V.take t ++ V.drop t := (List.take_append_drop t V).symm
   have e1 : P ++ x :: V ++ S = P ++ x :: (V.take t ++ (V.drop t ++ S)) := by rw [← List.append_assoc (V.take t), List.take_append_drop]; simp
   rw [e1]
   have := aRt again (i := P.length + 1 + t) x (V.drop t ++ S) (V.take t) P BIG (by simp; omega) (by omega) (cE (by simp; omega))
   rw [this]; simp
 ·intro k i j hi hij hj
  have hh : i + j < 4611686018427387904 := by omega
  have hlt : decide ((i : Int) < (j : Int)) = true := decide_eq_true (by omega)
  obtain ⟨t, ht, htv⟩ : ∃ t, (i + j) / 2 = P.length + 1 + t ∧ t < V.length := ⟨(i + j) / 2 - (P.length + 1), by omega, by omega⟩
  obtain ⟨n, hn, hiff⟩ := hc.run V[t] x (hok _ (List.mem_cons_of_mem _ (List.getElem_mem htv))) hox
  have hg : (∀ v, V[(i + j) / 2 - (P.length + 1)]? = some v → ¬ le x v) ↔ ¬ le x V[t] := by
   rw [ht, show P.length + 1 + t - (P.length + 1) = t by omega, List.getElem?_eq_getElem htv]
   exact ⟨fun h => h _ rfl, fun h v hv => by cases hv; exact h⟩
  by_cases h : n < 0
  ·refine .inl ⟨hg.2 (hiff.1 h), ?_⟩
   simp only [cO, hlt, cond_true, yM hh, ht, hdat t htv, hdx, Option.bind_some, hn, decide_eq_true h, bH (show P.length + 1 + t < 9223372036854775807 by omega)]
  ·refine .inr ⟨fun hgg => h (hiff.2 (hg.1 hgg)), ?_⟩
   simp only [cO, hlt, cond_true, yM hh, ht, hdat t htv, hdx, Option.bind_some, hn, decide_eq_false h, cond_false]
 ·intro k i
  have hlt : decide ((i : Int) < (i : Int)) = false := decide_eq_false (by omega)
  simp only [cO, hlt, cond_false]
 ·intro p q hp hpq hq hg v hv hle
  have hq' : q - (P.length + 1) < V.length := by omega
  have hp' : p - (P.length + 1) < V.length := by omega
  rw [List.getElem?_eq_getElem hp'] at hv
  cases hv
  have hm := qO hc hs (fun y hy => hok y (List.mem_cons_of_mem _ hy)) (i := p - (P.length + 1)) (j := q - (P.length + 1)) (by omega) hq'
  exact hg _ (List.getElem?_eq_getElem hq') (hc.tr x _ _ hox (hok _ (List.mem_cons_of_mem _ (List.getElem_mem _))) (hok _ (List.mem_cons_of_mem _ (List.getElem_mem _))) hle hm)
theorem aRg (hc : vE cmp ok le) (again : List aI → Int → Int → Int → Option (List aI)) (P U : List aI) (y : aI) (S : List aI) (hok : ∀ z ∈ U ++ [y], ok z) (hs : U.Pairwise le) (hb : (P ++ U ++ y :: S).length < 1152921504606846976) :
  ∃ W, W.Perm (U ++ [y]) ∧ W.Pairwise le ∧ cP again ((P.length + U.length : Nat) : Int) cmp (P ++ U ++ y :: S) BIG (P.length : Nat) ((P.length + U.length : Nat) : Int) = some (P ++ W ++ S) := by
 simp only [List.length_append, List.length_cons] at hb
 have hoy := hok y (by simp)
 have hdat : ∀ t (ht : t < U.length), idx (P ++ U ++ y :: S) ((P.length + t : Nat) : Int) = some U[t] := by
  intro t ht
  rw [bM (by simp; omega)]
  simp only [Option.some.injEq]
  rw [List.getElem_append_left (by simp; omega), List.getElem_append_right (by omega)]
  simp only [show P.length + t - P.length = t by omega]
 have hdy : idx (P ++ U ++ y :: S) ((P.length + U.length : Nat) : Int) = some y := oH (by simp)
 have hbs := aMf (fun k i j => cP again ((P.length + U.length : Nat) : Int) cmp (P ++ U ++ y :: S) k i j) (fun i => iM again ((P.length + U.length : Nat) : Int) i (P ++ U ++ y :: S))
  (fun h => ∀ v, U[h - P.length]? = some v → le v y) P.length (P.length + U.length) (k := BIG) ?_ ?_ ?_ (by omega) (cE (by omega))
 ·obtain ⟨r, h1, h2, h3, h4, h5⟩ := hbs
  obtain ⟨t, rfl⟩ : ∃ t, r = P.length + t := ⟨r - P.length, by omega⟩
  have htl : t ≤ U.length := by omega
  refine ⟨U.take t ++ y :: U.drop t, ?_, ?_, ?_⟩
  ·have h1 : (U.take t ++ y :: U.drop t).Perm (y :: (U.take t ++ U.drop t)) := List.perm_middle
   rw [List.take_append_drop] at h1
   exact h1.trans (List.perm_append_singleton y U).symm
  ·have hp := List.pairwise_append.1 (show (U.take t ++ U.drop t).Pairwise le by rw [List.take_append_drop]; exact hs)
   have hlo : ∀ z ∈ U.take t, le z y := by
    intro z hz
    obtain ⟨q, hq, rfl⟩ := List.getElem_of_mem hz
    have hq' : q < t := by simp at hq; omega
    refine h4 (P.length + q) (by omega) (by omega) _ ?_
    rw [show P.length + q - P.length = q by omega, List.getElem_take, List.getElem?_eq_getElem]
   have hhi : ∀ z ∈ U.drop t, le y z := by
    intro z hz
    obtain ⟨q, hq, rfl⟩ := List.getElem_of_mem hz
    simp only [List.length_drop] at hq
    have hnot := h5 (P.length + (t + q)) (by omega) (by omega)
    have hzu : (U.drop t)[q] ∈ U := List.mem_of_mem_drop (List.getElem_mem _)
    refine (hc.tot y _ hoy (hok _ (by simp [hzu]))).resolve_right fun hn => hnot fun v hv => ?_
    rw [show P.length + (t + q) - P.length = t + q by omega, List.getElem?_eq_getElem (by omega)] at hv
    cases hv
    rwa [List.getElem_drop] at hn
   refine List.pairwise_append.2 ⟨hp.1, List.pairwise_cons.2 ⟨hhi, hp.2.1⟩, fun z hz w hw => ?_⟩
   rcases List.mem_cons.1 hw with rfl | hw
   ·exact hlo z hz
   ·exact hp.2.2 z hz w hw
  ·rw [h3]
   unfold iM
   have e1 : P ++ U ++ y :: S = (P ++ U.take t) ++ U.drop t ++ y :: S := by rw [List.append_assoc P (U.take t), List.take_append_drop]
   rw [e1]
   have := aRs again (i := P.length + t) y (P ++ U.take t) (by simp; omega) (U.drop t).length (U.drop t) S BIG rfl (by simp; omega) (cE (by simp; omega))
   have e2 : ((P ++ U.take t ++ U.drop t).length : Nat) = P.length + U.length := by simp [htl]
   rw [e2] at this
   rw [this]; simp
 ·intro k i j hi hij hj
  have hh : i + j < 4611686018427387904 := by omega
  have hlt : decide ((i : Int) < (j : Int)) = true := decide_eq_true (by omega)
  obtain ⟨t, ht, htv⟩ : ∃ t, (i + j) / 2 = P.length + t ∧ t < U.length := ⟨(i + j) / 2 - P.length, by omega, by omega⟩
  obtain ⟨n, hn, hiff⟩ := hc.run y U[t] hoy (hok _ (by simp))
  have hg : (∀ v, U[(i + j) / 2 - P.length]? = some v → le v y) ↔ le U[t] y := by
   rw [ht, show P.length + t - P.length = t by omega, List.getElem?_eq_getElem htv]
   exact ⟨fun h => h _ rfl, fun h v hv => by cases hv; exact h⟩
  by_cases h : n < 0
  ·refine .inr ⟨fun hgg => (hiff.1 h) (hg.1 hgg), ?_⟩
   simp only [cP, hlt, cond_true, yM hh, ht, hdat t htv, hdy, Option.bind_some, hn, decide_eq_true h, Bool.not_true, cond_false]
  ·refine .inl ⟨hg.2 (Classical.byContradiction fun hle => h (hiff.2 hle)), ?_⟩
   simp only [cP, hlt, cond_true, yM hh, ht, hdat t htv, hdy, Option.bind_some, hn, decide_eq_false h, Bool.not_false, bH (show P.length + t < 9223372036854775807 by omega)]
 ·intro k i
  have hlt : decide ((i : Int) < (i : Int)) = false := decide_eq_false (by omega)
  simp only [cP, hlt, cond_false]
 ·intro p q hp hpq hq hg v hv
  have hq' : q - P.length < U.length := by omega
  have hp' : p - P.length < U.length := by omega
  rw [List.getElem?_eq_getElem hp'] at hv
  cases hv
  have hm := qO hc hs (fun z hz => hok z (by simp [hz])) (i := p - P.length) (j := q - P.length) (by omega) hq'
  exact hc.tr _ _ y (hok _ (by simp)) (hok _ (by simp)) hoy hm (hg _ (List.getElem?_eq_getElem hq'))
end merge
end Go.Am
end
section
namespace Go.Am
section merge
variable {cmp : aI → aI → Option Int} {ok : aI → Prop} {le : aI → aI → Prop}
theorem aYo (hc : vE cmp ok le) {again : List aI → Int → Int → Int → Option (List aI)} {N : Nat} (ih : aGa ok le again N) (P U1 U2 V1 V2 S : List aI) (h1 : U1.length + V1.length < N) (h2 : U2.length + V2.length < N)
  (hok : ∀ y ∈ U1 ++ U2 ++ V1 ++ V2, ok y) (s1 : U1.Pairwise le) (s2 : U2.Pairwise le) (s3 : V1.Pairwise le) (s4 : V2.Pairwise le) (hb : (P ++ U1 ++ U2 ++ V1 ++ V2 ++ S).length < 1152921504606846976)
  {a m b mid n start : Int} (ea : a = (P.length : Nat)) (em : m = ((P.length + U1.length + U2.length : Nat) : Int)) (eb : b = ((P.length + U1.length + U2.length + V1.length + V2.length : Nat) : Int)) (emid : mid = ((P.length + U1.length + V1.length : Nat) : Int)) (en : n = mid + m) (es : start = ((P.length + U1.length : Nat) : Int)) :
  ∃ W1 W2, W1.Perm (U1 ++ V1) ∧ W1.Pairwise le ∧ W2.Perm (U2 ++ V2) ∧ W2.Pairwise le ∧ dC again a m b cmp mid n start (P ++ U1 ++ U2 ++ V1 ++ V2 ++ S) = some (P ++ W1 ++ W2 ++ S) := by
 simp only [List.length_append] at hb
 have eend : w64 (n - start) = ((P.length + U1.length + U2.length + V1.length : Nat) : Int) := by rw [bW (by omega) (by omega)]; omega
 have step1 : (bif decide (start < m) then some (decide (m < w64 (n - start))) else some false).bind (fun q => bif q then fN (P ++ U1 ++ U2 ++ V1 ++ V2 ++ S) start m (w64 (n - start)) cmp else some (P ++ U1 ++ U2 ++ V1 ++ V2 ++ S)) = some (P ++ U1 ++ V1 ++ U2 ++ V2 ++ S) := by
  rw [eend, dN, Option.bind_some]
  by_cases hh : 0 < U2.length ∧ 0 < V1.length
  ·have : (decide (start < m) && decide (m < ((P.length + U1.length + U2.length + V1.length : Nat) : Int))) = true := by simp only [Bool.and_eq_true, decide_eq_true_eq]; omega
   rw [this, cond_true]
   have hr := aRl (cmp := cmp) (P ++ U1) U2 V1 (V2 ++ S) (List.length_pos_iff.1 hh.1) (List.length_pos_iff.1 hh.2) (by simp only [List.length_append]; omega)
   simp only [List.length_append] at hr
   rw [es, em]
   have e1 : P ++ U1 ++ U2 ++ V1 ++ V2 ++ S = P ++ U1 ++ U2 ++ V1 ++ (V2 ++ S) := by simp
   rw [e1, hr]; simp
  ·have : (decide (start < m) && decide (m < ((P.length + U1.length + U2.length + V1.length : Nat) : Int))) = false := by
    rw [Bool.eq_false_iff]; simp only [ne_eq, Bool.and_eq_true, decide_eq_true_eq]; omega
   rw [this, cond_false]
   rcases Nat.eq_zero_or_pos U2.length with h | h
   ·rw [List.length_eq_zero_iff.1 h]; simp
   ·have : V1 = [] := List.length_eq_zero_iff.1 (by omega)
    rw [this]; simp
 obtain ⟨W1, p1, q1, step2⟩ : ∃ W1, W1.Perm (U1 ++ V1) ∧ W1.Pairwise le ∧ (bif decide (a < start) then some (decide (start < mid)) else some false).bind (fun q => bif q then again (P ++ U1 ++ V1 ++ U2 ++ V2 ++ S) a start mid else some (P ++ U1 ++ V1 ++ U2 ++ V2 ++ S)) = some (P ++ W1 ++ U2 ++ V2 ++ S) := by
  rw [dN, Option.bind_some]
  by_cases hh : 0 < U1.length ∧ 0 < V1.length
  ·have : (decide (a < start) && decide (start < mid)) = true := by simp only [Bool.and_eq_true, decide_eq_true_eq]; omega
   rw [this]
   obtain ⟨W, hp, hs, hr⟩ := ih P U1 V1 (U2 ++ V2 ++ S) h1 hh.1 hh.2 (fun y hy => hok y (by simp only [List.mem_append] at hy ⊢; rcases hy with h | h <;> simp [h])) s1 s3 (by simp only [List.length_append]; omega)
   simp only [List.length_append] at hr
   refine ⟨W, hp, hs, ?_⟩
   rw [cond_true, ea, es, emid]
   have e1 : P ++ U1 ++ V1 ++ U2 ++ V2 ++ S = P ++ U1 ++ V1 ++ (U2 ++ V2 ++ S) := by simp
   rw [e1, hr]; simp
  ·have : (decide (a < start) && decide (start < mid)) = false := by
    rw [Bool.eq_false_iff]; simp only [ne_eq, Bool.and_eq_true, decide_eq_true_eq]; omega
   rw [this]
   refine ⟨U1 ++ V1, .refl _, ?_, by rw [cond_false]; simp⟩
   rcases Nat.eq_zero_or_pos U1.length with h | h
   ·rw [List.length_eq_zero_iff.1 h]; simpa using s3
   ·have : V1 = [] := List.length_eq_zero_iff.1 (by omega)
    rw [this]; simpa using s1
 have hW1 : W1.length = U1.length + V1.length := by rw [p1.length_eq, List.length_append]
 obtain ⟨W2, p2, q2, step3⟩ : ∃ W2, W2.Perm (U2 ++ V2) ∧ W2.Pairwise le ∧ (bif decide (mid < w64 (n - start)) then some (decide (w64 (n - start) < b)) else some false).bind (fun q => bif q then again (P ++ W1 ++ U2 ++ V2 ++ S) mid (w64 (n - start)) b else some (P ++ W1 ++ U2 ++ V2 ++ S)) = some (P ++ W1 ++ W2 ++ S) := by
  rw [eend, dN, Option.bind_some]
  by_cases hh : 0 < U2.length ∧ 0 < V2.length
  ·have : (decide (mid < ((P.length + U1.length + U2.length + V1.length : Nat) : Int)) && decide (((P.length + U1.length + U2.length + V1.length : Nat) : Int) < b)) = true := by simp only [Bool.and_eq_true, decide_eq_true_eq]; omega
   rw [this]
   obtain ⟨W, hp, hs, hr⟩ := ih (P ++ W1) U2 V2 S h2 hh.1 hh.2 (fun y hy => hok y (by simp only [List.mem_append] at hy ⊢; rcases hy with h | h <;> simp [h])) s2 s4 (by simp only [List.length_append]; omega)
   simp only [List.length_append] at hr
   refine ⟨W, hp, hs, ?_⟩
   rw [cond_true, emid, eb]
   rw [show P.length + U1.length + V1.length = P.length + W1.length by omega, show P.length + U1.length + U2.length + V1.length = P.length + W1.length + U2.length by omega, show P.length + W1.length + U2.length + V2.length = P.length + W1.length + U2.length + V2.length from rfl]
   exact hr
  ·have : (decide (mid < ((P.length + U1.length + U2.length + V1.length : Nat) : Int)) && decide (((P.length + U1.length + U2.length + V1.length : Nat) : Int) < b)) = false := by
    rw [Bool.eq_false_iff]; simp only [ne_eq, Bool.and_eq_true, decide_eq_true_eq]; omega
   rw [this]
   refine ⟨U2 ++ V2, .refl _, ?_, by rw [cond_false]; simp⟩
   rcases Nat.eq_zero_or_pos U2.length with h | h
   ·rw [List.length_eq_zero_iff.1 h]; simpa using s4
   ·have : V2 = [] := List.length_eq_zero_iff.1 (by omega)
    rw [this]; simpa using s2
 refine ⟨W1, W2, p1, q1, p2, q2, ?_⟩
 have fin : ∀ (d : List aI) (x : Option (List aI)) (k : List aI → Option (List aI)) (q : Bool), (bif q then x.bind k else k d) = (bif q then x else some d).bind k := by intro d x k q; cases q <;> rfl
 unfold dC
 have h3 : ∀ d, d = P ++ W1 ++ U2 ++ V2 ++ S → ((bif decide (mid < w64 (n - start)) then some (decide (w64 (n - start) < b)) else some false).bind fun q => bif q then ((again d mid (w64 (n - start)) b).bind fun r => some r) else some d) = some (P ++ W1 ++ W2 ++ S) := by
  rintro d rfl
  rw [← step3]
  congr 1
  funext q
  cases q
  ·rfl
  ·simp only [cond_true]; cases again (P ++ W1 ++ U2 ++ V2 ++ S) mid (w64 (n - start)) b <;> rfl
 have h2 : ∀ d, d = P ++ U1 ++ V1 ++ U2 ++ V2 ++ S → ((bif decide (a < start) then some (decide (start < mid)) else some false).bind fun q => bif q then ((again d a start mid).bind fun r =>
   (bif decide (mid < w64 (n - start)) then some (decide (w64 (n - start) < b)) else some false).bind fun q => bif q then ((again r mid (w64 (n - start)) b).bind fun r => some r) else some r) else
   ((bif decide (mid < w64 (n - start)) then some (decide (w64 (n - start) < b)) else some false).bind fun q => bif q then ((again d mid (w64 (n - start)) b).bind fun r => some r) else some d)) = some (P ++ W1 ++ W2 ++ S) := by
  rintro d rfl
  rw [dN, Option.bind_some] at step2 ⊢
  cases hq : (decide (a < start) && decide (start < mid)) with
  | true =>
   rw [hq, cond_true] at step2
   rw [cond_true, step2, Option.bind_some]
   exact h3 _ rfl
  | false =>
   rw [hq, cond_false] at step2
   rw [cond_false]
   exact h3 _ (Option.some.inj step2)
 rw [dN, Option.bind_some] at step1 ⊢
 cases hq : (decide (start < m) && decide (m < w64 (n - start))) with
 | true =>
  rw [hq, cond_true] at step1
  rw [cond_true, step1, Option.bind_some]
  exact h2 _ rfl
 | false =>
  rw [hq, cond_false] at step1
  rw [cond_false]
  exact h2 _ (Option.some.inj step1)
theorem aOa (hc : vE cmp ok le) : ∀ (kr N : Nat), N ≤ kr → aGa ok le (bD cmp kr) N := by
 intro kr
 induction kr with
 | zero => intro N hN P U V S hlt; omega
 | succ kr ih =>
  intro N hN P U V S hlt hu hv hok su sv hb
  simp only [List.length_append] at hb
  have eU : w64 (((P ++ U).length : Int) - (P.length : Int)) = (U.length : Int) := by simp only [List.length_append]; rw [bW (by omega) (by omega)]; omega
  have eV : w64 (((P ++ U ++ V).length : Int) - ((P ++ U).length : Int)) = (V.length : Int) := by simp only [List.length_append]; rw [bW (by omega) (by omega)]; omega
  simp only [bD, eU, eV]
  by_cases hu1 : U.length = 1
  ·match U, hu1 with
   | [x], _ =>
    obtain ⟨W, h1, h2, h3⟩ := aTi hc (bD cmp kr) P x V S (fun y hy => hok y (by simpa using hy)) sv (by simp only [List.length_append, List.length_cons]; simp at hb; omega)
    refine ⟨W, by simpa using h1, h2, ?_⟩
    have hd : decide ((([x] : List aI).length : Int) = 1) = true := decide_eq_true (by simp)
    rw [hd, cond_true]
    have e1 : P ++ [x] ++ V ++ S = P ++ x :: V ++ S := by simp
    have e2 : (P ++ [x]).length = P.length + 1 := by simp
    have e3 : (P ++ [x] ++ V).length = P.length + 1 + V.length := by simp <;> omega
    rw [e1, e2, e3]
    exact h3
  have hd : decide ((U.length : Int) = 1) = false := decide_eq_false (by omega)
  rw [hd, cond_false]
  by_cases hv1 : V.length = 1
  ·match V, hv1 with
   | [y], _ =>
    obtain ⟨W, h1, h2, h3⟩ := aRg hc (bD cmp kr) P U y S hok su (by simp only [List.length_append, List.length_cons]; simp at hb; omega)
    refine ⟨W, h1, h2, ?_⟩
    have hd : decide ((([y] : List aI).length : Int) = 1) = true := decide_eq_true (by simp)
    rw [hd, cond_true]
    have e1 : P ++ U ++ [y] ++ S = P ++ U ++ y :: S := by simp
    have e2 : (P ++ U).length = P.length + U.length := by simp
    rw [e1, e2]
    exact h3
  have hd2 : decide ((V.length : Int) = 1) = false := decide_eq_false (by omega)
  rw [hd2, cond_false]
  have eh : w64 ((IntKind.u64.wrap (w64 ((P.length : Int) + ((P ++ U ++ V).length : Int)))).fdiv (2 ^ (min (1 : Int).toNat 64))) = (((P.length + (P ++ U ++ V).length) / 2 : Nat) : Int) := yM (by simp only [List.length_append]; omega)
  rw [eh]
  obtain ⟨mid, hmid⟩ : ∃ mid, mid = (P.length + (P ++ U ++ V).length) / 2 := ⟨_, rfl⟩
  rw [← hmid]
  simp only [List.length_append] at hmid
  have en : w64 ((mid : Int) + ((P ++ U).length : Int)) = ((mid + (P.length + U.length) : Nat) : Int) := by simp only [List.length_append]; rw [bW (by omega) (by omega)]; omega
  have ep : w64 (((mid + (P.length + U.length) : Nat) : Int) - 1) = ((mid + (P.length + U.length) - 1 : Nat) : Int) := by rw [bW (by omega) (by omega)]; omega
  rw [en, ep]
  have hok1 : ∀ y ∈ U, ok y := fun y hy => hok y (by simp [hy])
  have hok2 : ∀ y ∈ V, ok y := fun y hy => hok y (by simp [hy])
  have hdU : ∀ t (ht : t < U.length), idx (P ++ U ++ V ++ S) ((P.length + t : Nat) : Int) = some U[t] := by
   intro t ht
   rw [bM (by simp; omega)]
   simp only [Option.some.injEq]
   rw [List.getElem_append_left (by simp; omega), List.getElem_append_left (by simp; omega), List.getElem_append_right (by omega)]
   simp only [show P.length + t - P.length = t by omega]
  have hdV : ∀ t (ht : t < V.length), idx (P ++ U ++ V ++ S) ((P.length + U.length + t : Nat) : Int) = some V[t] := by
   intro t ht
   rw [bM (by simp; omega)]
   simp only [Option.some.injEq]
   rw [List.getElem_append_left (by simp; omega), List.getElem_append_right (by simp)]
   simp only [List.length_append, show P.length + U.length + t - (P.length + U.length) = t by omega]
  have search : ∀ lo hi : Nat, P.length ≤ lo → lo ≤ hi → hi ≤ P.length + U.length → (∀ c, lo ≤ c → c < hi → P.length + U.length ≤ mid + (P.length + U.length) - 1 - c ∧ mid + (P.length + U.length) - 1 - c < P.length + U.length + V.length ∧ c < mid + (P.length + U.length)) →
    ∃ r : Nat, lo ≤ r ∧ r ≤ hi ∧ cA (bD cmp kr) (P.length : Nat) ((P ++ U).length : Nat) ((P ++ U ++ V).length : Nat) cmp mid ((mid + (P.length + U.length) : Nat) : Int) ((mid + (P.length + U.length) - 1 : Nat) : Int) (P ++ U ++ V ++ S) BIG lo hi =
     dC (bD cmp kr) (P.length : Nat) ((P ++ U).length : Nat) ((P ++ U ++ V).length : Nat) cmp mid ((mid + (P.length + U.length) : Nat) : Int) r (P ++ U ++ V ++ S) ∧
     (∀ x, lo ≤ x → x < r → ∀ u v, U[x - P.length]? = some u → V[mid + (P.length + U.length) - 1 - x - (P.length + U.length)]? = some v → le u v) ∧ (∀ x, r ≤ x → x < hi → ¬ ∀ u v, U[x - P.length]? = some u → V[mid + (P.length + U.length) - 1 - x - (P.length + U.length)]? = some v → le u v) := by
   intro lo hi hlo hlh hhi hc'
   refine aMf (fun k i j => cA (bD cmp kr) (P.length : Nat) ((P ++ U).length : Nat) ((P ++ U ++ V).length : Nat) cmp mid ((mid + (P.length + U.length) : Nat) : Int) ((mid + (P.length + U.length) - 1 : Nat) : Int) (P ++ U ++ V ++ S) k i j)
    (fun i => dC (bD cmp kr) (P.length : Nat) ((P ++ U).length : Nat) ((P ++ U ++ V).length : Nat) cmp mid ((mid + (P.length + U.length) : Nat) : Int) i (P ++ U ++ V ++ S))
    (fun x => ∀ u v, U[x - P.length]? = some u → V[mid + (P.length + U.length) - 1 - x - (P.length + U.length)]? = some v → le u v) lo hi ?_ ?_ ?_ hlh (cE (by omega))
   ·intro k i j hi' hij hj
    have hh : i + j < 4611686018427387904 := by omega
    have hlt : decide ((i : Int) < (j : Int)) = true := decide_eq_true (by omega)
    obtain ⟨c, hcd⟩ : ∃ c, c = (i + j) / 2 := ⟨_, rfl⟩
    obtain ⟨g1, g2, g3⟩ := hc' c (by omega) (by omega)
    have t1 : c - P.length < U.length := by omega
    have t2 : mid + (P.length + U.length) - 1 - c - (P.length + U.length) < V.length := by omega
    have i1 := hdU (c - P.length) t1
    have i2 := hdV (mid + (P.length + U.length) - 1 - c - (P.length + U.length)) t2
    rw [show P.length + (c - P.length) = c by omega] at i1
    rw [show P.length + U.length + (mid + (P.length + U.length) - 1 - c - (P.length + U.length)) = mid + (P.length + U.length) - 1 - c by omega] at i2
    have ew : w64 (((mid + (P.length + U.length) - 1 : Nat) : Int) - (c : Int)) = ((mid + (P.length + U.length) - 1 - c : Nat) : Int) := by rw [bW (by omega) (by omega)]; omega
    obtain ⟨q, hq, hiff⟩ := hc.run _ _ (hok2 _ (List.getElem_mem t2)) (hok1 _ (List.getElem_mem t1))
    have hg : (∀ u v, U[c - P.length]? = some u → V[mid + (P.length + U.length) - 1 - c - (P.length + U.length)]? = some v → le u v) ↔ le U[c - P.length] V[mid + (P.length + U.length) - 1 - c - (P.length + U.length)] := by
     rw [List.getElem?_eq_getElem t1, List.getElem?_eq_getElem t2]
     exact ⟨fun h => h _ _ rfl rfl, fun h u v h1 h2 => by cases h1; cases h2; exact h⟩
    simp only [← hcd]
    by_cases h : q < 0
    ·refine .inr ⟨fun hgg => hiff.1 h (hg.1 hgg), ?_⟩
     simp only [cA, hlt, cond_true, yM hh, ← hcd, ew, i1, i2, Option.bind_some, hq, decide_eq_true h, Bool.not_true, cond_false]
    ·refine .inl ⟨hg.2 (Classical.byContradiction fun hle => h (hiff.2 hle)), ?_⟩
     simp only [cA, hlt, cond_true, yM hh, ← hcd, ew, i1, i2, Option.bind_some, hq, decide_eq_false h, Bool.not_false, bH (show c < 9223372036854775807 by omega)]
   ·intro k i
    have hlt : decide ((i : Int) < (i : Int)) = false := decide_eq_false (by omega)
    simp only [cA, hlt, cond_false]
   ·intro p q hp hpq hq hg u v hu' hv'
    obtain ⟨g1, g2, g3⟩ := hc' p (by omega) (by omega)
    obtain ⟨g4, g5, g6⟩ := hc' q (by omega) hq
    have t1 : q - P.length < U.length := by omega
    have t2 : mid + (P.length + U.length) - 1 - q - (P.length + U.length) < V.length := by omega
    have t3 : p - P.length < U.length := by omega
    have t4 : mid + (P.length + U.length) - 1 - p - (P.length + U.length) < V.length := by omega
    rw [List.getElem?_eq_getElem t3] at hu'
    rw [List.getElem?_eq_getElem t4] at hv'
    cases hu'; cases hv'
    have m1 := qO hc su hok1 (i := p - P.length) (j := q - P.length) (by omega) t1
    have m2 := qO hc sv hok2 (i := mid + (P.length + U.length) - 1 - q - (P.length + U.length)) (j := mid + (P.length + U.length) - 1 - p - (P.length + U.length)) (by omega) t4
    have m3 := hg _ _ (List.getElem?_eq_getElem t1) (List.getElem?_eq_getElem t2)
    exact hc.tr _ _ _ (hok1 _ (List.getElem_mem _)) (hok1 _ (List.getElem_mem _)) (hok2 _ (List.getElem_mem _)) m1 (hc.tr _ _ _ (hok1 _ (List.getElem_mem _)) (hok2 _ (List.getElem_mem _)) (hok2 _ (List.getElem_mem _)) m3 m2)
  have finish : ∀ lo hi r : Nat, P.length ≤ lo → lo ≤ r → r ≤ hi → hi ≤ P.length + U.length → P.length + U.length ≤ mid + (P.length + U.length) - r → mid + (P.length + U.length) - r ≤ P.length + U.length + V.length → r ≤ mid →
    (P.length < lo → lo = mid + (P.length + U.length) - (P.length + U.length + V.length)) → (hi < P.length + U.length → hi = mid) →
    (∀ x, lo ≤ x → x < r → ∀ u v, U[x - P.length]? = some u → V[mid + (P.length + U.length) - 1 - x - (P.length + U.length)]? = some v → le u v) → (∀ x, r ≤ x → x < hi → ¬ ∀ u v, U[x - P.length]? = some u → V[mid + (P.length + U.length) - 1 - x - (P.length + U.length)]? = some v → le u v) →
    ∃ W, W.Perm (U ++ V) ∧ W.Pairwise le ∧ dC (bD cmp kr) (P.length : Nat) ((P ++ U).length : Nat) ((P ++ U ++ V).length : Nat) cmp mid ((mid + (P.length + U.length) : Nat) : Int) r (P ++ U ++ V ++ S) = some (P ++ W ++ S) := by
   intro lo hi0 r hlo hlr hrh hhi he1 he2 hrm hlo' hhi' hlow hhigh
   obtain ⟨s, hs⟩ : ∃ s, s = r - P.length := ⟨_, rfl⟩
   obtain ⟨e, he⟩ : ∃ e, e = mid + (P.length + U.length) - r - (P.length + U.length) := ⟨_, rfl⟩
   have hsU : s ≤ U.length := by omega
   have heV : e ≤ V.length := by omega
   have lU1 : (U.take s).length = s := by simp; omega
   have lU2 : (U.drop s).length = U.length - s := by simp
   have lV1 : (V.take e).length = e := by simp; omega
   have lV2 : (V.drop e).length = V.length - e := by simp
   have dU : U.take s ++ U.drop s = U := List.take_append_drop s U
   have dV : V.take e ++ V.drop e = V := List.take_append_drop e V
   have pU := List.pairwise_append.1 (show (U.take s ++ U.drop s).Pairwise le by rw [dU]; exact su)
   have pV := List.pairwise_append.1 (show (V.take e ++ V.drop e).Pairwise le by rw [dV]; exact sv)
   have ihN : aGa ok le (bD cmp kr) (U.length + V.length) := ih _ (by omega)
   obtain ⟨W1, W2, p1, q1, p2, q2, hK⟩ := aYo hc ihN P (U.take s) (U.drop s) (V.take e) (V.drop e) S (by rw [lU1, lV1]; omega) (by rw [lU2, lV2]; omega)
    (fun y hy => by
     simp only [List.mem_append] at hy
     rcases hy with ((h | h) | h) | h
     ·exact hok1 y (List.mem_of_mem_take h)
     ·exact hok1 y (List.mem_of_mem_drop h)
     ·exact hok2 y (List.mem_of_mem_take h)
     ·exact hok2 y (List.mem_of_mem_drop h)) pU.1 pU.2.1 pV.1 pV.2.1 (by simp only [List.length_append, lU1, lU2, lV1, lV2]; omega)
    (a := (P.length : Nat)) (m := ((P ++ U).length : Nat)) (b := ((P ++ U ++ V).length : Nat)) (mid := mid) (n := ((mid + (P.length + U.length) : Nat) : Int)) (start := r) rfl
    (by simp only [List.length_append, lU1, lU2]; omega) (by simp only [List.length_append, lU1, lU2, lV1, lV2]; omega) (by rw [lU1, lV1]; omega) (by simp only [List.length_append]; omega) (by rw [lU1]; omega)
   have ed : P ++ U.take s ++ U.drop s ++ V.take e ++ V.drop e ++ S = P ++ U ++ V ++ S := by
    rw [List.append_assoc P, dU, List.append_assoc (P ++ U), dV]
   rw [ed] at hK
   refine ⟨W1 ++ W2, ?_, ?_, by rw [hK]; simp⟩
   ·refine (p1.append p2).trans ?_
    have : (U.take s ++ V.take e ++ (U.drop s ++ V.drop e)).Perm ((U.take s ++ U.drop s) ++ (V.take e ++ V.drop e)) := by
     rw [List.append_assoc, List.append_assoc]
     refine List.Perm.append_left _ ?_
     rw [← List.append_assoc, ← List.append_assoc]
     exact List.Perm.append_right _ List.perm_append_comm
    rwa [dU, dV] at this
   ·refine List.pairwise_append.2 ⟨q1, q2, fun x hx y hy => ?_⟩
    have hx' := p1.mem_iff.1 hx
    have hy' := p2.mem_iff.1 hy
    rcases List.mem_append.1 hx' with hx1 | hx1 <;> rcases List.mem_append.1 hy' with hy1 | hy1
    ·exact pU.2.2 x hx1 y hy1
    ·-- the first of U, the last of V
     obtain ⟨i, hi, rfl⟩ := List.getElem_of_mem hx1
     obtain ⟨j, hj, rfl⟩ := List.getElem_of_mem hy1
     rw [lU1] at hi
     rw [lV2] at hj
     have hlo2 : lo ≤ r - 1 := by
      rcases Nat.lt_or_ge P.length lo with h | h
      ·have := hlo' h; omega
      ·omega
     have t1 : r - 1 - P.length < U.length := by omega
     have t2 : mid + (P.length + U.length) - 1 - (r - 1) - (P.length + U.length) < V.length := by omega
     have m3 := hlow (r - 1) hlo2 (by omega) _ _ (List.getElem?_eq_getElem t1) (List.getElem?_eq_getElem t2)
     have m1 := qO hc su hok1 (i := i) (j := r - 1 - P.length) (by omega) t1
     have m2 := qO hc sv hok2 (i := mid + (P.length + U.length) - 1 - (r - 1) - (P.length + U.length)) (j := e + j) (by omega) (by omega)
     rw [List.getElem_take, List.getElem_drop]
     exact hc.tr _ _ _ (hok1 _ (List.getElem_mem _)) (hok1 _ (List.getElem_mem _)) (hok2 _ (List.getElem_mem _)) m1 (hc.tr _ _ _ (hok1 _ (List.getElem_mem _)) (hok2 _ (List.getElem_mem _)) (hok2 _ (List.getElem_mem _)) m3 m2)
    ·obtain ⟨i, hi, rfl⟩ := List.getElem_of_mem hx1
     obtain ⟨j, hj, rfl⟩ := List.getElem_of_mem hy1
     rw [lV1] at hi
     rw [lU2] at hj
     have hh2 : r < hi0 := by
      rcases Nat.lt_or_ge hi0 (P.length + U.length) with h | h
      ·have := hhi' h; omega
      ·omega
     have t1 : r - P.length < U.length := by omega
     have t2 : mid + (P.length + U.length) - 1 - r - (P.length + U.length) < V.length := by omega
     have hnot := hhigh r (Nat.le_refl _) hh2
     have m3 : le V[mid + (P.length + U.length) - 1 - r - (P.length + U.length)] U[r - P.length] := by
      refine (hc.tot _ _ (hok2 _ (List.getElem_mem t2)) (hok1 _ (List.getElem_mem t1))).resolve_right fun hn => hnot fun u v h1 h2 => ?_
      rw [List.getElem?_eq_getElem t1] at h1
      rw [List.getElem?_eq_getElem t2] at h2
      cases h1; cases h2; exact hn
     have m1 := qO hc sv hok2 (i := i) (j := mid + (P.length + U.length) - 1 - r - (P.length + U.length)) (by omega) t2
     have m2 := qO hc su hok1 (i := r - P.length) (j := s + j) (by omega) (by omega)
     rw [List.getElem_take, List.getElem_drop]
     exact hc.tr _ _ _ (hok2 _ (List.getElem_mem _)) (hok2 _ (List.getElem_mem _)) (hok1 _ (List.getElem_mem _)) m1 (hc.tr _ _ _ (hok2 _ (List.getElem_mem _)) (hok1 _ (List.getElem_mem _)) (hok1 _ (List.getElem_mem _)) m3 m2)
    ·exact pV.2.2 x hx1 y hy1
  by_cases hm : mid < P.length + U.length
  ·have hd3 : decide ((mid : Int) < ((P ++ U).length : Int)) = true := decide_eq_true (by simp only [List.length_append]; omega)
   have es : w64 (((mid + (P.length + U.length) : Nat) : Int) - ((P ++ U ++ V).length : Int)) = ((mid + (P.length + U.length) - (P.length + U.length + V.length) : Nat) : Int) := by simp only [List.length_append]; rw [bW (by omega) (by omega)]; omega
   rw [hd3, cond_true, es]
   obtain ⟨r, h1, h2, h3, h4, h5⟩ := search (mid + (P.length + U.length) - (P.length + U.length + V.length)) mid (by omega) (by omega) (by omega) (fun c h1 h2 => by omega)
   rw [h3]
   exact finish _ mid r (by omega) h1 h2 (by omega) (by omega) (by omega) h2 (fun _ => rfl) (fun _ => rfl) h4 h5
  ·have hd3 : decide ((mid : Int) < ((P ++ U).length : Int)) = false := decide_eq_false (by simp only [List.length_append]; omega)
   rw [hd3, cond_false]
   have eu : ((P ++ U).length : Nat) = P.length + U.length := by simp
   obtain ⟨r, h1, h2, h3, h4, h5⟩ := search P.length (P.length + U.length) (by omega) (by omega) (by omega) (fun c h1 h2 => by omega)
   have hf := finish P.length (P.length + U.length) r (by omega) h1 h2 (by omega) (by omega) (by omega) (by omega) (fun h => by omega) (fun h => by omega) h4 h5
   simp only [eu] at h3 hf ⊢
   rw [h3]
   exact hf
end merge
end Go.Am
end
section
namespace Go.Am
section stable
variable {cmp : aI → aI → Option Int} {ok : aI → Prop} {le : aI → aI → Prop}
def Blk (le : aI → aI → Prop) (bs : Nat) (L : List aI) : Prop := ∀ (i j : Nat) (_ : i < j) (hj : j < L.length), i / bs = j / bs → le (L[i]'(by omega)) L[j]
theorem xC {bs c : Nat} {P M : List aI} (hb : 0 < bs) (hP : P.length = c * bs) (h1 : Blk le bs P) (h2 : M.Pairwise le) (_ : M.length ≤ bs) : Blk le bs (P ++ M) := by
 intro i j hij hj hd
 simp only [List.length_append] at hj
 rcases Nat.lt_or_ge j P.length with h | h
 ·rw [List.getElem_append_left (by omega), List.getElem_append_left h]
  exact h1 i j hij h hd
 ·rcases Nat.lt_or_ge i P.length with h3 | h3
  ·exfalso
   have e1 : i / bs < c := (Nat.div_lt_iff_lt_mul hb).2 (by omega)
   have e2 : c ≤ j / bs := (Nat.le_div_iff_mul_le hb).2 (by omega)
   omega
  ·rw [List.getElem_append_right h3, List.getElem_append_right h]
   exact List.pairwise_iff_getElem.1 h2 _ _ (by omega) (by omega) (by omega)
theorem vG {bs : Nat} {L : List aI} (h : Blk le bs L) (hl : L.length ≤ bs) : L.Pairwise le :=
 List.pairwise_iff_getElem.2 fun i j hi hj hij => h i j hij hj (by rw [Nat.div_eq_of_lt (by omega), Nat.div_eq_of_lt (by omega)])
theorem aJp {bs n : Nat} {L : List aI} (h : Blk le bs L) : Blk le bs (L.take n) := by
 intro i j hij hj hd
 simp only [List.length_take] at hj
 rw [List.getElem_take, List.getElem_take]
 exact h i j hij (by omega) hd
theorem aJo {bs c n : Nat} {L : List aI} (hb : 0 < bs) (hn : n = c * bs) (h : Blk le bs L) : Blk le bs (L.drop n) := by
 intro i j hij hj hd
 simp only [List.length_drop] at hj
 rw [List.getElem_drop, List.getElem_drop]
 refine h (n + i) (n + j) (by omega) (by omega) ?_
 rw [hn, Nat.add_comm (c * bs) i, Nat.add_comm (c * bs) j, Nat.add_mul_div_right _ _ hb, Nat.add_mul_div_right _ _ hb, hd]
theorem aFv (hc : vE cmp ok le) (P U V S : List aI) (h1 : 0 < U.length) (h2 : 0 < V.length) (hok : ∀ y ∈ U ++ V, ok y) (su : U.Pairwise le) (sv : V.Pairwise le) (hb : (P ++ U ++ V ++ S).length < 1152921504606846976) :
  ∃ W, W.Perm (U ++ V) ∧ W.Pairwise le ∧ jF (P ++ U ++ V ++ S) (P.length : Nat) ((P ++ U).length : Nat) ((P ++ U ++ V).length : Nat) cmp = some (P ++ W ++ S) :=
 aOa hc BIG BIG (Nat.le_refl _) P U V S (cE (by simp only [List.length_append] at hb; omega)) h1 h2 hok su sv hb
theorem bAk (hc : vE cmp ok le) (F : Int → List aI → Option (List aI)) {bs : Nat} (hbs : 0 < bs) (hbb : bs < 1152921504606846976) : ∀ (d : Nat) (P R : List aI) (k c : Nat), R.length = d → d < k → P.length = c * (2 * bs) → Blk le (2 * bs) P → Blk le bs R → (∀ y ∈ P ++ R, ok y) → (P ++ R).length < 576460752303423488 →
  ∃ L, L.Perm (P ++ R) ∧ Blk le (2 * bs) L ∧ eE F ((P ++ R).length : Nat) cmp (bs : Nat) k (P.length : Nat) ((P.length + 2 * bs : Nat) : Int) (P ++ R) = F ((bs * 2 : Nat) : Int) L := by
 intro d
 induction d using Nat.strongRecOn with
 | _ d ih =>
  intro P R k c hd hk hP hPb hRb hok hb
  obtain ⟨k, rfl⟩ : ∃ q, k = q + 1 := ⟨k - 1, by omega⟩
  simp only [List.length_append] at hb
  have e2 : w64 ((bs : Int) * 2) = ((bs * 2 : Nat) : Int) := by rw [bW (by omega) (by omega)]; omega
  have e2' : w64 (2 * (bs : Int)) = ((2 * bs : Nat) : Int) := by rw [bW (by omega) (by omega)]; omega
  have em : w64 ((P.length : Int) + (bs : Int)) = ((P.length + bs : Nat) : Int) := by rw [bW (by omega) (by omega)]; omega
  by_cases hfull : 2 * bs ≤ R.length
  ·-- two whole blocks
   obtain ⟨U, V, S, rfl, hU, hV, hUd, hVd, hSd⟩ : ∃ U V S, R = U ++ V ++ S ∧ U.length = bs ∧ V.length = bs ∧ U = R.take bs ∧ V = (R.drop bs).take bs ∧ S = R.drop (2 * bs) := by
    refine ⟨R.take bs, (R.drop bs).take bs, R.drop (2 * bs), ?_, by simp; omega, by simp; omega, rfl, rfl, rfl⟩
    rw [show R.drop (2 * bs) = (R.drop bs).drop bs by rw [List.drop_drop]; congr 1; omega, List.append_assoc, List.take_append_drop, List.take_append_drop]
   have bU : Blk le bs U := by rw [hUd]; exact aJp hRb
   have bV : Blk le bs V := by rw [hVd]; exact aJp (aJo (c := 1) hbs (by omega) hRb)
   have bS : Blk le bs S := by rw [hSd]; exact aJo (c := 2) hbs (by omega) hRb
   clear hUd hVd hSd
   simp only [List.length_append] at hb hd hfull
   obtain ⟨W, p1, s1, hr⟩ := aFv hc P U V S (by omega) (by omega) (fun y hy => hok y (by simp only [List.mem_append] at hy ⊢; rcases hy with h | h <;> simp [h])) (vG bU (by omega)) (vG bV (by omega)) (by simp only [List.length_append]; omega)
   have hW : W.length = 2 * bs := by rw [p1.length_eq, List.length_append]; omega
   have hlt : decide (((P.length + 2 * bs : Nat) : Int) ≤ ((P ++ (U ++ V ++ S)).length : Int)) = true := decide_eq_true (by simp only [List.length_append]; omega)
   obtain ⟨L, p2, b2, hL⟩ := ih S.length (by omega) (P ++ W) S k (c + 1) rfl (by omega) (by rw [List.length_append, hP, hW, Nat.add_mul]; omega) (xC (c := c) (by omega) hP hPb s1 (by omega)) bS
    (fun y hy => by
     simp only [List.mem_append] at hy
     rcases hy with (h | h) | h
     ·exact hok y (by simp [h])
     ·have := p1.mem_iff.1 h
      simp only [List.mem_append] at this
      rcases this with h | h <;> exact hok y (by simp [h])
     ·exact hok y (by simp [h])) (by simp only [List.length_append]; omega)
   refine ⟨L, p2.trans ?_, b2, ?_⟩
   ·have : (P ++ W ++ S).Perm (P ++ (U ++ V) ++ S) := List.Perm.append_right _ (List.Perm.append_left _ p1)
    simpa using this
   ·have ed : P ++ (U ++ V ++ S) = P ++ U ++ V ++ S := by simp
    have ex : (P ++ U).length = P.length + bs := by rw [List.length_append, hU]
    have ey : (P ++ U ++ V).length = P.length + 2 * bs := by rw [List.length_append, List.length_append, hU, hV]; omega
    rw [ex, ey] at hr
    simp only [eE, hlt, cond_true, em, e2']
    rw [ed, hr, Option.bind_some]
    have eb : w64 (((P.length + 2 * bs : Nat) : Int) + ((2 * bs : Nat) : Int)) = (((P ++ W).length + 2 * bs : Nat) : Int) := by rw [bW (by omega) (by omega), List.length_append, hW]; omega
    have ea : ((P.length + 2 * bs : Nat) : Int) = (((P ++ W).length : Nat) : Int) := by rw [List.length_append, hW]
    have el : (P ++ W ++ S).length = (P ++ U ++ V ++ S).length := by simp only [List.length_append, hW]; omega
    rw [eb, ea, ← el]
    exact hL
  ·have hlt : decide (((P.length + 2 * bs : Nat) : Int) ≤ ((P ++ R).length : Int)) = false := decide_eq_false (by simp only [List.length_append]; omega)
   simp only [eE, hlt, cond_false, lL, em, gI, e2]
   by_cases hm : bs < R.length
   ·have hd3 : decide (((P.length + bs : Nat) : Int) < ((P ++ R).length : Int)) = true := decide_eq_true (by simp only [List.length_append]; omega)
    obtain ⟨U, V, rfl, hU, hUd, hVd⟩ : ∃ U V, R = U ++ V ∧ U.length = bs ∧ U = R.take bs ∧ V = R.drop bs := ⟨R.take bs, R.drop bs, by simp, by simp; omega, rfl, rfl⟩
    have bU : Blk le bs U := by rw [hUd]; exact aJp hRb
    have bV : Blk le bs V := by rw [hVd]; exact aJo (c := 1) hbs (by omega) hRb
    clear hUd hVd
    simp only [List.length_append] at hb hm hfull
    obtain ⟨W, p1, s1, hr⟩ := aFv hc P U V [] (by omega) (by omega) (fun y hy => hok y (by simp only [List.mem_append] at hy ⊢; rcases hy with h | h <;> simp [h])) (vG bU (by omega)) (vG bV (by omega)) (by simp only [List.length_append, List.length_nil]; omega)
    have hW : W.length = U.length + V.length := by rw [p1.length_eq, List.length_append]
    simp only [List.append_nil] at hr
    have ex : (P ++ U).length = P.length + bs := by rw [List.length_append, hU]
    rw [ex, List.append_assoc P U V] at hr
    refine ⟨P ++ W, List.Perm.append_left _ p1, xC (c := c) (by omega) hP hPb s1 (by omega), ?_⟩
    rw [hd3, cond_true, hr, Option.bind_some]
   ·have hd3 : decide (((P.length + bs : Nat) : Int) < ((P ++ R).length : Int)) = false := decide_eq_false (by simp only [List.length_append]; omega)
    refine ⟨P ++ R, .refl _, xC (c := c) (by omega) hP hPb (vG hRb (by omega)) (by omega), ?_⟩
    rw [hd3, cond_false]
theorem bAr (hc : vE cmp ok le) : ∀ (d : Nat) (xs : List aI) (bs k : Nat), xs.length - bs = d → d < k → 0 < bs → bs < 1152921504606846976 → Blk le bs xs → (∀ y ∈ xs, ok y) → xs.length < 288230376151711744 →
  ∃ ys, ys.Perm xs ∧ ys.Pairwise le ∧ cZ (xs.length : Nat) cmp k (bs : Nat) xs = some ys := by
 intro d
 induction d using Nat.strongRecOn with
 | _ d ih =>
  intro xs bs k hd hk hbs hbb hbl hok hb
  obtain ⟨k, rfl⟩ : ∃ q, k = q + 1 := ⟨k - 1, by omega⟩
  by_cases h : bs < xs.length
  ·have hlt : decide ((bs : Int) < (xs.length : Int)) = true := decide_eq_true (by omega)
   have e2' : w64 (2 * (bs : Int)) = ((2 * bs : Nat) : Int) := by rw [bW (by omega) (by omega)]; omega
   simp only [cZ, hlt, cond_true, e2']
   obtain ⟨L, p1, b1, hr⟩ := bAk hc (cZ (xs.length : Nat) cmp k) hbs hbb xs.length [] xs BIG 0 rfl (cE (by omega)) (by simp) (fun i j _ hj => by simp at hj) hbl (by simpa using hok) (by simp; omega)
   simp only [List.nil_append, List.length_nil, Nat.zero_add] at hr p1
   have hL : L.length = xs.length := p1.length_eq
   obtain ⟨ys, p2, s2, hy⟩ := ih (L.length - bs * 2) (by omega) L (bs * 2) k rfl (by omega) (by omega) (by omega) (by rwa [Nat.mul_comm]) (fun y hy => hok y (p1.mem_iff.1 hy)) (by omega)
   rw [hL] at hy
   refine ⟨ys, p2.trans p1, s2, ?_⟩
   rw [← hy]
   exact hr
  ·have hlt : decide ((bs : Int) < (xs.length : Int)) = false := decide_eq_false (by omega)
   refine ⟨xs, .refl _, vG hbl (by omega), ?_⟩
   simp only [cZ, hlt, cond_false, lK]
theorem aRw (hc : vE cmp ok le) (xs : List aI) (hok : ∀ y ∈ xs, ok y) (hb : xs.length < 288230376151711744) : ∃ ys, ys.Perm xs ∧ ys.Pairwise le ∧ gW xs cmp = some ys := by
 have main : ∀ (d : Nat) (P R : List aI) (k c : Nat), R.length = d → d < k → P.length = c * 20 → Blk le 20 P → (∀ y ∈ P ++ R, ok y) → (P ++ R).length < 288230376151711744 →
   ∃ ys, ys.Perm (P ++ R) ∧ ys.Pairwise le ∧ eD ((P ++ R).length : Nat) cmp 20 k (P.length : Nat) ((P.length + 20 : Nat) : Int) (P ++ R) = some ys := by
  intro d
  induction d using Nat.strongRecOn with
  | _ d ih =>
   intro P R k c hd hk hP hPb hok hb
   obtain ⟨k, rfl⟩ : ∃ q, k = q + 1 := ⟨k - 1, by omega⟩
   simp only [List.length_append] at hb
   by_cases hfull : 20 ≤ R.length
   ·obtain ⟨M, S, rfl, hM⟩ : ∃ M S, R = M ++ S ∧ M.length = 20 := ⟨R.take 20, R.drop 20, by simp, by simp; omega⟩
    simp only [List.length_append] at hb hd hfull
    have hlt : decide (((P.length + 20 : Nat) : Int) ≤ ((P ++ (M ++ S)).length : Int)) = true := decide_eq_true (by simp only [List.length_append]; omega)
    obtain ⟨M', p1, s1, hr⟩ := aDh hc P M S (fun y hy => hok y (by simp [hy])) (by simp only [List.length_append]; omega)
    have hM' : M'.length = 20 := by rw [p1.length_eq, hM]
    obtain ⟨ys, p2, s2, hy⟩ := ih S.length (by omega) (P ++ M') S k (c + 1) rfl (by omega) (by rw [List.length_append, hP, hM', Nat.add_mul]) (xC (c := c) (by omega) hP hPb s1 (by omega)) (fun y hy => by
     simp only [List.mem_append] at hy
     rcases hy with (h | h) | h
     ·exact hok y (by simp [h])
     ·exact hok y (by simp [p1.mem_iff.1 h])
     ·exact hok y (by simp [h])) (by simp only [List.length_append]; omega)
    refine ⟨ys, p2.trans ?_, s2, ?_⟩
    ·have : (P ++ M' ++ S).Perm (P ++ M ++ S) := List.Perm.append_right _ (List.Perm.append_left _ p1)
     simpa using this
    ·have ex : (P ++ M).length = P.length + 20 := by rw [List.length_append, hM]
     rw [ex, List.append_assoc P M S] at hr
     simp only [eD, hlt, cond_true]
     rw [hr, Option.bind_some]
     have eb : w64 (((P.length + 20 : Nat) : Int) + 20) = (((P ++ M').length + 20 : Nat) : Int) := by rw [bW (by omega) (by omega), List.length_append, hM']; omega
     have ea : ((P.length + 20 : Nat) : Int) = (((P ++ M').length : Nat) : Int) := by rw [List.length_append, hM']
     have el : (P ++ M' ++ S).length = (P ++ (M ++ S)).length := by simp only [List.length_append, hM']; omega
     rw [eb, ea, ← el]
     exact hy
   ·have hlt : decide (((P.length + 20 : Nat) : Int) ≤ ((P ++ R).length : Int)) = false := decide_eq_false (by simp only [List.length_append]; omega)
    obtain ⟨M', p1, s1, hr⟩ := aDh hc P R [] (fun y hy => hok y (by simp [hy])) (by simp only [List.length_append]; omega)
    have hM' : M'.length = R.length := p1.length_eq
    simp only [List.append_nil] at hr
    have hl : (P ++ M').length = (P ++ R).length := by rw [List.length_append, List.length_append, hM']
    obtain ⟨ys, p2, s2, hy⟩ := bAr hc _ (P ++ M') 20 BIG rfl (cE (by simp only [List.length_append]; omega)) (by omega) (by omega) (xC (c := c) (by omega) hP hPb s1 (by omega)) (fun y hy => by
     rcases List.mem_append.1 hy with h | h
     ·exact hok y (by simp [h])
     ·exact hok y (by simp [p1.mem_iff.1 h])) (by simp only [List.length_append]; omega)
    refine ⟨ys, p2.trans (List.Perm.append_left _ p1), s2, ?_⟩
    simp only [eD, hlt, cond_false, lJ]
    rw [hr, Option.bind_some, ← hl]
    exact hy
 obtain ⟨ys, p, s, h⟩ := main xs.length [] xs BIG 0 rfl (cE (by omega)) (by simp) (fun i j _ hj => by simp at hj) (by simpa using hok) (by simpa using hb)
 refine ⟨ys, by simpa using p, s, ?_⟩
 unfold gW jS
 simp only [List.nil_append, List.length_nil, Nat.zero_add] at h
 have e0 : ((0 : Nat) : Int) = 0 := rfl
 have e20 : ((20 : Nat) : Int) = 20 := rfl
 rw [e0, e20] at h
 rw [h]; rfl
end stable
end Go.Am
end
section
namespace Go.Am
def tS (p : aI) : List aI → List aI
 | [] => []
 | y :: t => if y = p then tS p t else y :: tS y t
def sM : List aI → List aI
 | [] => []
 | x :: t => x :: tS x t
theorem aSu (again : Int → List aI → Option (List aI)) {k0 : Nat} : ∀ (t : List aI) (p : aI) (W X : List aI) (k2 k : Nat), 1 ≤ k2 → W.length + X.length + 1 = k0 + k2 → k0 ≤ W.length → (W ++ X ++ p :: t).length < 4611686018427387904 → t.length < k →
  eW again (k0 : Nat) k (W.length : Nat) (k2 : Nat) (W ++ X ++ p :: t) = some (W ++ tS p t) := by
 intro t
 induction t with
 | nil =>
  intro p W X k2 k h1 h2 h3 hb hk
  obtain ⟨k, rfl⟩ : ∃ q, k = q + 1 := ⟨k - 1, by omega⟩
  simp only [List.length_append, List.length_cons, List.length_nil] at hb
  have t0 : ((k0 : Nat) : Int).toNat = k0 := rfl
  have t1 : ((W.length : Nat) : Int).toNat = W.length := rfl
  have hlt : decide ((k2 : Int) < (((W ++ X ++ [p]).drop k0).length : Int)) = false := decide_eq_false (by simp; omega)
  have c1 : (decide ((0 : Int) ≤ (W.length : Int)) && decide ((W.length : Int) ≤ ((W ++ X ++ [p]).length : Int))) = true := by simp; omega
  have c2 : decide (W.length ≤ (W ++ X ++ [p]).length) = true := by simp
  have c3 : decide ((0 : Int) ≤ (W.length : Int)) = true := by simp
  simp only [eW, t0, hlt, cond_false, oV]
  rw [c1, t1, c2, c3]
  simp [chk, tS]
 | cons y t ih =>
  intro p W X k2 k h1 h2 h3 hb hk
  obtain ⟨k, rfl⟩ : ∃ q, k = q + 1 := ⟨k - 1, by omega⟩
  simp only [List.length_append, List.length_cons] at hb hk
  have t0 : ((k0 : Nat) : Int).toNat = k0 := rfl
  have t1 : ((W.length : Nat) : Int).toNat = W.length := rfl
  have hlt : decide ((k2 : Int) < (((W ++ X ++ p :: y :: t).drop k0).length : Int)) = true := decide_eq_true (by simp; omega)
  have ed : (W ++ X ++ p :: y :: t).drop k0 = (W ++ X).drop k0 ++ p :: y :: t := by rw [List.drop_append_of_le_length (by simp; omega)]
  have hdl : ((W ++ X).drop k0).length = k2 - 1 := by simp; omega
  have i1 : idx ((W ++ X ++ p :: y :: t).drop k0) (k2 : Nat) = some y := by rw [ed]; exact uQ (by rw [hdl]; omega)
  have i2 : idx ((W ++ X ++ p :: y :: t).drop k0) (w64 ((k2 : Int) - 1)) = some p := by rw [aFl (by omega) (by omega), ed]; exact oH (by rw [hdl])
  simp only [eW, t0, hlt, cond_true, i1, i2, Option.bind_some, bH (show k2 < 9223372036854775807 by omega)]
  by_cases hyp : y = p
  ·subst hyp
   have := ih y W (X ++ [y]) (k2 + 1) k (by omega) (by simp; omega) h3 (by simp only [List.length_append, List.length_cons, List.length_nil]; omega) (by omega)
   have e1 : W ++ (X ++ [y]) ++ y :: t = W ++ X ++ y :: y :: t := by simp
   rw [e1] at this
   rw [decide_eq_true rfl, Bool.not_true, cond_false, this]
   simp [tS]
  ·have hd : (!decide (y = p)) = true := by rw [decide_eq_false hyp]; rfl
   have i3 : ∃ z, idx (W ++ X ++ p :: y :: t) (W.length : Nat) = some z := ⟨_, bM (by simp; omega)⟩
   obtain ⟨z, i3⟩ := i3
   rw [hd, cond_true, i3, Option.bind_some, t1, bH (by omega)]
   obtain ⟨X', e2⟩ : ∃ X', (W ++ X ++ p :: y :: t).set W.length y = (W ++ [y]) ++ X' ++ y :: t ∧ X'.length = X.length := by
    cases X with
    | nil => exact ⟨[], by simp, rfl⟩
    | cons x X => exact ⟨X ++ [p], by simp, by simp⟩
   rw [e2.1]
   have := ih y (W ++ [y]) X' (k2 + 1) k (by omega) (by rw [List.length_append, e2.2]; simp; omega) (by simp; omega) (by simp only [List.length_append, List.length_cons, List.length_nil, e2.2]; omega) (by omega)
   have e3 : (W ++ [y]).length = W.length + 1 := by simp
   rw [e3] at this
   rw [this]
   simp [tS, hyp]
theorem aOt (s : List aI) (hb : s.length < 4611686018427387904) : kE s = some (sM s) := by
 have main : ∀ (t A : List aI) (p : aI) (k : Nat), t.length < k → (A ++ p :: t).length < 4611686018427387904 → dK k ((A.length + 1 : Nat) : Int) (A ++ p :: t) = some (A ++ p :: tS p t) := by
  intro t
  induction t with
  | nil =>
   intro A p k hk hb
   obtain ⟨k, rfl⟩ : ∃ q, k = q + 1 := ⟨k - 1, by omega⟩
   have hlt : decide (((A.length + 1 : Nat) : Int) < ((A ++ [p]).length : Int)) = false := decide_eq_false (by simp)
   simp only [dK, hlt, cond_false, oS, tS]
  | cons y t ih =>
   intro A p k hk hb
   obtain ⟨k, rfl⟩ : ∃ q, k = q + 1 := ⟨k - 1, by omega⟩
   simp only [List.length_append, List.length_cons] at hb hk
   have hlt : decide (((A.length + 1 : Nat) : Int) < ((A ++ p :: y :: t).length : Int)) = true := decide_eq_true (by simp; omega)
   have i2 : w64 (((A.length + 1 : Nat) : Int) - 1) = (A.length : Int) := by rw [bW (by omega) (by omega)]; omega
   simp only [dK, hlt, cond_true, uQ rfl, i2, oH rfl, Option.bind_some]
   by_cases hyp : y = p
   ·subst hyp
    have c1 : (decide ((0 : Int) ≤ ((A.length + 1 : Nat) : Int)) && decide (((A.length + 1 : Nat) : Int) ≤ ((A ++ y :: y :: t).length : Int))) = true := by simp; omega
    rw [decide_eq_true rfl, cond_true, c1]
    simp only [chk, cond_true, Option.bind_some]
    have := aSu (dK k) (k0 := A.length + 1) t y (A ++ [y]) [] 1 BIG (Nat.le_refl _) (by simp) (by simp) (by simp only [List.length_append, List.length_cons, List.length_nil]; omega) (cE (by omega))
    have e3 : (A ++ [y]).length = A.length + 1 := by simp
    have e4 : A ++ [y] ++ [] ++ y :: t = A ++ y :: y :: t := by simp
    rw [e3, e4] at this
    have e5 : ((1 : Nat) : Int) = 1 := rfl
    rw [e5] at this
    rw [this]
    simp [tS]
   ·rw [decide_eq_false hyp, cond_false]
    unfold oU
    rw [bH (by omega)]
    have := ih (A ++ [p]) y k (by omega) (by simp only [List.length_append, List.length_cons, List.length_nil]; omega)
    have e3 : (A ++ [p]).length = A.length + 1 := by simp
    have e4 : A ++ [p] ++ y :: t = A ++ p :: y :: t := by simp
    rw [e3, e4] at this
    rw [this]
    simp [tS, hyp]
 unfold kE
 match s, hb with
 | [], _ => simp [sM]
 | x :: t, hb =>
  by_cases ht : t = []
  ·subst ht; simp [sM, tS]
  ·have hl : 0 < t.length := List.length_pos_iff.2 ht
   have hd : decide (((x :: t).length : Int) < 2) = false := decide_eq_false (by simp; omega)
   rw [hd, cond_false]
   have := main t [] x BIG (cE (by simp at hb; omega)) (by simpa using hb)
   simp only [List.length_nil, List.nil_append, Nat.zero_add] at this
   have e5 : ((1 : Nat) : Int) = 1 := rfl
   rw [e5] at this
   rw [this]; rfl
theorem aWx (p x : aI) (t : List aI) : (x = p ∨ x ∈ tS p t) ↔ (x = p ∨ x ∈ t) := by
 induction t generalizing p with
 | nil => rfl
 | cons y t ih =>
  simp only [tS, List.mem_cons]
  by_cases h : y = p
  ·subst h
   rw [if_pos rfl]
   have := ih y
   constructor
   ·rintro (h | h)
    ·exact .inl h
    ·rcases this.1 (.inr h) with h | h
     ·exact .inl h
     ·exact .inr (.inr h)
   ·rintro (h | h | h)
    ·exact .inl h
    ·exact .inl h
    ·exact this.2 (.inr h)
  ·rw [if_neg h, List.mem_cons]
   have := ih y
   constructor
   ·rintro (h | h)
    ·exact .inl h
    ·exact .inr (this.1 h)
   ·rintro (h | h)
    ·exact .inl h
    ·exact .inr (this.2 h)
theorem aQv (x : aI) (s : List aI) : x ∈ sM s ↔ x ∈ s := by
 cases s with
 | nil => rfl
 | cons p t => simp only [sM, List.mem_cons]; exact aWx p x t
theorem aWy (p : aI) (t : List aI) : (tS p t).Sublist t := by
 induction t generalizing p with
 | nil => exact .slnil
 | cons y t ih =>
  simp only [tS]
  split
  ·exact (ih p).cons _
  ·exact (ih y).cons_cons _
theorem aRd (p : aI) (t : List aI) (hs : (p :: t).Pairwise fun x y => x.Id ≤ y.Id) (hcl : ∀ x ∈ p :: t, ∀ y ∈ p :: t, x.Id = y.Id → x = y) : (p :: tS p t).Pairwise fun x y => x.Id < y.Id := by
 induction t generalizing p with
 | nil => exact List.pairwise_singleton _ _
 | cons y t ih =>
  have h1 := List.pairwise_cons.1 hs
  have h2 := List.pairwise_cons.1 h1.2
  simp only [tS]
  by_cases h : y = p
  ·subst h
   rw [if_pos rfl]
   exact ih y h1.2 (fun a ha b hb => hcl a (List.mem_cons_of_mem _ ha) b (List.mem_cons_of_mem _ hb))
  ·rw [if_neg h]
   have h3 := ih y h1.2 (fun a ha b hb => hcl a (List.mem_cons_of_mem _ ha) b (List.mem_cons_of_mem _ hb))
   refine List.pairwise_cons.2 ⟨fun z hz => ?_, h3⟩
   have hpy : p.Id < y.Id := by
    have := h1.1 y (by simp)
    rcases Int.lt_or_eq_of_le this with h4 | h4
    ·exact h4
    ·exact absurd (hcl p (by simp) y (by simp) h4).symm h
   rcases List.mem_cons.1 hz with rfl | hz
   ·exact hpy
   ·exact Int.lt_trans hpy ((List.pairwise_cons.1 h3).1 z hz)
theorem zO {α : Type} {key : α → Int} : ∀ {xs ys : List α}, xs.Pairwise (fun x y => key x < key y) → ys.Pairwise (fun x y => key x < key y) → (∀ x, x ∈ xs ↔ x ∈ ys) → xs = ys
 | [], [], _, _, _ => rfl
 | [], y :: ys, _, _, h => by have := (h y).2 (by simp); simp at this
 | x :: xs, [], _, _, h => by have := (h x).1 (by simp); simp at this
 | x :: xs, y :: ys, h1, h2, h => by
  have a1 := List.pairwise_cons.1 h1
  have a2 := List.pairwise_cons.1 h2
  have hxy : x = y := by
   rcases List.mem_cons.1 ((h x).1 (by simp)) with e | e
   ·exact e
   ·rcases List.mem_cons.1 ((h y).2 (by simp)) with e2 | e2
    ·exact e2.symm
    ·have := a2.1 x e; have := a1.1 y e2; omega
  subst hxy
  have := zO a1.2 a2.2 fun z => by
   have hz := h z
   simp only [List.mem_cons] at hz
   constructor
   ·intro hm
    rcases hz.1 (.inr hm) with e | e
    ·have := a1.1 z hm; rw [e] at this; omega
    ·exact e
   ·intro hm
    rcases hz.2 (.inr hm) with e | e
    ·have := a2.1 z hm; rw [e] at this; omega
    ·exact e
  rw [this]
theorem bAi : vE (fun x y => rW x y) (fun x => 0 ≤ x.Id ∧ x.Id ≤ 99) (fun x y => x.Id ≤ y.Id) where
 run x y hx hy := ⟨x.Id - y.Id, by unfold rW; rw [bW (by omega) (by omega)], by omega⟩
 tot x y _ _ := by omega
 tr x y z _ _ _ h1 h2 := by omega
def aDa (xs : List aI) : Prop := ∃ x ∈ xs, ∃ y ∈ xs, x.Id = y.Id ∧ x ≠ y
theorem aVa (zs : List aI) (hb : zs.length < 4611686018427387904) : ∀ (d i k : Nat), zs.length - i = d → d < k → 1 ≤ i →
  (∃ j, i ≤ j ∧ ∃ (h : j < zs.length), (zs[j]).Id = (zs[j - 1]'(by omega)).Id ∧ zs[j] ≠ zs[j - 1]'(by omega)) ∧ lB zs k (i : Nat) = some ([], false) ∨
  (∀ j, i ≤ j → ∀ (h : j < zs.length), (zs[j]).Id = (zs[j - 1]'(by omega)).Id → zs[j] = zs[j - 1]'(by omega)) ∧ lB zs k (i : Nat) = some (sM zs, true) := by
 intro d
 induction d with
 | zero =>
  intro i k hd hk hi
  obtain ⟨k, rfl⟩ : ∃ q, k = q + 1 := ⟨k - 1, by omega⟩
  have hlt : decide ((i : Int) < (zs.length : Int)) = false := decide_eq_false (by omega)
  refine .inr ⟨fun j hj h => by omega, ?_⟩
  rw [lB, hlt, cond_false]
  unfold zN
  rw [aOt zs hb, Option.bind_some]
 | succ d ih =>
  intro i k hd hk hi
  obtain ⟨k, rfl⟩ : ∃ q, k = q + 1 := ⟨k - 1, by omega⟩
  have hil : i < zs.length := by omega
  have hlt : decide ((i : Int) < (zs.length : Int)) = true := decide_eq_true (by omega)
  have hp : w64 ((i : Int) - 1) = ((i - 1 : Nat) : Int) := aFl (by omega) (by omega)
  have hi1 : idx zs ((i - 1 : Nat) : Int) = some (zs[i - 1]'(by omega)) := bM (by omega)
  rw [lB, hlt, cond_true, bM hil, Option.bind_some, hp, hi1, Option.bind_some, Option.bind_some, Option.bind_some, dN, Option.bind_some]
  by_cases hc : (zs[i]).Id = (zs[i - 1]'(by omega)).Id ∧ zs[i] ≠ zs[i - 1]'(by omega)
  ·left
   rw [decide_eq_true hc.1, decide_eq_false hc.2]
   exact ⟨⟨i, Nat.le_refl _, hil, hc⟩, rfl⟩
  ·have hcf : (decide ((zs[i]).Id = (zs[i - 1]'(by omega)).Id) && !decide (zs[i] = zs[i - 1]'(by omega))) = false := by
    rw [Bool.eq_false_iff]; intro hn
    simp only [Bool.and_eq_true, decide_eq_true_eq, Bool.not_eq_true', decide_eq_false_iff_not] at hn
    exact hc hn
   rw [hcf, cond_false, bH (by omega)]
   rcases ih (i + 1) k (by omega) (by omega) (by omega) with ⟨⟨j, h1, h2⟩, h3⟩ | ⟨h1, h2⟩
   ·exact .inl ⟨⟨j, by omega, h2⟩, h3⟩
   ·refine .inr ⟨fun j hj h he => ?_, h2⟩
    rcases Nat.eq_or_lt_of_le hj with rfl | hj
    ·exact Classical.byContradiction fun hne => hc ⟨he, hne⟩
    ·exact h1 j hj h he
theorem aNg (xs : List aI) (hid : ∀ x ∈ xs, 0 ≤ x.Id ∧ x.Id ≤ 99) (hb : xs.length ≤ 1000000) :
  (aDa xs ∧ pG xs = some ([], false)) ∨ (¬ aDa xs ∧ ∃ zs, pG xs = some (zs, true) ∧ zs.Pairwise (fun x y => x.Id < y.Id) ∧ (∀ x, x ∈ zs ↔ x ∈ xs) ∧ zs.length ≤ xs.length) := by
 obtain ⟨ys, hp, hs, hr⟩ := aRw bAi xs hid (by omega)
 have hyl : ys.length = xs.length := hp.length_eq
 have hcl : lW xs = some xs := by
  unfold lW
  rw [kS (by simp; omega)]; rfl
 have e : pG xs = lB ys BIG 1 := by
  unfold pG
  rw [hcl, Option.bind_some, hr, Option.bind_some]
 have e1 : ((1 : Nat) : Int) = 1 := rfl
 rw [e]
 rcases aVa ys (by omega) _ 1 BIG rfl (cE (by omega)) (Nat.le_refl _) with ⟨⟨j, h1, h2, h3, h3'⟩, h4⟩ | ⟨h1, h2⟩
 ·exact .inl ⟨⟨_, hp.mem_iff.1 (List.getElem_mem h2), _, hp.mem_iff.1 (List.getElem_mem (show j - 1 < ys.length by omega)), h3, h3'⟩, by rw [← e1]; exact h4⟩
 ·right
  have heq : ∀ (n i : Nat) (h : i + n < ys.length), (ys[i + n]).Id = (ys[i]'(by omega)).Id → ys[i + n] = ys[i]'(by omega) := by
   intro n
   induction n with
   | zero => intro i h _; rfl
   | succ n ih =>
    intro i h he
    have a1 := List.pairwise_iff_getElem.1 hs
    have b1 : (ys[i]'(by omega)).Id ≤ (ys[i + n]'(by omega)).Id := by
     rcases Nat.eq_zero_or_pos n with rfl | hn
     ·exact Int.le_refl _
     ·exact a1 i (i + n) (by omega) (by omega) (by omega)
    have b2 : (ys[i + n]'(by omega)).Id ≤ (ys[i + (n + 1)]).Id := a1 (i + n) (i + (n + 1)) (by omega) h (by omega)
    have b3 : (ys[i + n]'(by omega)).Id = (ys[i]'(by omega)).Id := by omega
    have b4 := ih i (by omega) b3
    have b5 := h1 (i + (n + 1)) (by omega) h (by
     show (ys[i + (n + 1)]).Id = (ys[i + n]'(by omega)).Id
     omega)
    rw [← b4]; exact b5
  have hcl2 : ∀ x ∈ ys, ∀ y ∈ ys, x.Id = y.Id → x = y := by
   intro x hx y hy hxy
   obtain ⟨i, hi, rfl⟩ := List.getElem_of_mem hx
   obtain ⟨j, hj, rfl⟩ := List.getElem_of_mem hy
   rcases Nat.le_total i j with h | h
   ·obtain ⟨n, rfl⟩ : ∃ n, j = i + n := ⟨j - i, by omega⟩
    exact (heq n i hj hxy.symm).symm
   ·obtain ⟨n, rfl⟩ : ∃ n, i = j + n := ⟨i - j, by omega⟩
    exact heq n j hi hxy
  refine ⟨fun ⟨x, hx, y, hy, h3, h4⟩ => h4 (hcl2 x (hp.mem_iff.2 hx) y (hp.mem_iff.2 hy) h3), sM ys, by rw [← e1]; exact h2, ?_, fun x => (aQv x ys).trans hp.mem_iff, ?_⟩
  ·cases ys with
   | nil => exact .nil
   | cons p t => exact aRd p t hs hcl2
  ·cases ys with
   | nil => simp [sM]
   | cons p t => simp only [sM, List.length_cons] at hyl ⊢; have := (aWy p t).length_le; omega
end Go.Am
end
section
namespace Go.Am
theorem sF {α S T : Type} (F : Nat → Int → S → T) (l : List α) (f : S → α → S) (K : S → T) (s0 : S) (h1 : ∀ k i (hi : i < l.length) s, s = (l.take i).foldl f s0 → F (k + 1) (i : Nat) s = F k ((i + 1 : Nat) : Int) (f s l[i])) (h2 : ∀ k s, F (k + 1) (l.length : Nat) s = K s) :
  ∀ k, l.length < k → F k 0 s0 = K (l.foldl f s0) := by
 intro k hk
 have := kR F l.length (fun i s => K ((l.drop i).foldl f s)) (fun i s => s = (l.take i).foldl f s0) (fun k i s hi hI ih => by
  rw [h1 k i hi s hI, ih _ (by rw [List.take_succ_eq_append_getElem hi, List.foldl_append, ← hI]; rfl), List.drop_eq_getElem_cons hi]; rfl)
  (fun k s _ => by rw [h2]; simp) k s0 hk (by simp)
 simpa using this
theorem aKa {α β : Type} (f : α → β) : ∀ (t : List α) (s : List β), t.foldl (fun s r => s ++ [f r]) s = s ++ t.map f
 | [], s => by simp
 | x :: t, s => by rw [List.foldl_cons, aKa f t]; simp
theorem pP {α T : Type} (F : Nat → Int → T) (l : List α) (p : α → Bool) (bad K : T) (h1 : ∀ k i (hi : i < l.length), F (k + 1) (i : Nat) = bif p l[i] then F k ((i + 1 : Nat) : Int) else bad) (h2 : ∀ k, F (k + 1) (l.length : Nat) = K) (hb : l.length ≤ 1000000) :
  F BIG 0 = bif l.all p then K else bad := by
 have key : ∀ (d i k : Nat), l.length - i = d → d < k → i ≤ l.length → F k (i : Nat) = bif (l.drop i).all p then K else bad := by
  intro d
  induction d with
  | zero =>
   intro i k hd hk hi
   obtain ⟨k, rfl⟩ : ∃ q, k = q + 1 := ⟨k - 1, by omega⟩
   have : i = l.length := by omega
   subst this
   rw [h2, List.drop_length]; rfl
  | succ d ih =>
   intro i k hd hk hi
   obtain ⟨k, rfl⟩ : ∃ q, k = q + 1 := ⟨k - 1, by omega⟩
   have hil : i < l.length := by omega
   rw [h1 k i hil, List.drop_eq_getElem_cons hil, List.all_cons]
   cases p l[i] with
   | true => rw [cond_true, Bool.true_and]; exact ih (i + 1) k (by omega) (by omega) (by omega)
   | false => rw [cond_false, Bool.false_and, cond_false]
 exact key l.length 0 BIG rfl (cE (by omega)) (Nat.zero_le _)
def atB {α : Type} (l : List α) (p : List α → α → Bool) (i : Nat) : Bool := match l[i]? with | some x => p (l.take i) x | none => true
theorem aKp {α : Type} {l : List α} {p : List α → α → Bool} {i : Nat} (hi : i < l.length) : atB l p i = p (l.take i) l[i] := by unfold atB; rw [List.getElem?_eq_getElem hi]
def pE {α : Type} (l : List α) (p : List α → α → Bool) : Bool := (List.range l.length).all (atB l p)
theorem uW {α T : Type} (F : Nat → Int → T) (l : List α) (p : List α → α → Bool) (bad K : T) (h1 : ∀ k i (hi : i < l.length), F (k + 1) (i : Nat) = bif p (l.take i) l[i] then F k ((i + 1 : Nat) : Int) else bad) (h2 : ∀ k, F (k + 1) (l.length : Nat) = K) (hb : l.length ≤ 1000000) :
  F BIG 0 = bif pE l p then K else bad := by
 refine (aBi F l.length (atB l p) bad K (fun k i hi => ?_) h2 BIG (cE (by omega)))
 rw [h1 k i hi, aKp hi]
theorem aLu {α : Type} (l : List α) (p : List α → α → Bool) (Q : α → Prop) (R : α → α → Prop) (h : ∀ pre x, p pre x = true ↔ Q x ∧ ∀ y ∈ pre, R y x) : pE l p = true ↔ (∀ x ∈ l, Q x) ∧ l.Pairwise R := by
 unfold pE
 rw [List.all_eq_true]
 constructor
 ·intro ha
  have key : ∀ (i : Nat) (hi : i < l.length), Q l[i] ∧ ∀ y ∈ l.take i, R y l[i] := fun i hi => by
   have := ha i (List.mem_range.2 hi)
   rw [aKp hi] at this
   exact (h _ _).1 this
  refine ⟨fun x hx => ?_, List.pairwise_iff_getElem.2 fun i j hi hj hij => ?_⟩
  ·obtain ⟨i, hi, rfl⟩ := List.getElem_of_mem hx
   exact (key i hi).1
  ·exact (key j hj).2 _ (List.mem_take_iff_getElem.2 ⟨i, by omega, rfl⟩)
 ·rintro ⟨h1, h2⟩ i hi
  have hi' := List.mem_range.1 hi
  rw [aKp hi']
  refine (h _ _).2 ⟨h1 _ (List.getElem_mem hi'), fun y hy => ?_⟩
  obtain ⟨j, hj, rfl⟩ := List.mem_take_iff_getElem.1 hy
  exact List.pairwise_iff_getElem.1 h2 j i (by omega) hi' (by omega)
theorem yN (n a b : Int) : gH n a b = some (decide (a ≤ n) && decide (n ≤ b)) := by unfold gH; rw [dN, Option.bind_some]
theorem vK (n a b : Int) : dR n a b = some (decide (a ≤ n) && decide (n ≤ b)) := by unfold dR; rw [dN, Option.bind_some]
def fM (t : bR) : List Int := if t.Two = -1 then [t.One] else [t.One, t.Two]
def cW (p : aP) : List Int := p.Teams.flatMap fM
theorem vH (l : List bR) : (l.flatMap fM).length ≤ 2 * l.length := by
 induction l with
 | nil => simp
 | cons t l ih =>
  rw [List.flatMap_cons, List.length_append, List.length_cons]
  have : (fM t).length ≤ 2 := by unfold fM; split <;> simp
  omega
theorem aGr {α β : Type} (g : α → List β) : ∀ (l : List α) (s : List β), l.foldl (fun s x => s ++ g x) s = s ++ l.flatMap g
 | [], s => by simp
 | x :: l, s => by rw [List.foldl_cons, aGr g l]; simp
theorem aEr (p : aP) (hb : p.Teams.length ≤ 1000) : oP p = some (eQ (cW p)) := by
 unfold oP
 have main := sF (fun k i s => jZ p.Teams (p.Teams.length : Int) k i s) p.Teams (fun s t => s ++ fM t) (fun s => sV s) [] ?_ ?_ BIG (cE (by omega))
 ·refine Eq.trans main ?_
  rw [aGr, List.nil_append]
  have := vH p.Teams
  unfold sV slices_Sort_int
  rw [if_pos (by omega)]; rfl
 ·intro k i hi s hs
  have hlt : decide ((i : Int) < (p.Teams.length : Int)) = true := decide_eq_true (by omega)
  have hsl : s.length ≤ 2 * i := by
   rw [hs, aGr, List.nil_append]
   have := vH (p.Teams.take i)
   rw [List.length_take] at this
   omega
  rw [jZ, hlt, cond_true, bM hi, Option.bind_some, kS (by simp; omega), Option.bind_some]
  unfold fM
  by_cases h2 : p.Teams[i].Two = -1
  ·rw [decide_eq_true h2, if_pos h2, Bool.not_true, cond_false, bH (by omega)]
  ·rw [decide_eq_false h2, if_neg h2, Bool.not_false, cond_true, kS (by simp; omega), Option.bind_some, bH (by omega), List.append_assoc]; rfl
 ·intro k s
  have hlt : decide ((p.Teams.length : Int) < (p.Teams.length : Int)) = false := decide_eq_false (by omega)
  rw [jZ, hlt, cond_false]
theorem aLn (p : aP) (n : Int) : n ∈ eQ (cW p) ↔ ∃ t ∈ p.Teams, t.One = n ∨ (t.Two = n ∧ t.Two ≠ -1) := by
 rw [(mI (cW p)).mem_iff]
 unfold cW
 rw [List.mem_flatMap]
 constructor
 ·rintro ⟨t, ht, hn⟩
  refine ⟨t, ht, ?_⟩
  unfold fM at hn
  split at hn
  ·simp at hn; exact .inl hn.symm
  ·rename_i h2
   simp at hn
   rcases hn with rfl | rfl
   ·exact .inl rfl
   ·exact .inr ⟨rfl, h2⟩
 ·rintro ⟨t, ht, hn⟩
  refine ⟨t, ht, ?_⟩
  unfold fM
  split
  ·rename_i h2
   rcases hn with rfl | ⟨_, h3⟩
   ·simp
   ·exact absurd h2 h3
  ·rcases hn with rfl | ⟨rfl, _⟩ <;> simp
end Go.Am
end
section
namespace Go.Am
def qK (p : Int) : List Int → List Int
 | [] => []
 | y :: t => if y = p then qK p t else y :: qK y t
def yW : List Int → List Int
 | [] => []
 | x :: t => x :: qK x t
theorem aQu (again : Int → List Int → Option (List Int)) {k0 : Nat} : ∀ (t : List Int) (p : Int) (W X : List Int) (k2 k : Nat), 1 ≤ k2 → W.length + X.length + 1 = k0 + k2 → k0 ≤ W.length → (W ++ X ++ p :: t).length < 4611686018427387904 → t.length < k →
  gN again (k0 : Nat) k (W.length : Nat) (k2 : Nat) (W ++ X ++ p :: t) = some (W ++ qK p t) := by
 intro t
 induction t with
 | nil =>
  intro p W X k2 k h1 h2 h3 hb hk
  obtain ⟨k, rfl⟩ : ∃ q, k = q + 1 := ⟨k - 1, by omega⟩
  simp only [List.length_append, List.length_cons, List.length_nil] at hb
  have t0 : ((k0 : Nat) : Int).toNat = k0 := rfl
  have t1 : ((W.length : Nat) : Int).toNat = W.length := rfl
  have hlt : decide ((k2 : Int) < (((W ++ X ++ [p]).drop k0).length : Int)) = false := decide_eq_false (by simp; omega)
  have c1 : (decide ((0 : Int) ≤ (W.length : Int)) && decide ((W.length : Int) ≤ ((W ++ X ++ [p]).length : Int))) = true := by simp; omega
  have c2 : decide (W.length ≤ (W ++ X ++ [p]).length) = true := by simp
  have c3 : decide ((0 : Int) ≤ (W.length : Int)) = true := by simp
  simp only [gN, t0, hlt, cond_false, sA]
  rw [c1, t1, c2, c3]
  simp [chk, qK]
 | cons y t ih =>
  intro p W X k2 k h1 h2 h3 hb hk
  obtain ⟨k, rfl⟩ : ∃ q, k = q + 1 := ⟨k - 1, by omega⟩
  simp only [List.length_append, List.length_cons] at hb hk
  have t0 : ((k0 : Nat) : Int).toNat = k0 := rfl
  have t1 : ((W.length : Nat) : Int).toNat = W.length := rfl
  have hlt : decide ((k2 : Int) < (((W ++ X ++ p :: y :: t).drop k0).length : Int)) = true := decide_eq_true (by simp; omega)
  have ed : (W ++ X ++ p :: y :: t).drop k0 = (W ++ X).drop k0 ++ p :: y :: t := by rw [List.drop_append_of_le_length (by simp; omega)]
  have hdl : ((W ++ X).drop k0).length = k2 - 1 := by simp; omega
  have i1 : idx ((W ++ X ++ p :: y :: t).drop k0) (k2 : Nat) = some y := by rw [ed]; exact uQ (by rw [hdl]; omega)
  have i2 : idx ((W ++ X ++ p :: y :: t).drop k0) (w64 ((k2 : Int) - 1)) = some p := by rw [aFl (by omega) (by omega), ed]; exact oH (by rw [hdl])
  simp only [gN, t0, hlt, cond_true, i1, i2, Option.bind_some, bH (show k2 < 9223372036854775807 by omega)]
  by_cases hyp : y = p
  ·subst hyp
   have := ih y W (X ++ [y]) (k2 + 1) k (by omega) (by simp; omega) h3 (by simp only [List.length_append, List.length_cons, List.length_nil]; omega) (by omega)
   have e1 : W ++ (X ++ [y]) ++ y :: t = W ++ X ++ y :: y :: t := by simp
   rw [e1] at this
   rw [decide_eq_true rfl, Bool.not_true, cond_false, this]
   simp [qK]
  ·have hd : (!decide (y = p)) = true := by rw [decide_eq_false hyp]; rfl
   have i3 : ∃ z, idx (W ++ X ++ p :: y :: t) (W.length : Nat) = some z := ⟨_, bM (by simp; omega)⟩
   obtain ⟨z, i3⟩ := i3
   rw [hd, cond_true, i3, Option.bind_some, t1, bH (by omega)]
   obtain ⟨X', e2⟩ : ∃ X', (W ++ X ++ p :: y :: t).set W.length y = (W ++ [y]) ++ X' ++ y :: t ∧ X'.length = X.length := by
    cases X with
    | nil => exact ⟨[], by simp, rfl⟩
    | cons x X => exact ⟨X ++ [p], by simp, by simp⟩
   rw [e2.1]
   have := ih y (W ++ [y]) X' (k2 + 1) k (by omega) (by rw [List.length_append, e2.2]; simp; omega) (by simp; omega) (by simp only [List.length_append, List.length_cons, List.length_nil, e2.2]; omega) (by omega)
   have e3 : (W ++ [y]).length = W.length + 1 := by simp
   rw [e3] at this
   rw [this]
   simp [qK, hyp]
theorem aNp (s : List Int) (hb : s.length < 4611686018427387904) : slices_Compact_int s = some (yW s) := by
 have main : ∀ (t A : List Int) (p : Int) (k : Nat), t.length < k → (A ++ p :: t).length < 4611686018427387904 → fA k ((A.length + 1 : Nat) : Int) (A ++ p :: t) = some (A ++ p :: qK p t) := by
  intro t
  induction t with
  | nil =>
   intro A p k hk hb
   obtain ⟨k, rfl⟩ : ∃ q, k = q + 1 := ⟨k - 1, by omega⟩
   have hlt : decide (((A.length + 1 : Nat) : Int) < ((A ++ [p]).length : Int)) = false := decide_eq_false (by simp)
   simp only [fA, hlt, cond_false, rY, qK]
  | cons y t ih =>
   intro A p k hk hb
   obtain ⟨k, rfl⟩ : ∃ q, k = q + 1 := ⟨k - 1, by omega⟩
   simp only [List.length_append, List.length_cons] at hb hk
   have hlt : decide (((A.length + 1 : Nat) : Int) < ((A ++ p :: y :: t).length : Int)) = true := decide_eq_true (by simp; omega)
   have i2 : w64 (((A.length + 1 : Nat) : Int) - 1) = (A.length : Int) := by rw [bW (by omega) (by omega)]; omega
   simp only [fA, hlt, cond_true, uQ rfl, i2, oH rfl, Option.bind_some]
   by_cases hyp : y = p
   ·subst hyp
    have c1 : (decide ((0 : Int) ≤ ((A.length + 1 : Nat) : Int)) && decide (((A.length + 1 : Nat) : Int) ≤ ((A ++ y :: y :: t).length : Int))) = true := by simp; omega
    rw [decide_eq_true rfl, cond_true, c1]
    simp only [chk, cond_true, Option.bind_some]
    have := aQu (fA k) (k0 := A.length + 1) t y (A ++ [y]) [] 1 BIG (Nat.le_refl _) (by simp) (by simp) (by simp only [List.length_append, List.length_cons, List.length_nil]; omega) (cE (by omega))
    have e3 : (A ++ [y]).length = A.length + 1 := by simp
    have e4 : A ++ [y] ++ [] ++ y :: t = A ++ y :: y :: t := by simp
    rw [e3, e4] at this
    have e5 : ((1 : Nat) : Int) = 1 := rfl
    rw [e5] at this
    rw [this]
    simp [qK]
   ·rw [decide_eq_false hyp, cond_false]
    unfold rZ
    rw [bH (by omega)]
    have := ih (A ++ [p]) y k (by omega) (by simp only [List.length_append, List.length_cons, List.length_nil]; omega)
    have e3 : (A ++ [p]).length = A.length + 1 := by simp
    have e4 : A ++ [p] ++ y :: t = A ++ p :: y :: t := by simp
    rw [e3, e4] at this
    rw [this]
    simp [qK, hyp]
 unfold slices_Compact_int
 match s, hb with
 | [], _ => simp [yW]
 | x :: t, hb =>
  by_cases ht : t = []
  ·subst ht; simp [yW, qK]
  ·have hl : 0 < t.length := List.length_pos_iff.2 ht
   have hd : decide (((x :: t).length : Int) < 2) = false := decide_eq_false (by simp; omega)
   rw [hd, cond_false]
   have := main t [] x BIG (cE (by simp at hb; omega)) (by simpa using hb)
   simp only [List.length_nil, List.nil_append, Nat.zero_add] at this
   have e5 : ((1 : Nat) : Int) = 1 := rfl
   rw [e5] at this
   rw [this]; rfl
theorem aUr (p : Int) (t : List Int) : (qK p t).Sublist t := by
 induction t generalizing p with
 | nil => exact .slnil
 | cons y t ih =>
  simp only [qK]
  split
  ·exact (ih p).cons _
  ·exact (ih y).cons_cons _
theorem aPf : ∀ (t : List Int) (p : Int), (p :: t).Pairwise (fun x y => x ≤ y) → ((qK p t).length = t.length ↔ (p :: t).Nodup)
 | [], p, _ => by simp [qK]
 | y :: t, p, h => by
  have h1 := List.pairwise_cons.1 h
  have h2 := List.pairwise_cons.1 h1.2
  rw [qK]
  by_cases hy : y = p
  ·subst hy
   rw [if_pos rfl]
   have := (aUr y t).length_le
   constructor
   ·intro he
    rw [List.length_cons] at he
    omega
   ·intro hn
    simp at hn
  ·rw [if_neg hy, List.length_cons, List.length_cons, List.nodup_cons]
   have ih := aPf t y h1.2
   have hpy := h1.1 y List.mem_cons_self
   have hnp : p ∉ y :: t := fun hm => by
    rcases List.mem_cons.1 hm with e | e
    ·exact hy e.symm
    ·have := h2.1 p e; omega
   constructor
   ·intro he; exact ⟨hnp, ih.1 (by omega)⟩
   ·rintro ⟨_, hn⟩; have := ih.2 hn; omega
theorem aGn (xs : List Int) (hb : xs.length ≤ 100000) : oJ (eQ xs) = some (decide xs.Nodup) := by
 have hp := mI xs
 have hl := hp.length_eq
 have hs : (eQ xs).Pairwise fun x y : Int => x ≤ y := by
  have := List.pairwise_mergeSort (le := fun x y : Int => decide (x ≤ y)) (by intro a b c; simp only [decide_eq_true_eq]; omega) (by intro a b; simp only [Bool.or_eq_true, decide_eq_true_eq]; omega) xs
  exact this.imp fun h => by simpa using h
 have hcl : slices_Clone_int (eQ xs) = some (eQ xs) := by
  unfold slices_Clone_int
  rw [kS (by simp; omega)]; rfl
 unfold oJ
 rw [hcl, Option.bind_some, aNp _ (by omega), Option.bind_some]
 congr 1
 rw [decide_eq_decide, ← hp.nodup_iff]
 cases hys : eQ xs with
 | nil => simp [yW]
 | cons p t =>
  rw [hys] at hs
  have := aPf t p hs
  rw [← this, yW, List.length_cons, List.length_cons]
  omega
end Go.Am
end
section
namespace Go.Am
theorem aJn (b : Bool) : (bif b then some true else some false) = some b := by cases b <;> rfl
def wB (n a b : Int) : Bool := decide (a ≤ n) && decide (n ≤ b)
theorem aBq {n a b : Int} : wB n a b = true ↔ a ≤ n ∧ n ≤ b := by unfold wB; simp
def mJ (t : bR) : Bool := wB t.Player 0 999 && wB t.One 0 999 && wB t.Two (-1) 999
theorem oB {t : bR} : mJ t = true ↔ (0 ≤ t.Player ∧ t.Player ≤ 999) ∧ (0 ≤ t.One ∧ t.One ≤ 999) ∧ (-1 ≤ t.Two ∧ t.Two ≤ 999) := by unfold mJ; simp [aBq, and_assoc]
def dP (p : aP) : List Int := p.Teams.map fun t => t.Player
def lZ (p : aP) (n : Int) : Bool := decide (n ∈ cW p)
theorem wU (p : aP) (n : Int) : lZ p n = decide (n ∈ eQ (cW p)) := by unfold lZ; rw [decide_eq_decide]; exact (mI _).mem_iff.symm
def tH (p : aP) (n : Int) : Option bR := p.Teams.find? fun t => decide (t.One = n) || (decide (t.Two = n) && decide (0 ≤ n))
theorem aYf (p : aP) (n : Int) (hb : p.Teams.length ≤ 1000) : oG p n = some (match tH p n with | some t => (t, decide (t.Two = n), true) | none => (⟨0, 0, 0⟩, false, false)) := by
 unfold oG tH
 have key : ∀ (d i k : Nat), p.Teams.length - i = d → d < k → i ≤ p.Teams.length → jW n p k (i : Nat) ⟨0, 0, 0⟩ = some (match (p.Teams.drop i).find? fun t => decide (t.One = n) || (decide (t.Two = n) && decide (0 ≤ n)) with | some t => (t, decide (t.Two = n), true) | none => (⟨0, 0, 0⟩, false, false)) := by
  intro d
  induction d with
  | zero =>
   intro i k hd hk hi
   obtain ⟨k, rfl⟩ : ∃ q, k = q + 1 := ⟨k - 1, by omega⟩
   have : i = p.Teams.length := by omega
   subst this
   have hlt : decide ((p.Teams.length : Int) < (p.Teams.length : Int)) = false := decide_eq_false (by omega)
   rw [jW, hlt, cond_false, List.drop_length]; rfl
  | succ d ih =>
   intro i k hd hk hi
   obtain ⟨k, rfl⟩ : ∃ q, k = q + 1 := ⟨k - 1, by omega⟩
   have hil : i < p.Teams.length := by omega
   have hlt : decide ((i : Int) < (p.Teams.length : Int)) = true := decide_eq_true (by omega)
   rw [jW, hlt, cond_true, bM hil, Option.bind_some, Option.bind_some, dN, Option.bind_some, eC, Option.bind_some, List.drop_eq_getElem_cons hil, List.find?_cons]
   cases (decide (p.Teams[i].One = n) || (decide (p.Teams[i].Two = n) && decide (0 ≤ n))) with
   | true => rw [cond_true, Option.bind_some, Option.bind_some]
   | false => rw [cond_false, bH (by omega)]; exact ih (i + 1) k (by omega) (by omega) (by omega)
 exact key p.Teams.length 0 BIG rfl (cE (by omega)) (Nat.zero_le _)
theorem aMq {p : aP} (ht : ∀ t ∈ p.Teams, mJ t = true) (n : Int) : ((tH p n).isSome && decide (0 ≤ n)) = lZ p n := by
 rw [wU]
 unfold tH
 rw [Bool.eq_iff_iff, Bool.and_eq_true, decide_eq_true_eq, decide_eq_true_eq, List.find?_isSome, aLn]
 constructor
 ·rintro ⟨⟨t, h1, h2⟩, h3⟩
  simp only [Bool.or_eq_true, Bool.and_eq_true, decide_eq_true_eq] at h2
  refine ⟨t, h1, ?_⟩
  rcases h2 with h2 | h2
  ·exact .inl h2
  ·exact .inr ⟨h2.1, by omega⟩
 ·rintro ⟨t, h1, h2⟩
  have := oB.1 (ht t h1)
  simp only [Bool.or_eq_true, Bool.and_eq_true, decide_eq_true_eq]
  rcases h2 with h2 | ⟨h2, h3⟩
  ·exact ⟨⟨t, h1, .inl h2⟩, by omega⟩
  ·exact ⟨⟨t, h1, .inr ⟨h2, by omega⟩⟩, by omega⟩
theorem aBx {p : aP} (ht : ∀ t ∈ p.Teams, mJ t = true) (n : Int) (hb : p.Teams.length ≤ 1000) : iJ p n = some (lZ p n) := by
 unfold iJ
 rw [aYf p n hb, Option.bind_some, ← aMq ht n]
 cases tH p n with
 | none => rfl
 | some t => rfl
theorem aOu (p : aP) (n : Int) (hb : p.Teams.length ≤ 1000) : lT p n = some (decide (n ∈ dP p)) := by
 unfold lT
 have main := pP (fun k i => iN n p k i) p.Teams (fun t => !decide (t.Player = n)) (some true) (some false) (fun k i hi => by
  have hlt : decide ((i : Int) < (p.Teams.length : Int)) = true := decide_eq_true (by omega)
  rw [iN, hlt, cond_true, bM hi, Option.bind_some, bH (by omega)]
  cases decide (p.Teams[i].Player = n) <;> rfl) (fun k => by
  have hlt : decide ((p.Teams.length : Int) < (p.Teams.length : Int)) = false := decide_eq_false (by omega)
  rw [iN, hlt, cond_false]; rfl) (by omega)
 refine Eq.trans main ?_
 have : (p.Teams.all fun t => !decide (t.Player = n)) = !decide (n ∈ dP p) := by
  unfold dP
  rw [Bool.eq_iff_iff, List.all_eq_true, Bool.not_eq_true', decide_eq_false_iff_not, List.mem_map]
  constructor
  ·rintro h ⟨t, h1, h2⟩
   have := h t h1
   simp [h2] at this
  ·intro h t h1
   simp only [Bool.not_eq_true', decide_eq_false_iff_not]
   exact fun h2 => h ⟨t, h1, h2⟩
 rw [this]
 cases decide (n ∈ dP p) <;> rfl
def aEk (p : aP) (pre : List fX) (x : fX) : Bool := lZ p x.Person && wB x.Mille 0 500 && !decide (x.Person ∈ pre.map fun y => y.Person)
def aEw (p : aP) (pre : List eO) (x : eO) : Bool := lZ p x.Person && wB x.Num 1 10000 && wB x.Den 1 10000 && !decide (x.Person ∈ pre.map fun y => y.Person)
def mN (p : aP) : Bool := pE p.Levies (aEk p)
def pY (p : aP) : Bool := pE p.Rates (aEw p)
theorem aTf (p : aP) (hb : p.Levies.length ≤ 1000) (ht : p.Teams.length ≤ 1000) : lU (eQ (cW p)) p.Levies (fun y => lG y) = some (mN p) := by
 unfold lU mN
 have hpl : (eQ (cW p)).length ≤ 2000 := by rw [(mI _).length_eq]; have := vH p.Teams; unfold cW; omega
 have main := uW (fun k i => gF (eQ (cW p)) (fun y => lG y) p.Levies (p.Levies.length : Int) k i ((p.Levies.take i.toNat).map fun y => y.Person)) p.Levies (aEk p) (some false) (some true) (fun k i hi => by
  have hlt : decide ((i : Int) < (p.Levies.length : Int)) = true := decide_eq_true (by omega)
  have e1 : lG p.Levies[i] = some (p.Levies[i].Person, wB p.Levies[i].Mille 0 500) := by unfold lG; rw [yN, Option.bind_some]; rfl
  have ei : ((i : Nat) : Int).toNat = i := rfl
  have ei2 : (((i + 1 : Nat) : Int)).toNat = i + 1 := rfl
  have hml : ((p.Levies.take i).map fun y => y.Person).length ≤ 1000 := by simp; omega
  rw [gF, hlt, cond_true, bM hi, Option.bind_some, e1, Option.bind_some, ei, iR _ (by omega), Option.bind_some, eC, Option.bind_some, iR _ (by omega), Option.bind_some, eC, Option.bind_some, ei2]
  unfold aEk
  rw [wU]
  cases hw : wB p.Levies[i].Mille 0 500 <;> cases hm : decide (p.Levies[i].Person ∈ eQ (cW p)) <;> cases hd : decide (p.Levies[i].Person ∈ (p.Levies.take i).map fun y => y.Person) <;> simp only [Bool.not_true, Bool.not_false, Bool.true_or, Bool.or_true, Bool.false_or, Bool.or_false, cond_true, cond_false, Bool.and_true, Bool.and_false, Bool.true_and, Bool.false_and]
  rw [kS (by rw [List.length_singleton]; omega), Option.bind_some, bH (by omega), List.take_succ_eq_append_getElem hi, List.map_append]; rfl) (fun k => by
  have hlt : decide ((p.Levies.length : Int) < (p.Levies.length : Int)) = false := decide_eq_false (by omega)
  rw [gF, hlt, cond_false]; rfl) (by omega)
 exact main.trans (aJn _)
theorem aVi (p : aP) (hb : p.Rates.length ≤ 1000) (ht : p.Teams.length ≤ 1000) : lV (eQ (cW p)) p.Rates (fun y => lH y) = some (pY p) := by
 unfold lV pY
 have hpl : (eQ (cW p)).length ≤ 2000 := by rw [(mI _).length_eq]; have := vH p.Teams; unfold cW; omega
 have main := uW (fun k i => gG (eQ (cW p)) (fun y => lH y) p.Rates (p.Rates.length : Int) k i ((p.Rates.take i.toNat).map fun y => y.Person)) p.Rates (aEw p) (some false) (some true) (fun k i hi => by
  have hlt : decide ((i : Int) < (p.Rates.length : Int)) = true := decide_eq_true (by omega)
  have e1 : lH p.Rates[i] = some (p.Rates[i].Person, wB p.Rates[i].Num 1 10000 && wB p.Rates[i].Den 1 10000) := by unfold lH; simp only [yN, Option.bind_some, dN]; rfl
  have ei : ((i : Nat) : Int).toNat = i := rfl
  have ei2 : (((i + 1 : Nat) : Int)).toNat = i + 1 := rfl
  have hml : ((p.Rates.take i).map fun y => y.Person).length ≤ 1000 := by simp; omega
  rw [gG, hlt, cond_true, bM hi, Option.bind_some, e1, Option.bind_some, ei, iR _ (by omega), Option.bind_some, eC, Option.bind_some, iR _ (by omega), Option.bind_some, eC, Option.bind_some, ei2]
  unfold aEw
  rw [wU]
  cases hw : wB p.Rates[i].Num 1 10000 <;> cases hw2 : wB p.Rates[i].Den 1 10000 <;> cases hm : decide (p.Rates[i].Person ∈ eQ (cW p)) <;> cases hd : decide (p.Rates[i].Person ∈ (p.Rates.take i).map fun y => y.Person) <;> simp only [Bool.not_true, Bool.not_false, Bool.true_or, Bool.or_true, Bool.false_or, Bool.or_false, cond_true, cond_false, Bool.and_true, Bool.and_false, Bool.true_and, Bool.false_and]
  rw [kS (by rw [List.length_singleton]; omega), Option.bind_some, bH (by omega), List.take_succ_eq_append_getElem hi, List.map_append]; rfl) (fun k => by
  have hlt : decide ((p.Rates.length : Int) < (p.Rates.length : Int)) = false := decide_eq_false (by omega)
  rw [gG, hlt, cond_false]; rfl) (by omega)
 exact main.trans (aJn _)
end Go.Am
end
section
namespace Go.Am
def xW (p : aP) : Bool := p.Tree.Slots.all fun x => decide (x = -1) || decide (x ∈ dP p)
def uT (p : aP) : Bool := p.Slips.all fun s => !decide (s.Kind = 5) || decide (s.Player ∈ dP p)
def oC (p : aP) : Bool := decide (p.Teams.length ≤ 64) && p.Teams.all mJ && decide (dP p).Nodup && decide (cW p).Nodup && xW p && uT p
structure Sz (p : aP) : Prop where
 slots : p.Tree.Slots.length ≤ 1000
 slips : p.Slips.length ≤ 1000
 prizes : p.Prizes.length ≤ 1000
 teams : p.Teams.length ≤ 1000
 levies : p.Levies.length ≤ 1000
 rates : p.Rates.length ≤ 1000
 items : p.Items.length ≤ 1000
section
variable {p : aP} (hz : Sz p)
include hz
theorem bAp : rV p = some (oC p && mN p && pY p) := by
 have h1 := hz.teams
 have hsp := hz.slips
 have hsl := hz.slots
 have hpp : (cW p).length ≤ 2000 := by have := vH p.Teams; unfold cW; omega
 have hpt : (dP p).length = p.Teams.length := by unfold dP; simp
 unfold rV
 by_cases h64 : p.Teams.length ≤ 64
 ·rw [decide_eq_false (by omega), cond_false]
  have main := pP (fun k i => kH p.Teams (p.Teams.length : Int) p k i ((p.Teams.take i.toNat).map fun t => t.Player)) p.Teams mJ (some false) (oX p (dP p)) (fun k i hi => by
   have hlt : decide ((i : Int) < (p.Teams.length : Int)) = true := decide_eq_true (by omega)
   have ei : ((i : Nat) : Int).toNat = i := rfl
   have ei2 : (((i + 1 : Nat) : Int)).toNat = i + 1 := rfl
   rw [kH, hlt, cond_true, bM hi, Option.bind_some, yN, Option.bind_some, yN, Option.bind_some, eC, Option.bind_some, yN, Option.bind_some, eC, Option.bind_some, ei, ei2]
   have e : (!(decide (0 ≤ p.Teams[i].Player) && decide (p.Teams[i].Player ≤ 999)) || !(decide (0 ≤ p.Teams[i].One) && decide (p.Teams[i].One ≤ 999)) || !(decide (-1 ≤ p.Teams[i].Two) && decide (p.Teams[i].Two ≤ 999))) = !mJ p.Teams[i] := by unfold mJ wB; simp only [Bool.not_and, Bool.or_assoc]
   rw [e]
   cases mJ p.Teams[i] with
   | true => rw [Bool.not_true, cond_false, cond_true, kS (by simp; omega), Option.bind_some, bH (by omega), List.take_succ_eq_append_getElem hi, List.map_append]; rfl
   | false => rfl) (fun k => by
   have hlt : decide ((p.Teams.length : Int) < (p.Teams.length : Int)) = false := decide_eq_false (by omega)
   have ei : ((p.Teams.length : Nat) : Int).toNat = p.Teams.length := rfl
   rw [kH, hlt, cond_false, ei, List.take_length]; rfl) (by omega)
  refine Eq.trans main ?_
  have hK4 : oZ (eQ (cW p)) p = some (mN p && pY p) := by
   unfold oZ
   rw [aTf p hz.levies h1, Option.bind_some, aVi p hz.rates h1, Option.bind_some, dN, Option.bind_some]
  have hK2 : oY (eQ (cW p)) p (eQ (dP p)) = some (uT p && (mN p && pY p)) := by
   unfold oY
   have m := pP (fun k i => kI (eQ (cW p)) p.Slips (p.Slips.length : Int) p (eQ (dP p)) k i) p.Slips (fun s => !decide (s.Kind = 5) || decide (s.Player ∈ dP p)) (some false) (oZ (eQ (cW p)) p) (fun k i hi => by
    have hlt : decide ((i : Int) < (p.Slips.length : Int)) = true := decide_eq_true (by omega)
    have hc : decide (p.Slips[i].Player ∈ eQ (dP p)) = decide (p.Slips[i].Player ∈ dP p) := by rw [decide_eq_decide]; exact (mI _).mem_iff
    rw [kI, hlt, cond_true, bM hi, Option.bind_some, iR _ (by rw [(mI _).length_eq]; omega), Option.bind_some, dN, Option.bind_some, hc, bH (by omega)]
    cases decide (p.Slips[i].Kind = 5) <;> cases decide (p.Slips[i].Player ∈ dP p) <;> rfl) (fun k => by
    have hlt : decide ((p.Slips.length : Int) < (p.Slips.length : Int)) = false := decide_eq_false (by omega)
    rw [kI, hlt, cond_false]) (by omega)
   refine Eq.trans m ?_
   rw [hK4]
   unfold uT
   cases p.Slips.all _ <;> rfl
  have hK0 : oX p (dP p) = some (decide (dP p).Nodup && decide (cW p).Nodup && xW p && (uT p && (mN p && pY p))) := by
   unfold oX slices_Sort_int
   rw [if_pos (by omega), Option.bind_some, aEr p h1, Option.bind_some, aGn _ (by omega), Option.bind_some, aGn _ (by omega), Option.bind_some, eC, Option.bind_some]
   have m := pP (fun k i => jK (eQ (cW p)) p.Tree.Slots (p.Tree.Slots.length : Int) p (eQ (dP p)) k i) p.Tree.Slots (fun x => decide (x = -1) || decide (x ∈ dP p)) (some false) (oY (eQ (cW p)) p (eQ (dP p))) (fun k i hi => by
    have hlt : decide ((i : Int) < (p.Tree.Slots.length : Int)) = true := decide_eq_true (by omega)
    have hc : decide (p.Tree.Slots[i] ∈ eQ (dP p)) = decide (p.Tree.Slots[i] ∈ dP p) := by rw [decide_eq_decide]; exact (mI _).mem_iff
    rw [jK, hlt, cond_true, bM hi, Option.bind_some, iR _ (by rw [(mI _).length_eq]; omega), Option.bind_some, dN, Option.bind_some, hc, bH (by omega)]
    cases decide (p.Tree.Slots[i] = -1) <;> cases decide (p.Tree.Slots[i] ∈ dP p) <;> rfl) (fun k => by
    have hlt : decide ((p.Tree.Slots.length : Int) < (p.Tree.Slots.length : Int)) = false := decide_eq_false (by omega)
    rw [jK, hlt, cond_false]) (by omega)
   have m' : jK (eQ (cW p)) p.Tree.Slots (p.Tree.Slots.length : Int) p (eQ (dP p)) BIG 0 = some (xW p && (uT p && (mN p && pY p))) := by
    refine Eq.trans m ?_
    rw [hK2]
    unfold xW
    cases p.Tree.Slots.all _ <;> rfl
   rw [m']
   cases decide (dP p).Nodup <;> cases decide (cW p).Nodup <;> rfl
  rw [hK0]
  unfold oC
  rw [decide_eq_true h64]
  cases p.Teams.all mJ <;> simp [Bool.and_assoc]
 ·rw [decide_eq_true (by omega), cond_true]
  unfold oC
  rw [decide_eq_false h64]; simp
end
end Go.Am
end
section
namespace Go.Am
def aFj (pre : List bR) (t : bR) : Bool := mJ t && !decide (t.One = t.Two) && pre.all fun o => !(decide (o.Player = t.Player) || decide (o.One = t.One) || decide (o.Two = t.One) || (decide (0 ≤ t.Two) && (decide (o.One = t.Two) || decide (o.Two = t.Two))))
section
variable {p : aP} (hz : Sz p)
include hz
theorem aXt {i : Nat} (hi : i < p.Teams.length) (again : Int → Option Bool) (t : bR) : fV again (i : Nat) p t BIG 0 = bif (p.Teams.take i).all (fun o => !(decide (o.Player = t.Player) || decide (o.One = t.One) || decide (o.Two = t.One) || (decide (0 ≤ t.Two) && (decide (o.One = t.Two) || decide (o.Two = t.Two))))) then again ((i + 1 : Nat) : Int) else some false := by
 have h1 := hz.teams
 have hl : (p.Teams.take i).length = i := by simp; omega
 refine pP (fun k j => fV again (i : Nat) p t k j) (p.Teams.take i) _ (some false) (again ((i + 1 : Nat) : Int)) (fun k j hj => ?_) (fun k => ?_) (by omega)
 ·have hj' : j < i := by omega
  have hlt : decide ((j : Int) < (i : Int)) = true := decide_eq_true (by omega)
  rw [fV, hlt, cond_true, bM (show j < p.Teams.length by omega), Option.bind_some, eC, Option.bind_some, eC, Option.bind_some, eC, Option.bind_some, dN, Option.bind_some, eC, Option.bind_some, bH (by omega), List.getElem_take]
  cases (decide (p.Teams[j].Player = t.Player) || decide (p.Teams[j].One = t.One) || decide (p.Teams[j].Two = t.One) || (decide (0 ≤ t.Two) && (decide (p.Teams[j].One = t.Two) || decide (p.Teams[j].Two = t.Two)))) <;> rfl
 ·rw [hl]
  have hlt : decide ((i : Int) < (i : Int)) = false := decide_eq_false (by omega)
  rw [fV, hlt, cond_false]
  unfold rD rC
  rw [bH (by omega)]
theorem aYr : kQ p = some (pE p.Teams aFj && (xW p && (uT p && decide (p.Teams.length ≤ 64)))) := by
 have h1 := hz.teams
 have hsp := hz.slips
 have hsl := hz.slots
 unfold kQ
 have main := uW (fun k i => fU p k i) p.Teams aFj (some false) (kU p) (fun k i hi => by
  have hlt : decide ((i : Int) < (p.Teams.length : Int)) = true := decide_eq_true (by omega)
  rw [fU, hlt, cond_true, bM hi, Option.bind_some, vK, Option.bind_some, vK, Option.bind_some, eC, Option.bind_some, vK, Option.bind_some, eC, Option.bind_some, eC, Option.bind_some, aXt hz hi]
  have e : (!(decide (0 ≤ p.Teams[i].Player) && decide (p.Teams[i].Player ≤ 999)) || !(decide (0 ≤ p.Teams[i].One) && decide (p.Teams[i].One ≤ 999)) || !(decide (-1 ≤ p.Teams[i].Two) && decide (p.Teams[i].Two ≤ 999))) = !mJ p.Teams[i] := by unfold mJ wB; simp only [Bool.not_and, Bool.or_assoc]
  rw [e]
  unfold aFj
  cases mJ p.Teams[i] with
  | false => rfl
  | true =>
   cases decide (p.Teams[i].One = p.Teams[i].Two) with
   | true => rfl
   | false => rfl) (fun k => by
  have hlt : decide ((p.Teams.length : Int) < (p.Teams.length : Int)) = false := decide_eq_false (by omega)
  rw [fU, hlt, cond_false]) (by omega)
 refine Eq.trans main ?_
 have hK4 : kV p = some (uT p && decide (p.Teams.length ≤ 64)) := by
  unfold kV
  have m := pP (fun k i => hJ p k i) p.Slips (fun s => !decide (s.Kind = 5) || decide (s.Player ∈ dP p)) (some false) (nN p) (fun k i hi => by
   have hlt : decide ((i : Int) < (p.Slips.length : Int)) = true := decide_eq_true (by omega)
   rw [hJ, hlt, cond_true, bM hi, Option.bind_some, Option.bind_some, aOu p _ h1, Option.bind_some, dN, Option.bind_some, bH (by omega)]
   cases decide (p.Slips[i].Kind = 5) <;> cases decide (p.Slips[i].Player ∈ dP p) <;> rfl) (fun k => by
   have hlt : decide ((p.Slips.length : Int) < (p.Slips.length : Int)) = false := decide_eq_false (by omega)
   rw [hJ, hlt, cond_false]) (by omega)
  refine Eq.trans m ?_
  unfold uT nN
  have e : decide ((p.Teams.length : Int) ≤ 64) = decide (p.Teams.length ≤ 64) := by rw [decide_eq_decide]; omega
  rw [e]
  cases p.Slips.all _ <;> rfl
 have hK0 : kU p = some (xW p && (uT p && decide (p.Teams.length ≤ 64))) := by
  unfold kU
  have m := pP (fun k i => gZ p k i) p.Tree.Slots (fun x => decide (x = -1) || decide (x ∈ dP p)) (some false) (kV p) (fun k i hi => by
   have hlt : decide ((i : Int) < (p.Tree.Slots.length : Int)) = true := decide_eq_true (by omega)
   rw [gZ, hlt, cond_true, bM hi, Option.bind_some, Option.bind_some, aOu p _ h1, Option.bind_some, dN, Option.bind_some, bH (by omega)]
   cases decide (p.Tree.Slots[i] = -1) <;> cases decide (p.Tree.Slots[i] ∈ dP p) <;> rfl) (fun k => by
   have hlt : decide ((p.Tree.Slots.length : Int) < (p.Tree.Slots.length : Int)) = false := decide_eq_false (by omega)
   rw [gZ, hlt, cond_false]) (by omega)
  refine Eq.trans m ?_
  rw [hK4]
  unfold xW
  cases p.Tree.Slots.all _ <;> rfl
 rw [hK0]
 cases pE p.Teams aFj <;> rfl
omit hz in
theorem kY {t : bR} {n : Int} : n ∈ fM t ↔ n = t.One ∨ (n = t.Two ∧ t.Two ≠ -1) := by
 unfold fM
 split
 ·rename_i h
  simp
  exact fun h1 h2 => absurd h h2
 ·rename_i h
  simp [h]
omit hz in
theorem aTz : pE p.Teams aFj = (p.Teams.all mJ && decide (dP p).Nodup && decide (cW p).Nodup) := by
 have hw := aLu p.Teams aFj (fun t => mJ t = true ∧ t.One ≠ t.Two) (fun o t => ¬ (o.Player = t.Player ∨ o.One = t.One ∨ o.Two = t.One ∨ (0 ≤ t.Two ∧ (o.One = t.Two ∨ o.Two = t.Two)))) (fun pre t => by
  unfold aFj
  simp only [Bool.and_eq_true, Bool.not_eq_true', decide_eq_false_iff_not, List.all_eq_true, Bool.or_eq_false_iff, Bool.and_eq_false_iff]
  constructor
  ·rintro ⟨⟨h1, h2⟩, h3⟩
   refine ⟨⟨h1, h2⟩, fun o ho => ?_⟩
   have := h3 o ho
   rintro (h | h | h | ⟨h, h4⟩)
   ·exact this.1.1.1 h
   ·exact this.1.1.2 h
   ·exact this.1.2 h
   ·rcases this.2 with h5 | ⟨h5, h6⟩
    ·exact h5 h
    ·rcases h4 with h4 | h4
     ·exact h5 h4
     ·exact h6 h4
  ·rintro ⟨⟨h1, h2⟩, h3⟩
   refine ⟨⟨h1, h2⟩, fun o ho => ?_⟩
   have := h3 o ho
   refine ⟨⟨⟨fun h => this (.inl h), fun h => this (.inr (.inl h))⟩, fun h => this (.inr (.inr (.inl h)))⟩, ?_⟩
   by_cases h0 : 0 ≤ t.Two
   ·exact .inr ⟨fun h => this (.inr (.inr (.inr ⟨h0, .inl h⟩))), fun h => this (.inr (.inr (.inr ⟨h0, .inr h⟩)))⟩
   ·exact .inl h0)
 rw [Bool.eq_iff_iff, hw, Bool.and_eq_true, Bool.and_eq_true, List.all_eq_true, decide_eq_true_eq, decide_eq_true_eq]
 unfold dP cW
 have hpl : (p.Teams.map fun t => t.Player).Nodup ↔ p.Teams.Pairwise fun a b => a.Player ≠ b.Player := List.pairwise_map
 have hpp : (p.Teams.flatMap fM).Nodup ↔ (∀ t ∈ p.Teams, (fM t).Nodup) ∧ p.Teams.Pairwise fun a b => ∀ x ∈ fM a, ∀ y ∈ fM b, x ≠ y := List.pairwise_flatMap
 rw [hpl, hpp]
 constructor
 ·rintro ⟨h1, h2⟩
  refine ⟨⟨fun t ht => (h1 t ht).1, h2.imp fun h he => h (.inl he)⟩, fun t ht => ?_, ?_⟩
  ·unfold fM
   split
   ·simp
   ·simp [(h1 t ht).2]
  ·refine List.Pairwise.imp_of_mem ?_ h2
   intro a b ha hb hab x hx y hy he
   have tb := oB.1 (h1 b hb).1
   subst he
   rcases kY.1 hx with h3 | ⟨h3, h4⟩ <;> rcases kY.1 hy with h5 | ⟨h5, h6⟩
   ·exact hab (.inr (.inl (by omega)))
   ·exact hab (.inr (.inr (.inr ⟨by omega, .inl (by omega)⟩)))
   ·exact hab (.inr (.inr (.inl (by omega))))
   ·exact hab (.inr (.inr (.inr ⟨by omega, .inr (by omega)⟩)))
 ·rintro ⟨⟨h1, h2⟩, h3, h4⟩
  refine ⟨fun t ht => ⟨h1 t ht, fun he => ?_⟩, ?_⟩
  ·have := h3 t ht
   have tb := oB.1 (h1 t ht)
   unfold fM at this
   rw [if_neg (by omega)] at this
   simp [he] at this
  ·refine List.Pairwise.imp_of_mem ?_ (List.Pairwise.and h2 h4)
   rintro a b ha hb ⟨hab, hx⟩ (h | h | h | ⟨h, h5⟩)
   ·exact hab h
   ·exact hx a.One (kY.2 (.inl rfl)) b.One (kY.2 (.inl rfl)) h
   ·have tb := oB.1 (h1 b hb)
    exact hx a.Two (kY.2 (.inr ⟨rfl, by omega⟩)) b.One (kY.2 (.inl rfl)) h
   ·rcases h5 with h5 | h5
    ·exact hx a.One (kY.2 (.inl rfl)) b.Two (kY.2 (.inr ⟨rfl, by omega⟩)) h5
    ·exact hx a.Two (kY.2 (.inr ⟨rfl, by omega⟩)) b.Two (kY.2 (.inr ⟨rfl, by omega⟩)) h5
theorem aZx : kQ p = some (oC p) := by
 rw [aYr hz, aTz]
 unfold oC
 cases p.Teams.all mJ <;> cases decide (dP p).Nodup <;> cases decide (cW p).Nodup <;> cases xW p <;> cases uT p <;> cases decide (p.Teams.length ≤ 64) <;> rfl
theorem aZw (ht : ∀ t ∈ p.Teams, mJ t = true) : mX p = some (mN p && pY p) := by
 have h1 := hz.teams
 have h2 := hz.levies
 have h3 := hz.rates
 unfold mX
 have main := uW (fun k i => dI p k i) p.Levies (aEk p) (some false) (kT p) (fun k i hi => by
  have hlt : decide ((i : Int) < (p.Levies.length : Int)) = true := decide_eq_true (by omega)
  have hl : (p.Levies.take i).length = i := by simp; omega
  have inner : fS (dI p k) (i : Nat) p BIG 0 = bif (p.Levies.take i).all (fun y => !decide (y.Person = p.Levies[i].Person)) then dI p k ((i + 1 : Nat) : Int) else some false := by
   refine pP (fun k' j => fS (dI p k) (i : Nat) p k' j) (p.Levies.take i) _ (some false) (dI p k ((i + 1 : Nat) : Int)) (fun k' j hj => ?_) (fun k' => ?_) (by omega)
   ·have hlt : decide ((j : Int) < (i : Int)) = true := decide_eq_true (by omega)
    rw [fS, hlt, cond_true, bM (show j < p.Levies.length by omega), Option.bind_some, bM hi, Option.bind_some, bH (by omega), List.getElem_take]
    cases decide (p.Levies[j].Person = p.Levies[i].Person) <;> rfl
   ·rw [hl]
    have hlt : decide ((i : Int) < (i : Int)) = false := decide_eq_false (by omega)
    rw [fS, hlt, cond_false]
    unfold qY qX
    rw [bH (by omega)]
  have ed : (p.Levies.take i).all (fun y => !decide (y.Person = p.Levies[i].Person)) = !decide (p.Levies[i].Person ∈ (p.Levies.take i).map fun y => y.Person) := by
   rw [Bool.eq_iff_iff, List.all_eq_true, Bool.not_eq_true', decide_eq_false_iff_not, List.mem_map]
   constructor
   ·rintro h ⟨y, h4, h5⟩
    have := h y h4
    simp [h5] at this
   ·intro h y h4
    simp only [Bool.not_eq_true', decide_eq_false_iff_not]
    exact fun h5 => h ⟨y, h4, h5⟩
  rw [dI, hlt, cond_true, bM hi, Option.bind_some, aBx ht _ h1, Option.bind_some, Option.bind_some, vK, Option.bind_some, eC, Option.bind_some, inner, ed]
  unfold aEk wB
  cases lZ p p.Levies[i].Person <;> cases (decide (0 ≤ p.Levies[i].Mille) && decide (p.Levies[i].Mille ≤ 500)) <;> rfl) (fun k => by
  have hlt : decide ((p.Levies.length : Int) < (p.Levies.length : Int)) = false := decide_eq_false (by omega)
  rw [dI, hlt, cond_false]) (by omega)
 refine Eq.trans main ?_
 have hK0 : kT p = some (pY p) := by
  unfold kT
  have m := uW (fun k i => dJ p k i) p.Rates (aEw p) (some false) qZ (fun k i hi => by
   have hlt : decide ((i : Int) < (p.Rates.length : Int)) = true := decide_eq_true (by omega)
   have hl : (p.Rates.take i).length = i := by simp; omega
   have inner : fT (dJ p k) (i : Nat) p p.Rates[i] BIG 0 = bif (p.Rates.take i).all (fun y => !decide (y.Person = p.Rates[i].Person)) then dJ p k ((i + 1 : Nat) : Int) else some false := by
    refine pP (fun k' j => fT (dJ p k) (i : Nat) p p.Rates[i] k' j) (p.Rates.take i) _ (some false) (dJ p k ((i + 1 : Nat) : Int)) (fun k' j hj => ?_) (fun k' => ?_) (by omega)
    ·have hlt : decide ((j : Int) < (i : Int)) = true := decide_eq_true (by omega)
     rw [fT, hlt, cond_true, bM (show j < p.Rates.length by omega), Option.bind_some, bH (by omega), List.getElem_take]
     cases decide (p.Rates[j].Person = p.Rates[i].Person) <;> rfl
    ·rw [hl]
     have hlt : decide ((i : Int) < (i : Int)) = false := decide_eq_false (by omega)
     rw [fT, hlt, cond_false]
     unfold rB rA
     rw [bH (by omega)]
   have ed : (p.Rates.take i).all (fun y => !decide (y.Person = p.Rates[i].Person)) = !decide (p.Rates[i].Person ∈ (p.Rates.take i).map fun y => y.Person) := by
    rw [Bool.eq_iff_iff, List.all_eq_true, Bool.not_eq_true', decide_eq_false_iff_not, List.mem_map]
    constructor
    ·rintro h ⟨y, h4, h5⟩
     have := h y h4
     simp [h5] at this
    ·intro h y h4
     simp only [Bool.not_eq_true', decide_eq_false_iff_not]
     exact fun h5 => h ⟨y, h4, h5⟩
   rw [dJ, hlt, cond_true, bM hi, Option.bind_some, aBx ht _ h1, Option.bind_some, vK, Option.bind_some, eC, Option.bind_some, vK, Option.bind_some, eC, Option.bind_some, inner, ed]
   unfold aEw wB
   cases lZ p p.Rates[i].Person <;> cases (decide (1 ≤ p.Rates[i].Num) && decide (p.Rates[i].Num ≤ 10000)) <;> cases (decide (1 ≤ p.Rates[i].Den) && decide (p.Rates[i].Den ≤ 10000)) <;> rfl) (fun k => by
   have hlt : decide ((p.Rates.length : Int) < (p.Rates.length : Int)) = false := decide_eq_false (by omega)
   rw [dJ, hlt, cond_false]) (by omega)
  exact m.trans (aJn _)
 rw [hK0]
 show (bif mN p then _ else _) = _
 cases mN p <;> rfl
end
end Go.Am
end
section
namespace Go.Am
def xI (p : aP) (x : aI) : Bool := wB x.Id 0 99 && lZ p x.Person && ((decide (x.Kind = 1) && wB x.Amount 0 10000000) || (decide (x.Kind = 2) && wB x.Amount 0 30))
theorem zB {p : aP} {x : aI} : xI p x = true ↔ (0 ≤ x.Id ∧ x.Id ≤ 99) ∧ lZ p x.Person = true ∧ ((x.Kind = 1 ∧ 0 ≤ x.Amount ∧ x.Amount ≤ 10000000) ∨ (x.Kind = 2 ∧ 0 ≤ x.Amount ∧ x.Amount ≤ 30)) := by
 unfold xI; simp [aBq, and_assoc]
def aAa (p : aP) (pre : List aI) (x : aI) : Bool := xI p x && pre.all fun y => !(decide (y.Id = x.Id) && !decide (y = x))
def uR (p : aP) : Bool := pE p.Items (aAa p) && decide (p.Items.length ≤ 40)
theorem aAb (p : aP) : pE p.Items (aAa p) = true ↔ (∀ x ∈ p.Items, xI p x = true) ∧ ¬ aDa p.Items := by
 have hw := aLu p.Items (aAa p) (fun x => xI p x = true) (fun y x => ¬ (y.Id = x.Id ∧ y ≠ x)) (fun pre x => by
  unfold aAa
  rw [Bool.and_eq_true, List.all_eq_true]
  refine and_congr_right fun _ => forall_congr' fun y => forall_congr' fun _ => ?_
  rw [Bool.not_eq_true', Bool.and_eq_false_iff, decide_eq_false_iff_not, Bool.not_eq_false', decide_eq_true_eq]
  constructor
  ·rintro (h | h) ⟨h1, h2⟩
   ·exact h h1
   ·exact h2 h
  ·intro h
   by_cases h1 : y.Id = x.Id
   ·exact .inr (Classical.byContradiction fun h2 => h ⟨h1, h2⟩)
   ·exact .inl h1)
 rw [hw]
 refine and_congr_right fun _ => ⟨fun h => ?_, fun h => ?_⟩
 ·rintro ⟨x, hx, y, hy, h1, h2⟩
  obtain ⟨i, hi, rfl⟩ := List.getElem_of_mem hx
  obtain ⟨j, hj, rfl⟩ := List.getElem_of_mem hy
  have g := List.pairwise_iff_getElem.1 h
  rcases Nat.lt_trichotomy i j with h3 | h3 | h3
  ·exact g i j hi hj h3 ⟨h1, h2⟩
  ·subst h3; exact h2 rfl
  ·exact g j i hj hi h3 ⟨h1.symm, Ne.symm h2⟩
 ·exact List.pairwise_iff_getElem.2 fun i j hi hj _ ⟨h1, h2⟩ => h ⟨_, List.getElem_mem hi, _, List.getElem_mem hj, h1, h2⟩
section
variable {p : aP} (hz : Sz p)
include hz
theorem bAn : rU p = some (uR p) := by
 have h1 := hz.teams
 have h2 := hz.items
 have hpl : (eQ (cW p)).length ≤ 2000 := by rw [(mI _).length_eq]; have := vH p.Teams; unfold cW; omega
 unfold rU
 rw [aEr p h1, Option.bind_some]
 have main := pP (fun k i => jJ (eQ (cW p)) p.Items (p.Items.length : Int) p k i) p.Items (xI p) (some false) (rL p) (fun k i hi => by
  have hlt : decide ((i : Int) < (p.Items.length : Int)) = true := decide_eq_true (by omega)
  rw [jJ, hlt, cond_true, bM hi, Option.bind_some, iR _ (by omega), bH (by omega)]
  simp only [yN, Option.bind_some, eC, dN]
  unfold xI wB
  rw [wU]
  by_cases k2 : p.Items[i].Kind = 2
  ·have k1 : ¬ p.Items[i].Kind = 1 := by omega
   rw [decide_eq_true k2, decide_eq_false k1]
   cases (decide (0 ≤ p.Items[i].Id) && decide (p.Items[i].Id ≤ 99)) <;> cases decide (p.Items[i].Person ∈ eQ (cW p)) <;> cases (decide (0 ≤ p.Items[i].Amount) && decide (p.Items[i].Amount ≤ 30)) <;> rfl
  ·rw [decide_eq_false k2]
   cases decide (p.Items[i].Kind = 1) <;> cases (decide (0 ≤ p.Items[i].Id) && decide (p.Items[i].Id ≤ 99)) <;> cases decide (p.Items[i].Person ∈ eQ (cW p)) <;> cases (decide (0 ≤ p.Items[i].Amount) && decide (p.Items[i].Amount ≤ 10000000)) <;> rfl) (fun k => by
  have hlt : decide ((p.Items.length : Int) < (p.Items.length : Int)) = false := decide_eq_false (by omega)
  rw [jJ, hlt, cond_false]) (by omega)
 refine Eq.trans main ?_
 have e40 : decide ((p.Items.length : Int) ≤ 40) = decide (p.Items.length ≤ 40) := by rw [decide_eq_decide]; omega
 unfold uR
 cases ha : p.Items.all (xI p) with
 | false =>
  have : pE p.Items (aAa p) = false := by
   rw [Bool.eq_false_iff]; intro hn
   have := ((aAb p).1 hn).1
   rw [← List.all_eq_true, ha] at this; cases this
  rw [this]; rfl
 | true =>
  have hall := List.all_eq_true.1 ha
  unfold rL
  rcases aNg p.Items (fun x hx => (zB.1 (hall x hx)).1) (by omega) with ⟨hc, ho⟩ | ⟨hc, zs, ho, _⟩
  ·have : pE p.Items (aAa p) = false := by
    rw [Bool.eq_false_iff]; intro hn
    exact ((aAb p).1 hn).2 hc
   rw [ho, this]; rfl
  ·rw [ho, (aAb p).2 ⟨hall, hc⟩, cond_true, Option.bind_some, dN, Option.bind_some, e40]
theorem aZv (ht : ∀ t ∈ p.Teams, mJ t = true) : mW p = some (uR p) := by
 have h1 := hz.teams
 have h2 := hz.items
 unfold mW
 have main := uW (fun k i => dH p k i) p.Items (aAa p) (some false) (nM p) (fun k i hi => by
  have hlt : decide ((i : Int) < (p.Items.length : Int)) = true := decide_eq_true (by omega)
  have hl : (p.Items.take i).length = i := by simp; omega
  have inner : fR (dH p k) (i : Nat) p p.Items[i] BIG 0 = bif (p.Items.take i).all (fun y => !(decide (y.Id = p.Items[i].Id) && !decide (y = p.Items[i]))) then dH p k ((i + 1 : Nat) : Int) else some false := by
   refine pP (fun k' j => fR (dH p k) (i : Nat) p p.Items[i] k' j) (p.Items.take i) _ (some false) (dH p k ((i + 1 : Nat) : Int)) (fun k' j hj => ?_) (fun k' => ?_) (by omega)
   ·have hlt : decide ((j : Int) < (i : Int)) = true := decide_eq_true (by omega)
    rw [fR, hlt, cond_true, bM (show j < p.Items.length by omega), Option.bind_some, Option.bind_some, dN, Option.bind_some, bH (by omega), List.getElem_take]
    cases (decide (p.Items[j].Id = p.Items[i].Id) && !decide (p.Items[j] = p.Items[i])) <;> rfl
   ·rw [hl]
    have hlt : decide ((i : Int) < (i : Int)) = false := decide_eq_false (by omega)
    rw [fR, hlt, cond_false]
    unfold qW qV
    rw [bH (by omega)]
  rw [dH, hlt, cond_true, bM hi, Option.bind_some, aBx ht _ h1, inner]
  simp only [vK, Option.bind_some, eC, dN]
  unfold aAa xI wB
  cases lZ p p.Items[i].Person <;> cases (decide (0 ≤ p.Items[i].Id) && decide (p.Items[i].Id ≤ 99)) <;> cases (decide (p.Items[i].Kind = 1) && (decide (0 ≤ p.Items[i].Amount) && decide (p.Items[i].Amount ≤ 10000000)) || decide (p.Items[i].Kind = 2) && (decide (0 ≤ p.Items[i].Amount) && decide (p.Items[i].Amount ≤ 30))) <;> rfl) (fun k => by
  have hlt : decide ((p.Items.length : Int) < (p.Items.length : Int)) = false := decide_eq_false (by omega)
  rw [dH, hlt, cond_false]) (by omega)
 refine Eq.trans main ?_
 have e40 : decide ((p.Items.length : Int) ≤ 40) = decide (p.Items.length ≤ 40) := by rw [decide_eq_decide]; omega
 unfold uR nM
 rw [e40]
 cases pE p.Items (aAa p) <;> rfl
def xO (pre : List Int) (x : Int) : Bool := wB x 0 10000000 && (match pre.getLast? with | some y => !decide (x < y) | none => true)
def qG (p : aP) : Bool := pE p.Prizes xO && decide ((p.Prizes.length : Int) = p.Tree.Rounds + 1) && wB p.Daily 0 100000
omit hz in
theorem aJf (l : List Int) : pE l xO = true ↔ (∀ x ∈ l, 0 ≤ x ∧ x ≤ 10000000) ∧ ∀ i (hi : i + 1 < l.length), l[i]'(by omega) ≤ l[i + 1] := by
 unfold pE
 rw [List.all_eq_true]
 have key : ∀ (i : Nat) (hi : i < l.length), atB l xO i = true ↔ (0 ≤ l[i] ∧ l[i] ≤ 10000000) ∧ (∀ h : 0 < i, l[i - 1]'(by omega) ≤ l[i]) := fun i hi => by
  rw [aKp hi]
  unfold xO
  rw [Bool.and_eq_true, aBq]
  refine and_congr_right fun _ => ?_
  cases i with
  | zero => simp
  | succ j =>
   have hg : (l.take (j + 1)).getLast? = some (l[j]'(by omega)) := by
    rw [List.take_succ_eq_append_getElem (show j < l.length by omega), List.getLast?_concat]
   rw [hg]
   simp only [Bool.not_eq_true', decide_eq_false_iff_not]
   constructor
   ·intro h _; show l[j]'(by omega) ≤ _; omega
   ·intro h; have h' : l[j]'(by omega) ≤ l[j + 1] := h (by omega); omega
 constructor
 ·intro h
  refine ⟨fun x hx => ?_, fun i hi => ?_⟩
  ·obtain ⟨i, hi, rfl⟩ := List.getElem_of_mem hx
   exact ((key i hi).1 (h i (List.mem_range.2 hi))).1
  ·exact ((key (i + 1) hi).1 (h (i + 1) (List.mem_range.2 hi))).2 (by omega)
 ·rintro ⟨h1, h2⟩ i hi
  have hi' := List.mem_range.1 hi
  refine (key i hi').2 ⟨h1 _ (List.getElem_mem hi'), fun h => ?_⟩
  have := h2 (i - 1) (by omega)
  have e : i - 1 + 1 = i := by omega
  simp only [e] at this
  exact this
omit hz in
theorem aZd (x y : Int) : uE x y = some (decide (x < y)) := by
 unfold uE tB
 simp
omit hz in
theorem aVu (l : List Int) (hl : l.length ≤ 1000) (h1 : 1 ≤ l.length) : ∃ b, mZ l = some b ∧ (b = true ↔ ∀ i (hi : i + 1 < l.length), l[i]'(by omega) ≤ l[i + 1]) := by
 have key : ∀ (i k : Nat) (hi : i < l.length), i < k → ∃ b, iD l k (i : Nat) = some b ∧ (b = true ↔ ∀ j (hj : j + 1 < l.length), j < i → l[j]'(by omega) ≤ l[j + 1]) := by
  intro i
  induction i with
  | zero =>
   intro k hi hk
   obtain ⟨k, rfl⟩ : ∃ q, k = q + 1 := ⟨k - 1, by omega⟩
   have hlt : decide (0 < (((0 : Nat) : Int))) = false := rfl
   exact ⟨true, by rw [iD, hlt, cond_false]; rfl, by simp⟩
  | succ i ih =>
   intro k hi hk
   obtain ⟨k, rfl⟩ : ∃ q, k = q + 1 := ⟨k - 1, by omega⟩
   have hlt : decide (0 < (((i + 1 : Nat) : Int))) = true := decide_eq_true (by omega)
   have ew : w64 (((i + 1 : Nat) : Int) - 1) = ((i : Nat) : Int) := by rw [bW (by omega) (by omega)]; omega
   rw [iD, hlt, cond_true, bM hi, Option.bind_some, ew, bM (show i < l.length by omega), Option.bind_some, aZd, Option.bind_some]
   by_cases hb : l[i + 1] < l[i]'(by omega)
   ·rw [decide_eq_true hb, cond_true]
    refine ⟨false, rfl, ?_⟩
    constructor
    ·intro h; cases h
    ·intro h; have := h i hi (by omega); omega
   ·rw [decide_eq_false hb, cond_false]
    obtain ⟨b, h2, h3⟩ := ih k (by omega) (by omega)
    refine ⟨b, h2, h3.trans ⟨fun h j hj hji => ?_, fun h j hj hji => h j hj (by omega)⟩⟩
    rcases Nat.eq_or_lt_of_le (Nat.le_of_lt_succ hji) with rfl | h4
    ·omega
    ·exact h j hj h4
 unfold mZ
 have ew : w64 ((l.length : Int) - 1) = ((l.length - 1 : Nat) : Int) := by rw [bW (by omega) (by omega)]; omega
 rw [ew]
 obtain ⟨b, h2, h3⟩ := key (l.length - 1) BIG (by omega) (cE (by omega))
 exact ⟨b, h2, h3.trans ⟨fun h i hi => h i hi (by omega), fun h i hi _ => h i hi⟩⟩
end
end Go.Am
end
section
namespace Go.Am
theorem aCj {l : List Int} (h : ∀ i (hi : i + 1 < l.length), l[i]'(by omega) ≤ l[i + 1]) : ∀ (n i : Nat) (hi : i + n < l.length), l[i]'(by omega) ≤ l[i + n]
 | 0, i, _ => Int.le_refl _
 | n + 1, i, hi => Int.le_trans (aCj h n i (by omega)) (h (i + n) hi)
theorem aFq {l : List Int} (hl : 1 ≤ l.length) (hs : ∀ i (hi : i + 1 < l.length), l[i]'(by omega) ≤ l[i + 1]) : (∀ x ∈ l, 0 ≤ x ∧ x ≤ 10000000) ↔ 0 ≤ l[0] ∧ l[l.length - 1]'(by omega) ≤ 10000000 := by
 constructor
 ·intro h
  exact ⟨(h _ (List.getElem_mem _)).1, (h _ (List.getElem_mem _)).2⟩
 ·rintro ⟨h1, h2⟩ x hx
  obtain ⟨i, hi, rfl⟩ := List.getElem_of_mem hx
  have a1 := aCj hs i 0 (by omega)
  have a2 := aCj hs (l.length - 1 - i) i (by omega)
  have e : i + (l.length - 1 - i) = l.length - 1 := by omega
  simp only [Nat.zero_add, e] at a1 a2
  omega
section
variable {p : aP} (hz : Sz p)
include hz
theorem bAo (hr : 1 ≤ p.Tree.Rounds ∧ p.Tree.Rounds ≤ 5) : tG p = some (qG p) := by
 have h1 := hz.prizes
 unfold tG qG
 have ew : w64 (p.Tree.Rounds + 1) = p.Tree.Rounds + 1 := bW (by omega) (by omega)
 rw [ew]
 by_cases hl : (p.Prizes.length : Int) = p.Tree.Rounds + 1
 ·have hl1 : 1 ≤ p.Prizes.length := by omega
  obtain ⟨b, hb, hbi⟩ := aVu p.Prizes h1 hl1
  rw [decide_eq_true hl, Bool.not_true, cond_false, hb, Option.bind_some, Option.bind_some, yN, Option.bind_some, eC, Option.bind_some, Bool.and_true]
  have ew2 : w64 ((p.Prizes.length : Int) - 1) = ((p.Prizes.length - 1 : Nat) : Int) := by rw [bW (by omega) (by omega)]; omega
  have i0 : idx p.Prizes 0 = some (p.Prizes[0]'(by omega)) := bM (i := 0) (by omega)
  rw [i0, Option.bind_some, ew2, bM (show p.Prizes.length - 1 < p.Prizes.length by omega), Option.bind_some, dN, Option.bind_some]
  have hw : (decide (0 ≤ p.Daily) && decide (p.Daily ≤ 100000)) = wB p.Daily 0 100000 := rfl
  rw [hw]
  have he : pE p.Prizes xO = (b && (decide (0 ≤ p.Prizes[0]'(by omega)) && decide (p.Prizes[p.Prizes.length - 1]'(by omega) ≤ 10000000))) := by
   rw [Bool.eq_iff_iff, aJf, Bool.and_eq_true, Bool.and_eq_true, decide_eq_true_eq, decide_eq_true_eq, hbi]
   constructor
   ·rintro ⟨a1, a2⟩; exact ⟨a2, (aFq hl1 a2).1 a1⟩
   ·rintro ⟨a2, a1⟩; exact ⟨(aFq hl1 a2).2 a1, a2⟩
  rw [he]
  cases b <;> cases wB p.Daily 0 100000 <;> simp
 ·rw [decide_eq_false hl, Bool.not_false, cond_true, Option.bind_some, cond_true, Option.bind_some, cond_true, Bool.and_false, Bool.false_and]
def brE (p : aP) : Int := (fJ p.Tree p.Slips).getD 0
omit hz in
theorem aKr (p : aP) : fJ p.Tree p.Slips = some (brE p) ∧ (brE p = 0 ↔ ∃ d, Good p.Tree p.Slips d) := by
 unfold brE
 rcases aFh p.Tree p.Slips with ⟨d, hg⟩ | ⟨e, he⟩
 ·rw [zU hg]
  exact ⟨rfl, fun _ => ⟨d, hg⟩, fun _ => rfl⟩
 ·rw [aBu he]
  have hne : ¬ e = 0 := of_decide_eq_false he.ne
  refine ⟨rfl, fun h => absurd h hne, fun ⟨d, hg⟩ => ?_⟩
  have h1 := zU hg
  rw [aBu he] at h1
  exact Option.some.inj h1
def vQ (p : aP) : Int := bif !decide (brE p = 0) then brE p else bif !qG p then 100 else bif !(oC p && mN p && pY p) then 101 else bif !uR p then 102 else 0
theorem aPq : rJ p = some (vQ p) := by
 unfold rJ vQ tW
 obtain ⟨h1, h2⟩ := aKr p
 rw [h1, Option.bind_some]
 by_cases h0 : brE p = 0
 ·obtain ⟨d, hg⟩ := h2.1 h0
  rw [decide_eq_true h0, Bool.not_true, cond_false, cond_false, bAo hz ⟨hg.ht.r1, hg.ht.r5⟩, Option.bind_some, bAp hz, Option.bind_some, bAn hz, Option.bind_some]
  cases qG p <;> cases (oC p && mN p && pY p) <;> cases uR p <;> rfl
 ·rw [decide_eq_false h0, Bool.not_false, cond_true, cond_true]
omit hz in
theorem qP {p : aP} (h : oC p = true) : ∀ t ∈ p.Teams, mJ t = true := by
 unfold oC at h
 simp only [Bool.and_eq_true] at h
 exact List.all_eq_true.1 h.1.1.1.1.2
theorem aZu : pT p = some (vQ p) := by
 have hp := hz.prizes
 unfold pT vQ
 obtain ⟨h1, h2⟩ := aKr p
 rw [h1, Option.bind_some]
 by_cases h0 : brE p = 0
 ·obtain ⟨d, hg⟩ := h2.1 h0
  have hr1 := hg.ht.r1
  have hr5 := hg.ht.r5
  rw [decide_eq_true h0, Bool.not_true, cond_false, cond_false]
  have main := uW (fun k i => iI p k i) p.Prizes xO (some 100) (qC p) (fun k i hi => by
   have hlt : decide ((i : Int) < (p.Prizes.length : Int)) = true := decide_eq_true (by omega)
   rw [iI, hlt, cond_true, bM hi, Option.bind_some, vK, Option.bind_some, Option.bind_some, bH (by omega)]
   unfold xO
   have hw : (decide (0 ≤ p.Prizes[i]) && decide (p.Prizes[i] ≤ 10000000)) = wB p.Prizes[i] 0 10000000 := rfl
   rw [hw]
   cases i with
   | zero =>
    have hc : decide (0 < (((0 : Nat) : Int))) = false := rfl
    have hg0 : (p.Prizes.take 0).getLast? = none := by simp
    rw [hc, cond_false, Option.bind_some, eC, Option.bind_some, hg0]
    cases wB p.Prizes[0] 0 10000000 <;> rfl
   | succ j =>
    have hc : decide (0 < (((j + 1 : Nat) : Int))) = true := decide_eq_true (by omega)
    have hgl : (p.Prizes.take (j + 1)).getLast? = some (p.Prizes[j]'(by omega)) := by
     rw [List.take_succ_eq_append_getElem (show j < p.Prizes.length by omega), List.getLast?_concat]
    have ew : w64 (((j + 1 : Nat) : Int) - 1) = ((j : Nat) : Int) := by rw [bW (by omega) (by omega)]; omega
    rw [hc, cond_true, ew, bM (show j < p.Prizes.length by omega), Option.bind_some, Option.bind_some, eC, Option.bind_some, hgl]
    show (bif !wB p.Prizes[j + 1] 0 10000000 || decide (p.Prizes[j + 1] < p.Prizes[j]'(by omega)) then some 100 else iI p k _) = bif wB p.Prizes[j + 1] 0 10000000 && !decide (p.Prizes[j + 1] < p.Prizes[j]'(by omega)) then _ else _
    cases wB p.Prizes[j + 1] 0 10000000 <;> cases decide (p.Prizes[j + 1] < p.Prizes[j]'(by omega)) <;> rfl) (fun k => by
   have hlt : decide ((p.Prizes.length : Int) < (p.Prizes.length : Int)) = false := decide_eq_false (by omega)
   rw [iI, hlt, cond_false]) (by omega)
  refine Eq.trans main ?_
  unfold qC qG
  have ew : w64 (p.Tree.Rounds + 1) = p.Tree.Rounds + 1 := bW (by omega) (by omega)
  rw [ew, vK, Option.bind_some, eC, Option.bind_some, aZx hz, Option.bind_some]
  have hw : (decide (0 ≤ p.Daily) && decide (p.Daily ≤ 100000)) = wB p.Daily 0 100000 := rfl
  rw [hw]
  cases ht : oC p with
  | false =>
   cases pE p.Prizes xO <;> cases decide ((p.Prizes.length : Int) = p.Tree.Rounds + 1) <;> cases wB p.Daily 0 100000 <;> rfl
  | true =>
   have hta := qP ht
   rw [aZw hz hta, Option.bind_some, aZv hz hta, Option.bind_some]
   cases pE p.Prizes xO <;> cases decide ((p.Prizes.length : Int) = p.Tree.Rounds + 1) <;> cases wB p.Daily 0 100000 <;> cases mN p <;> cases pY p <;> cases uR p <;> rfl
 ·rw [decide_eq_false h0, Bool.not_false, cond_true, cond_true]
end
structure GP (p : aP) (d : List Int) : Prop where
 good : Good p.Tree p.Slips d
 prizes : qG p = true
 teams : oC p = true
 levies : mN p = true
 rates : pY p = true
 items : uR p = true
theorem aYh {p : aP} (h : vQ p = 0) : ∃ d, GP p d := by
 unfold vQ at h
 obtain ⟨h1, h2⟩ := aKr p
 by_cases h0 : brE p = 0
 ·obtain ⟨d, hg⟩ := h2.1 h0
  rw [decide_eq_true h0, Bool.not_true, cond_false] at h
  have key : qG p = true ∧ oC p = true ∧ mN p = true ∧ pY p = true ∧ uR p = true := by
   revert h
   cases qG p <;> cases oC p <;> cases mN p <;> cases pY p <;> cases uR p <;> simp
  exact ⟨d, hg, key.1, key.2.1, key.2.2.1, key.2.2.2.1, key.2.2.2.2⟩
 ·rw [decide_eq_false h0, Bool.not_false, cond_true] at h
  exact absurd h h0
theorem aJy {p : aP} {d : List Int} (h : GP p d) : vQ p = 0 := by
 unfold vQ
 rw [decide_eq_true ((aKr p).2.2 ⟨d, h.good⟩), h.prizes, h.teams, h.levies, h.rates, h.items]; rfl
end Go.Am
end
section
namespace Go.Am
theorem aTy (l : List bR) (f : bR → Option Bool) (q : bR → Bool) (h : ∀ x ∈ l, f x = some (q x)) (hb : l.length ≤ 1000000) :
  ∃ i : Int, lY l f = some i ∧ ((i < 0 ∧ l.find? q = none) ∨ ∃ (j : Nat) (hj : j < l.length), i = j ∧ l.find? q = some l[j]) := by
 have key : ∀ (d i k : Nat), l.length - i = d → d < k → i ≤ l.length → ∃ r : Int, fD l f (l.length : Int) k (i : Nat) = some r ∧ ((r < 0 ∧ (l.drop i).find? q = none) ∨ ∃ (j : Nat) (hj : j < l.length), r = j ∧ (l.drop i).find? q = some l[j]) := by
  intro d
  induction d with
  | zero =>
   intro i k hd hk hi
   obtain ⟨k, rfl⟩ : ∃ q, k = q + 1 := ⟨k - 1, by omega⟩
   have : i = l.length := by omega
   subst this
   have hlt : decide ((l.length : Int) < (l.length : Int)) = false := decide_eq_false (by omega)
   exact ⟨-1, by rw [fD, hlt, cond_false]; rfl, .inl ⟨by omega, by simp⟩⟩
  | succ d ih =>
   intro i k hd hk hi
   obtain ⟨k, rfl⟩ : ∃ q, k = q + 1 := ⟨k - 1, by omega⟩
   have hil : i < l.length := by omega
   have hlt : decide ((i : Int) < (l.length : Int)) = true := decide_eq_true (by omega)
   rw [fD, hlt, cond_true, bM hil, Option.bind_some, h _ (List.getElem_mem hil), Option.bind_some, List.drop_eq_getElem_cons hil, List.find?_cons]
   cases q l[i] with
   | true => exact ⟨i, by rw [cond_true], .inr ⟨i, hil, rfl, rfl⟩⟩
   | false => rw [cond_false, bH (by omega)]; exact ih (i + 1) k (by omega) (by omega) (by omega)
 exact key l.length 0 BIG rfl (cE (by omega)) (Nat.zero_le _)
theorem aLb {α : Type} (f g : α → Bool) : ∀ l : List α, (∀ x ∈ l, f x = g x) → l.find? f = l.find? g
 | [], _ => rfl
 | x :: l, h => by rw [List.find?_cons, List.find?_cons, h x List.mem_cons_self, aLb f g l fun y hy => h y (List.mem_cons_of_mem _ hy)]
def yQ (p : aP) : List (List Int) := match eN p.Tree p.Slips with | some r => r.1.Must | none => []
def iP (p : aP) (d : List Int) (n : Int) : cG × Int := oQ p.Tree d (yQ p) n
theorem aHc {p : aP} {d : List Int} (h : Good p.Tree p.Slips d) : eN p.Tree p.Slips = some (⟨d, yQ p⟩, true) ∧ MustIs p.Tree (yQ p) (jE d (Res p.Slips)) := by
 obtain ⟨must, hd, hM⟩ := aGo h
 have : yQ p = must := by unfold yQ; rw [hd]
 rw [this]; exact ⟨hd, hM⟩
theorem aXh {p : aP} {d : List Int} (h : Good p.Tree p.Slips d) (n : Int) : jV p.Tree p.Slips n = some (iP p d n) := by
 obtain ⟨h1, h2⟩ := aHc h
 exact aGc h h1 h2 n
theorem aCv (p : aP) (d : List Int) (n : Int) (hr : 0 ≤ p.Tree.Rounds) : (0 ≤ (iP p d n).1.Low ∧ (iP p d n).1.Low ≤ p.Tree.Rounds) ∧ (0 ≤ (iP p d n).1.High ∧ (iP p d n).1.High ≤ p.Tree.Rounds) := by
 unfold iP oQ
 split
 ·split
  ·simp only; omega
  ·have h1 := rF (aCm d (yQ p) (sW d n).toNat) p.Tree.Rounds.toNat
   have h2 := rF (aDu d (yQ p) (sW d n).toNat) p.Tree.Rounds.toNat
   unfold oQ.leftFrom oQ.mostFrom rS xK
   simp only; omega
 ·simp only; omega
def qA (t : bR) (person prize : Int) : Int := if t.Two = -1 then prize else if t.One = person then (prize + 1).tdiv 2 else prize.tdiv 2
def jY (p : aP) (i : Int) : Int := p.Prizes.getD i.toNat 0
def sX (p : aP) (d : List Int) (person : Int) (t : bR) : cG :=
 if (iP p d t.Player).2 = 0 then ⟨qA t person (jY p (iP p d t.Player).1.Low), qA t person (jY p (iP p d t.Player).1.High)⟩ else ⟨0, 0⟩
def eK (p : aP) (d : List Int) (person : Int) : cG := match tH p person with | some t => sX p d person t | none => ⟨0, 0⟩
theorem uX {p : aP} (h : qG p = true) : ((∀ x ∈ p.Prizes, 0 ≤ x ∧ x ≤ 10000000) ∧ ∀ i (hi : i + 1 < p.Prizes.length), p.Prizes[i]'(by omega) ≤ p.Prizes[i + 1]) ∧ (p.Prizes.length : Int) = p.Tree.Rounds + 1 ∧ 0 ≤ p.Daily ∧ p.Daily ≤ 100000 := by
 unfold qG at h
 simp only [Bool.and_eq_true, decide_eq_true_eq, aBq] at h
 exact ⟨(aJf _).1 h.1.1, h.1.2, h.2⟩
theorem kO {p : aP} (h : qG p = true) {i : Int} (h0 : 0 ≤ i) (h1 : i ≤ p.Tree.Rounds) : idx p.Prizes i = some (jY p i) ∧ 0 ≤ jY p i ∧ jY p i ≤ 10000000 := by
 obtain ⟨⟨a1, a2⟩, a3, _⟩ := uX h
 have hl : i.toNat < p.Prizes.length := by omega
 have e : jY p i = p.Prizes[i.toNat] := by unfold jY; simp [List.getD, List.getElem?_eq_getElem hl]
 rw [aMj h0 hl, e]
 exact ⟨rfl, a1 _ (List.getElem_mem _)⟩
theorem aJj {t : bR} {person prize : Int} (h0 : 0 ≤ prize) (h1 : prize ≤ 10000000) : 0 ≤ qA t person prize ∧ qA t person prize ≤ 10000000 := by
 unfold qA
 have e1 : (prize + 1).tdiv 2 = (prize + 1) / 2 := Int.tdiv_eq_ediv_of_nonneg (by omega)
 have e2 : prize.tdiv 2 = prize / 2 := Int.tdiv_eq_ediv_of_nonneg (by omega)
 rw [e1, e2]
 split
 ·omega
 ·split <;> omega
theorem aWb {p : aP} (ht : ∀ t ∈ p.Teams, mJ t = true) (n : Int) : p.Teams.find? (fun t => decide (t.One = n) || (decide (t.Two = n) && !decide (t.Two = -1))) = tH p n := by
 unfold tH
 refine aLb _ _ _ fun t h => ?_
 have := oB.1 (ht t h)
 congr 1
 by_cases h2 : t.Two = n
 ·rw [decide_eq_true h2]
  by_cases h3 : t.Two = -1
  ·rw [decide_eq_true h3, decide_eq_false (by omega)]; rfl
  ·rw [decide_eq_false h3, decide_eq_true (by omega)]; rfl
 ·rw [decide_eq_false h2]; rfl
theorem aVd {t : bR} {person prize : Int} (h0 : 0 ≤ prize) (h1 : prize ≤ 10000000) : qH prize t person = some (qA t person prize) := by
 have e1 : (prize + 1).tdiv 2 = (prize + 1) / 2 := Int.tdiv_eq_ediv_of_nonneg (by omega)
 have e2 : prize.tdiv 2 = prize / 2 := Int.tdiv_eq_ediv_of_nonneg (by omega)
 have w1 : w64 (prize + 1) = prize + 1 := bW (by omega) (by omega)
 have w2 : w64 ((prize + 1).tdiv 2) = (prize + 1).tdiv 2 := by rw [e1]; exact bW (by omega) (by omega)
 have w3 : w64 (prize.tdiv 2) = prize.tdiv 2 := by rw [e2]; exact bW (by omega) (by omega)
 unfold qH qA
 rw [w1, w2, w3]
 by_cases h2 : t.Two = -1
 ·rw [decide_eq_true h2, if_pos h2]; rfl
 ·rw [decide_eq_false h2, if_neg h2, cond_false]
  by_cases h3 : t.One = person
  ·rw [decide_eq_true h3, if_pos h3]; rfl
  ·rw [decide_eq_false h3, if_neg h3]; rfl
section
variable {p : aP} (hz : Sz p) {d : List Int} (h : GP p d)
include hz h
theorem aVc (person : Int) : tL p person = some (eK p d person, lZ p person) := by
 have ht := qP h.teams
 have h1 := hz.teams
 unfold tL eK
 obtain ⟨i, hi, hc⟩ := aTy p.Teams (fun y4 => tF y4 person) (fun t => decide (t.One = person) || (decide (t.Two = person) && !decide (t.Two = -1))) (fun x _ => by
  unfold tF
  rw [dN, Option.bind_some, eC, Option.bind_some]) (by omega)
 rw [aWb ht] at hc
 have hip := aMq ht person
 rw [hi, Option.bind_some]
 rcases hc with ⟨h2, h3⟩ | ⟨j, hj, rfl, h3⟩
 ·rw [decide_eq_true h2, cond_true, h3]
  rw [h3] at hip
  rw [← hip]; rfl
 ·have hmem := List.mem_of_find?_eq_some (show p.Teams.find? _ = some p.Teams[j] from h3)
  have hsat := List.find?_some (show p.Teams.find? _ = some p.Teams[j] from h3)
  have htb := oB.1 (ht _ hmem)
  simp only [Bool.or_eq_true, Bool.and_eq_true, decide_eq_true_eq] at hsat
  have hpn : 0 ≤ person := by rcases hsat with h4 | h4 <;> omega
  rw [h3] at hip ⊢
  rw [decide_eq_true hpn] at hip
  have hip' : lZ p person = true := by rw [← hip]; rfl
  have hr := aCv p d p.Teams[j].Player (by have := h.good.ht.r1; omega)
  have q1 := kO h.prizes hr.1.1 hr.1.2
  have q2 := kO h.prizes hr.2.1 hr.2.2
  unfold rK
  rw [decide_eq_false (by omega), cond_false, bM hj, Option.bind_some, aXh h.good, Option.bind_some, hip']
  simp only
  unfold sX
  by_cases h0 : (iP p d p.Teams[j].Player).2 = 0
  ·rw [decide_eq_true h0, if_pos h0, Bool.not_true, cond_false, q1.1, Option.bind_some, aVd q1.2.1 q1.2.2, Option.bind_some, q2.1, Option.bind_some, aVd q2.2.1 q2.2.2, Option.bind_some]
  ·rw [decide_eq_false h0, if_neg h0, Bool.not_false, cond_true]
omit hz in
theorem aSk {t : bR} (ht : t ∈ p.Teams) (h2 : t.Two ≠ -1) : t.One ≠ t.Two := by
 have hn : (cW p).Nodup := by
  have := h.teams
  unfold oC at this
  simp only [Bool.and_eq_true, decide_eq_true_eq] at this
  exact this.1.1.2
 have hpp : (p.Teams.flatMap fM).Nodup ↔ (∀ t ∈ p.Teams, (fM t).Nodup) ∧ p.Teams.Pairwise fun a b => ∀ x ∈ fM a, ∀ y ∈ fM b, x ≠ y := List.pairwise_flatMap
 have := (hpp.1 hn).1 t ht
 unfold fM at this
 rw [if_neg h2] at this
 simpa using this
omit hz in
theorem aCr (person : Int) : (0 ≤ (eK p d person).Low ∧ (eK p d person).Low ≤ 10000000) ∧ (0 ≤ (eK p d person).High ∧ (eK p d person).High ≤ 10000000) := by
 unfold eK
 split
 ·rename_i t _
  unfold sX
  split
  ·have hr := aCv p d t.Player (by have := h.good.ht.r1; omega)
   have q1 := kO h.prizes hr.1.1 hr.1.2
   have q2 := kO h.prizes hr.2.1 hr.2.2
   exact ⟨aJj q1.2.1 q1.2.2, aJj q2.2.1 q2.2.2⟩
  ·simp
 ·simp
end
end Go.Am
end
section
namespace Go.Am
theorem aGs {α S : Type} (q : α → Bool) (g : S → α → S) : ∀ (l : List α) (s : S), l.Pairwise (fun x y => ¬ (q x = true ∧ q y = true)) → l.foldl (fun s x => bif q x then g s x else s) s = match l.find? q with | some x => g s x | none => s
 | [], s, _ => rfl
 | x :: l, s, h => by
  have h' := List.pairwise_cons.1 h
  rw [List.foldl_cons, List.find?_cons]
  cases hq : q x with
  | true =>
   simp only [cond_true]
   have hno : ∀ (l : List α) (s : S), (∀ y ∈ l, q y = false) → l.foldl (fun s x => bif q x then g s x else s) s = s := by
    intro l
    induction l with
    | nil => intro s _; rfl
    | cons y l ih => intro s hl; rw [List.foldl_cons, hl y List.mem_cons_self, cond_false]; exact ih s fun z hz => hl z (List.mem_cons_of_mem _ hz)
   exact hno l _ fun y hy => by
    cases hy' : q y with
    | false => rfl
    | true => exact absurd ⟨hq, hy'⟩ (h'.1 y hy)
  | false => rw [cond_false]; exact aGs q g l s h'.2
def gP (p : aP) : List aI := (List.range 100).filterMap fun id : Nat => p.Items.find? fun x => decide (x.Id = (id : Int))
theorem aEi {p : aP} (hid : ∀ x ∈ p.Items, 0 ≤ x.Id ∧ x.Id ≤ 99) (hc : ¬ aDa p.Items) (x : aI) : x ∈ gP p ↔ x ∈ p.Items := by
 unfold gP
 rw [List.mem_filterMap]
 constructor
 ·rintro ⟨id, _, h⟩; exact List.mem_of_find?_eq_some h
 ·intro hx
  have hb := hid x hx
  refine ⟨x.Id.toNat, List.mem_range.2 (by omega), ?_⟩
  have hsome : (p.Items.find? fun y => decide (y.Id = ((x.Id.toNat : Nat) : Int))).isSome := by
   rw [List.find?_isSome]
   exact ⟨x, hx, by simp; omega⟩
  obtain ⟨y, hy⟩ := Option.isSome_iff_exists.1 hsome
  have h1 := List.mem_of_find?_eq_some hy
  have h2 := List.find?_some hy
  simp only [decide_eq_true_eq] at h2
  rw [hy]
  congr 1
  exact Classical.byContradiction fun hne => hc ⟨y, h1, x, hx, by omega, hne⟩
theorem aNc (p : aP) : (gP p).Pairwise fun x y => x.Id < y.Id := by
 unfold gP
 refine List.Pairwise.filterMap (R := fun a b : Nat => a < b) _ ?_ List.pairwise_lt_range
 intro a b hab x hx y hy
 have h1 := List.find?_some hx
 have h2 := List.find?_some hy
 simp only [decide_eq_true_eq] at h1 h2
 omega
section
variable {p : aP} (hz : Sz p) {d : List Int} (h : GP p d)
include hz h
omit hz in
theorem aCs : (∀ x ∈ p.Items, xI p x = true) ∧ ¬ aDa p.Items ∧ p.Items.length ≤ 40 := by
 have := h.items
 unfold uR at this
 rw [Bool.and_eq_true, decide_eq_true_eq] at this
 obtain ⟨h1, h2⟩ := (aAb p).1 this.1
 exact ⟨h1, h2, this.2⟩
omit hz in
theorem bBe : pG p.Items = some (gP p, true) := by
 obtain ⟨h1, h2, h3⟩ := aCs h
 have hid : ∀ x ∈ p.Items, 0 ≤ x.Id ∧ x.Id ≤ 99 := fun x hx => (zB.1 (h1 x hx)).1
 rcases aNg p.Items hid (by omega) with ⟨hc, _⟩ | ⟨_, zs, ho, hst, hm, _⟩
 ·exact absurd hc h2
 ·rw [ho, zO (key := fun x : aI => x.Id) hst (aNc p) fun x => (hm x).trans (aEi hid h2 x).symm]
omit hz in
theorem aWu : ∀ x ∈ gP p, xI p x = true := fun x hx => by
 obtain ⟨h1, h2, h3⟩ := aCs h
 exact h1 x ((aEi (fun x hx => (zB.1 (h1 x hx)).1) h2 x).1 hx)
omit hz in
theorem aCa : (gP p).length ≤ 40 := by
 obtain ⟨h1, h2, h3⟩ := aCs h
 have hm := aEi (fun x hx => (zB.1 (h1 x hx)).1) h2
 exact Nat.le_trans (oO ((aNc p).imp fun hxy he => by rw [he] at hxy; omega) fun x hx => (hm x).1 hx) h3
end
def aCx (p : aP) (person g : Int) : Int := match p.Levies.find? fun l => decide (l.Person = person) with | some l => (g * l.Mille).tdiv 1000 | none => 0
def aCp (D person : Int) (s : Int) (x : aI) : Int := bif decide (x.Person = person) && decide (x.Kind = 2) then s + x.Amount * D else s
def yP (person : Int) (s : Int) (x : aI) : Int := bif decide (x.Person = person) && !decide (x.Kind = 2) then s + x.Amount else s
def xE (p : aP) (person : Int) : Int := (gP p).foldl (aCp p.Daily person) 0
def tX (p : aP) (person : Int) : Int := (gP p).foldl (yP person) 0
def vL (p : aP) (person : Int) : Int × Int := match p.Rates.find? fun r => decide (r.Person = person) with | some r => (r.Num, r.Den) | none => (1, 1)
def nQ (person g tax day fine num den : Int) : aY :=
 ⟨person, g, tax, day, fine, max 0 (-(g + day - tax - fine)), (max 0 (g + day - tax - fine) * num).tdiv den, ((max 0 (g + day - tax - fine) * num).tdiv den * den + num - 1).tdiv num, max 0 (g + day - tax - fine) - ((max 0 (g + day - tax - fine) * num).tdiv den * den + num - 1).tdiv num⟩
def zW (p : aP) (d : List Int) (person : Int) : aY := nQ person (eK p d person).Low (aCx p person (eK p d person).Low) (xE p person) (tX p person) (vL p person).1 (vL p person).2
theorem aGj {D : Int} (hD : 0 ≤ D ∧ D ≤ 100000) {person : Int} : ∀ (l : List aI) (s : Int), (∀ x ∈ l, 0 ≤ x.Amount ∧ (x.Kind = 2 → x.Amount ≤ 30)) → 0 ≤ s → 0 ≤ l.foldl (aCp D person) s ∧ l.foldl (aCp D person) s ≤ s + 3000000 * l.length
 | [], s, _, h0 => by simp [h0]
 | x :: l, s, h, h0 => by
  rw [List.foldl_cons]
  have hx := h x List.mem_cons_self
  have hs : 0 ≤ aCp D person s x ∧ aCp D person s x ≤ s + 3000000 := by
   unfold aCp
   cases hc : (decide (x.Person = person) && decide (x.Kind = 2)) with
   | false => rw [cond_false]; omega
   | true =>
    rw [cond_true]
    simp only [Bool.and_eq_true, decide_eq_true_eq] at hc
    have h1 := Int.mul_nonneg hx.1 hD.1
    have h2 : x.Amount * D ≤ 30 * 100000 := Int.mul_le_mul (hx.2 hc.2) hD.2 hD.1 (by omega)
    omega
  have := aGj hD (person := person) l (aCp D person s x) (fun y hy => h y (List.mem_cons_of_mem _ hy)) hs.1
  rw [List.length_cons]
  omega
theorem aEb {person : Int} : ∀ (l : List aI) (s : Int), (∀ x ∈ l, 0 ≤ x.Amount ∧ x.Amount ≤ 10000000) → 0 ≤ s → 0 ≤ l.foldl (yP person) s ∧ l.foldl (yP person) s ≤ s + 10000000 * l.length
 | [], s, _, h0 => by simp [h0]
 | x :: l, s, h, h0 => by
  rw [List.foldl_cons]
  have hx := h x List.mem_cons_self
  have hs : 0 ≤ yP person s x ∧ yP person s x ≤ s + 10000000 := by
   unfold yP
   cases (decide (x.Person = person) && !decide (x.Kind = 2)) <;> simp <;> omega
  have := aEb (person := person) l (yP person s x) (fun y hy => h y (List.mem_cons_of_mem _ hy)) hs.1
  rw [List.length_cons]
  omega
end Go.Am
end
section
namespace Go.Am
theorem aHo {α S T : Type} (f : S → α → S) (g : T → α → T) : ∀ (l : List α) (s : S × T), l.foldl (fun s x => (f s.1 x, g s.2 x)) s = (l.foldl f s.1, l.foldl g s.2)
 | [], s => rfl
 | x :: l, s => by rw [List.foldl_cons, aHo f g l]; rfl
theorem aFi {a b : Int} (ha : 0 ≤ a) (hb : 1 ≤ b) : a.tdiv b = a / b ∧ 0 ≤ a / b ∧ a / b ≤ a := by
 refine ⟨Int.tdiv_eq_ediv_of_nonneg ha, Int.ediv_nonneg ha (by omega), ?_⟩
 exact Int.ediv_le_self b ha
structure aOg (g tax day fine num den : Int) : Prop where
 gr : 0 ≤ g ∧ g ≤ 10000000
 taxr : 0 ≤ tax ∧ tax ≤ g
 dayr : 0 ≤ day ∧ day ≤ 120000000
 finer : 0 ≤ fine ∧ fine ≤ 400000000
 numr : 1 ≤ num ∧ num ≤ 10000
 denr : 1 ≤ den ∧ den ≤ 10000
theorem aSr {person g tax day fine num den : Int} (h : aOg g tax day fine num den) :
  aY.mk person g tax day fine (max 0 (w64 (-(w64 ((w64 ((w64 (g + day)) - tax)) - fine))))) (w64 ((w64 ((max 0 (w64 ((w64 ((w64 (g + day)) - tax)) - fine))) * num)).tdiv den)) (w64 ((w64 ((w64 ((w64 ((w64 ((w64 ((max 0 (w64 ((w64 ((w64 (g + day)) - tax)) - fine))) * num)).tdiv den)) * den)) + num)) - 1)).tdiv num)) (w64 ((max 0 (w64 ((w64 ((w64 (g + day)) - tax)) - fine))) - (w64 ((w64 ((w64 ((w64 ((w64 ((w64 ((max 0 (w64 ((w64 ((w64 (g + day)) - tax)) - fine))) * num)).tdiv den)) * den)) + num)) - 1)).tdiv num)))) = nQ person g tax day fine num den := by
 obtain ⟨h1, h2, h3, h4, h5, h6⟩ := h
 have w1 : w64 (g + day) = g + day := bW (by omega) (by omega)
 have w2 : w64 (g + day - tax) = g + day - tax := bW (by omega) (by omega)
 have w3 : w64 (g + day - tax - fine) = g + day - tax - fine := bW (by omega) (by omega)
 have w4 : w64 (-(g + day - tax - fine)) = -(g + day - tax - fine) := bW (by omega) (by omega)
 rw [w1, w2, w3, w4]
 obtain ⟨paid, hp⟩ : ∃ paid, paid = max 0 (g + day - tax - fine) := ⟨_, rfl⟩
 have hpr : 0 ≤ paid ∧ paid ≤ 130000000 := by omega
 unfold nQ
 rw [← hp]
 have m1 := Int.mul_nonneg hpr.1 (show (0 : Int) ≤ num by omega)
 have m2 : paid * num ≤ 130000000 * 10000 := Int.mul_le_mul hpr.2 h5.2 (by omega) (by omega)
 have w5 : w64 (paid * num) = paid * num := bW (by omega) (by omega)
 obtain ⟨t1, t2, t3⟩ := aFi m1 h6.1
 have w6 : w64 ((paid * num).tdiv den) = (paid * num).tdiv den := by rw [t1]; exact bW (by omega) (by omega)
 rw [w5, w6]
 obtain ⟨units, hu⟩ : ∃ units, units = (paid * num).tdiv den := ⟨_, rfl⟩
 have hur : 0 ≤ units ∧ units ≤ 1300000000000 := by rw [hu, t1]; omega
 rw [← hu]
 have m3 := Int.mul_nonneg hur.1 (show (0 : Int) ≤ den by omega)
 have m4 : units * den ≤ 1300000000000 * 10000 := Int.mul_le_mul hur.2 h6.2 (by omega) (by omega)
 have w7 : w64 (units * den) = units * den := bW (by omega) (by omega)
 have w8 : w64 (units * den + num) = units * den + num := bW (by omega) (by omega)
 have w9 : w64 (units * den + num - 1) = units * den + num - 1 := bW (by omega) (by omega)
 rw [w7, w8, w9]
 obtain ⟨t4, t5, t6⟩ := aFi (show 0 ≤ units * den + num - 1 by omega) h5.1
 have w10 : w64 ((units * den + num - 1).tdiv num) = (units * den + num - 1).tdiv num := by rw [t4]; exact bW (by omega) (by omega)
 rw [w10]
 have w11 : w64 (paid - (units * den + num - 1).tdiv num) = paid - (units * den + num - 1).tdiv num := by rw [t4]; exact bW (by omega) (by omega)
 rw [w11]
section
variable {p : aP} (hz : Sz p) {d : List Int} (h : GP p d)
include h
theorem aBh : (∀ x ∈ p.Levies, lZ p x.Person = true ∧ 0 ≤ x.Mille ∧ x.Mille ≤ 500) ∧ p.Levies.Pairwise fun x y => x.Person ≠ y.Person := by
 have hw := aLu p.Levies (aEk p) (fun x => lZ p x.Person = true ∧ 0 ≤ x.Mille ∧ x.Mille ≤ 500) (fun y x => y.Person ≠ x.Person) (fun pre x => by
  unfold aEk
  rw [Bool.and_eq_true, Bool.and_eq_true, aBq, Bool.not_eq_true', decide_eq_false_iff_not, List.mem_map, and_assoc]
  constructor
  ·rintro ⟨a, b, c⟩; exact ⟨⟨a, b⟩, fun y hy he => c ⟨y, hy, he⟩⟩
  ·rintro ⟨⟨a, b⟩, c⟩; exact ⟨a, b, fun ⟨y, hy, he⟩ => c y hy he⟩)
 exact hw.1 h.levies
theorem aJg : (∀ x ∈ p.Rates, (lZ p x.Person = true ∧ 1 ≤ x.Num ∧ x.Num ≤ 10000) ∧ 1 ≤ x.Den ∧ x.Den ≤ 10000) ∧ p.Rates.Pairwise fun x y => x.Person ≠ y.Person := by
 have hw := aLu p.Rates (aEw p) (fun x => (lZ p x.Person = true ∧ 1 ≤ x.Num ∧ x.Num ≤ 10000) ∧ 1 ≤ x.Den ∧ x.Den ≤ 10000) (fun y x => y.Person ≠ x.Person) (fun pre x => by
  unfold aEw
  rw [Bool.and_eq_true, Bool.and_eq_true, Bool.and_eq_true, aBq, aBq, Bool.not_eq_true', decide_eq_false_iff_not, List.mem_map]
  constructor
  ·rintro ⟨⟨⟨a, b⟩, e⟩, c⟩; exact ⟨⟨⟨a, b⟩, e⟩, fun y hy he => c ⟨y, hy, he⟩⟩
  ·rintro ⟨⟨⟨a, b⟩, e⟩, c⟩; exact ⟨⟨⟨a, b⟩, e⟩, fun ⟨y, hy, he⟩ => c y hy he⟩)
 exact hw.1 h.rates
theorem aXr (person g : Int) : p.Levies.foldl (fun s l => bif decide (l.Person = person) then (g * l.Mille).tdiv 1000 else s) 0 = aCx p person g := by
 have := aGs (fun l : fX => decide (l.Person = person)) (fun (_ : Int) l => (g * l.Mille).tdiv 1000) p.Levies 0 ((aBh h).2.imp fun hne hb => hne (by simp only [decide_eq_true_eq] at hb; omega))
 rw [this]
 unfold aCx
 cases p.Levies.find? fun l => decide (l.Person = person) <;> rfl
theorem aVh (person : Int) : p.Rates.foldl (fun s r => bif decide (r.Person = person) then (r.Num, r.Den) else s) (1, 1) = vL p person := by
 have := aGs (fun r : eO => decide (r.Person = person)) (fun (_ : Int × Int) r => (r.Num, r.Den)) p.Rates (1, 1) ((aJg h).2.imp fun hne hb => hne (by simp only [decide_eq_true_eq] at hb; omega))
 rw [this]
 unfold vL
 cases p.Rates.find? fun r => decide (r.Person = person) <;> rfl
theorem aWa {person g : Int} (hg : 0 ≤ g ∧ g ≤ 10000000) : 0 ≤ aCx p person g ∧ aCx p person g ≤ g := by
 unfold aCx
 split
 ·rename_i l hl
  have := (aBh h).1 l (List.mem_of_find?_eq_some hl)
  have m1 := Int.mul_nonneg hg.1 this.2.1
  have m2 : g * l.Mille ≤ g * 500 := Int.mul_le_mul_of_nonneg_left this.2.2 hg.1
  rw [Int.tdiv_eq_ediv_of_nonneg m1]
  omega
 ·omega
theorem aLv (person : Int) : (1 ≤ (vL p person).1 ∧ (vL p person).1 ≤ 10000) ∧ 1 ≤ (vL p person).2 ∧ (vL p person).2 ≤ 10000 := by
 unfold vL
 split
 ·rename_i r hr
  have := (aJg h).1 r (List.mem_of_find?_eq_some hr)
  exact ⟨this.1.2, this.2⟩
 ·simp
theorem nY : ∀ x ∈ gP p, (0 ≤ x.Amount ∧ x.Amount ≤ 10000000) ∧ (x.Kind = 2 → x.Amount ≤ 30) ∧ (x.Kind = 1 ∨ x.Kind = 2) := fun x hx => by
 have := zB.1 (aWu h x hx)
 rcases this.2.2 with ⟨h1, h2⟩ | ⟨h1, h2⟩ <;> omega
theorem aZy (person : Int) : 0 ≤ xE p person ∧ xE p person ≤ 120000000 := by
 have := aGj (D := p.Daily) (uX h.prizes).2.2 (person := person) (gP p) 0 (fun x hx => ⟨((nY h) x hx).1.1, ((nY h) x hx).2.1⟩) (Int.le_refl _)
 have hl := aCa h
 unfold xE; omega
theorem aYz (person : Int) : 0 ≤ tX p person ∧ tX p person ≤ 400000000 := by
 have := aEb (person := person) (gP p) 0 (fun x hx => ((nY h) x hx).1) (Int.le_refl _)
 have hl := aCa h
 unfold tX; omega
theorem aRz (person : Int) : aOg (eK p d person).Low (aCx p person (eK p d person).Low) (xE p person) (tX p person) (vL p person).1 (vL p person).2 :=
 ⟨(aCr h person).1, aWa h (aCr h person).1, aZy h person, aYz h person, (aLv h person).1, (aLv h person).2⟩
theorem aUw {g : Int} (hg : 0 ≤ g ∧ g ≤ 10000000) {x : fX} (hx : x ∈ p.Levies) : w64 ((w64 (g * x.Mille)).tdiv 1000) = (g * x.Mille).tdiv 1000 := by
 have := (aBh h).1 x hx
 have m1 := Int.mul_nonneg hg.1 this.2.1
 have m2 : g * x.Mille ≤ 10000000 * 500 := Int.mul_le_mul hg.2 this.2.2 this.2.1 (by omega)
 rw [bW (show -9223372036854775808 ≤ g * x.Mille by omega) (by omega), Int.tdiv_eq_ediv_of_nonneg m1, bW (by omega) (by omega)]
theorem aTd {person : Int} {i : Nat} {s : Int × Int} (hs : s = ((gP p).take i).foldl (fun s x => (aCp p.Daily person s.1 x, yP person s.2 x)) (0, 0)) : (0 ≤ s.1 ∧ s.1 ≤ 120000000) ∧ (0 ≤ s.2 ∧ s.2 ≤ 400000000) := by
 have hl := aCa h
 have hlt : ((gP p).take i).length ≤ 40 := by simp; omega
 rw [hs, aHo]
 have h1 := aGj (D := p.Daily) (uX h.prizes).2.2 (person := person) ((gP p).take i) 0 (fun x hx => ⟨((nY h) x (List.mem_of_mem_take hx)).1.1, ((nY h) x (List.mem_of_mem_take hx)).2.1⟩) (Int.le_refl _)
 have h2 := aEb (person := person) ((gP p).take i) 0 (fun x hx => ((nY h) x (List.mem_of_mem_take hx)).1) (Int.le_refl _)
 simp only
 omega
theorem aWk {x : aI} (hx : x ∈ gP p) (k2 : x.Kind = 2) : 0 ≤ x.Amount * p.Daily ∧ x.Amount * p.Daily ≤ 3000000 := by
 have ha := (nY h) x hx
 have hD := (uX h.prizes).2.2
 have m1 := Int.mul_nonneg ha.1.1 hD.1
 have m2 : x.Amount * p.Daily ≤ 30 * 100000 := Int.mul_le_mul (ha.2.1 k2) hD.2 hD.1 (by omega)
 omega
include hz
theorem aYk (person : Int) : vJ p person = some (zW p d person) := by
 have hg := (aCr h person).1
 have hlv := hz.levies
 have hrt := hz.rates
 have hil := aCa h
 obtain ⟨g, hge⟩ : ∃ g, g = (eK p d person).Low := ⟨_, rfl⟩
 rw [← hge] at hg
 unfold vJ
 rw [aVc hz h person, Option.bind_some]
 show kZ person p.Levies (p.Levies.length : Int) p _ BIG 0 (aY.mk person (eK p d person).Low 0 0 0 0 0 0 0) = _
 rw [← hge]
 have main := sF (fun k i s => kZ person p.Levies (p.Levies.length : Int) p (aY.mk 0 0 0 0 0 0 0 0 0) k i (aY.mk person g s 0 0 0 0 0 0)) p.Levies (fun s l => bif decide (l.Person = person) then (g * l.Mille).tdiv 1000 else s) (fun s => vY person p (aY.mk 0 0 0 0 0 0 0 0 0) (aY.mk person g s 0 0 0 0 0 0)) 0 ?_ ?_ BIG (cE (by omega))
 ·refine Eq.trans main ?_
  rw [aXr h]
  obtain ⟨tax, htx⟩ : ∃ tax, tax = aCx p person g := ⟨_, rfl⟩
  rw [← htx]
  unfold vY
  rw [bBe h, Option.bind_some]
  have main2 := sF (S := Int × Int) (fun k i s => lA person (gP p) ((gP p).length : Int) p (aY.mk 0 0 0 0 0 0 0 0 0) k i (aY.mk person g tax s.1 s.2 0 0 0 0)) (gP p) (fun s x => (aCp p.Daily person s.1 x, yP person s.2 x)) (fun s => tE person p (aY.mk 0 0 0 0 0 0 0 0 0) (aY.mk person g tax s.1 s.2 0 0 0 0)) (0, 0) ?_ ?_ BIG (cE (by omega))
  ·refine Eq.trans main2 ?_
   rw [aHo]
   show tE person p _ (aY.mk person g tax (xE p person) (tX p person) 0 0 0 0) = _
   unfold tE
   have main3 := sF (S := Int × Int) (fun k i s => mR person (max 0 (w64 ((w64 ((w64 (g + xE p person)) - tax)) - tX p person))) p.Rates (p.Rates.length : Int) (aY.mk 0 0 0 0 0 0 0 0 0) (aY.mk person g tax (xE p person) (tX p person) (max 0 (w64 (-(w64 ((w64 ((w64 (g + xE p person)) - tax)) - tX p person))))) 0 0 0) k s.1 s.2 i) p.Rates (fun s r => bif decide (r.Person = person) then (r.Num, r.Den) else s) (fun s => vZ (max 0 (w64 ((w64 ((w64 (g + xE p person)) - tax)) - tX p person))) s.1 s.2 (aY.mk 0 0 0 0 0 0 0 0 0) (aY.mk person g tax (xE p person) (tX p person) (max 0 (w64 (-(w64 ((w64 ((w64 (g + xE p person)) - tax)) - tX p person))))) 0 0 0)) (1, 1) ?_ ?_ BIG (cE (by omega))
   ·refine Eq.trans main3 ?_
    rw [aVh h]
    have hb := aRz h person
    rw [← hge, ← htx] at hb
    unfold vZ
    rw [decide_eq_false (show ¬ (vL p person).2 = 0 by have := hb.denr; omega), decide_eq_false (show ¬ (vL p person).1 = 0 by have := hb.numr; omega)]
    show some _ = _
    have := aSr (person := person) hb
    unfold zW
    rw [← hge, ← htx, ← this]
   ·intro k i hi s hs
    have hlt : decide ((i : Int) < (p.Rates.length : Int)) = true := decide_eq_true (by omega)
    simp only [mR, hlt, cond_true, bM hi, Option.bind_some, bH (show i < 9223372036854775807 by omega)]
    cases decide (p.Rates[i].Person = person) <;> rfl
   ·intro k s
    have hlt : decide ((p.Rates.length : Int) < (p.Rates.length : Int)) = false := decide_eq_false (by omega)
    simp only [mR, hlt, cond_false]
  ·intro k i hi s hs
   have hlt : decide ((i : Int) < ((gP p).length : Int)) = true := decide_eq_true (by omega)
   have hst := aTd h hs
   have hx : (gP p)[i] ∈ gP p := List.getElem_mem hi
   have ha := (nY h) _ hx
   simp only [lA, hlt, cond_true, bM hi, Option.bind_some, bH (show i < 9223372036854775807 by omega)]
   unfold aCp yP
   cases decide ((gP p)[i].Person = person) with
   | false => rfl
   | true =>
    by_cases k2 : (gP p)[i].Kind = 2
    ·have hp := aWk h hx k2
     rw [decide_eq_true k2]
     simp only [Bool.not_true, cond_false, cond_true, Bool.and_true, Bool.and_false]
     rw [bW (show -9223372036854775808 ≤ (gP p)[i].Amount * p.Daily by omega) (by omega), bW (show -9223372036854775808 ≤ s.1 + (gP p)[i].Amount * p.Daily by omega) (by omega)]
    ·rw [decide_eq_false k2]
     simp only [Bool.not_true, Bool.not_false, cond_false, cond_true, Bool.and_true, Bool.and_false]
     rw [bW (show -9223372036854775808 ≤ s.2 + (gP p)[i].Amount by omega) (by omega)]
  ·intro k s
   have hlt : decide (((gP p).length : Int) < ((gP p).length : Int)) = false := decide_eq_false (by omega)
   simp only [lA, hlt, cond_false]
 ·intro k i hi s hs
  have hlt : decide ((i : Int) < (p.Levies.length : Int)) = true := decide_eq_true (by omega)
  have hstep := aUw h hg (List.getElem_mem hi)
  simp only [kZ, hlt, cond_true, bM hi, Option.bind_some, bH (show i < 9223372036854775807 by omega), hstep]
  cases decide (p.Levies[i].Person = person) <;> rfl
 ·intro k s
  have hlt : decide ((p.Levies.length : Int) < (p.Levies.length : Int)) = false := decide_eq_false (by omega)
  simp only [kZ, hlt, cond_false]
end
end Go.Am
end
section
namespace Go.Am
theorem aSs {person g tax day fine num den : Int} (h : aOg g tax day fine num den) :
  (0 ≤ (nQ person g tax day fine num den).Units ∧ (nQ person g tax day fine num den).Units ≤ 1300000000000) ∧
  (0 ≤ (nQ person g tax day fine num den).Used ∧ (nQ person g tax day fine num den).Used ≤ 130000000) ∧
  (0 ≤ (nQ person g tax day fine num den).Rest ∧ (nQ person g tax day fine num den).Rest ≤ 130000000) ∧
  (0 ≤ (nQ person g tax day fine num den).Debt ∧ (nQ person g tax day fine num den).Debt ≤ 410000000) ∧
  (nQ person g tax day fine num den).Used + (nQ person g tax day fine num den).Rest = max 0 (g + day - tax - fine) ∧
  (nQ person g tax day fine num den).Units = max 0 (g + day - tax - fine) * num / den ∧
  (nQ person g tax day fine num den).Used = ((nQ person g tax day fine num den).Units * den + num - 1) / num := by
 obtain ⟨h1, h2, h3, h4, h5, h6⟩ := h
 unfold nQ
 simp only
 obtain ⟨paid, hp⟩ : ∃ paid, paid = max 0 (g + day - tax - fine) := ⟨_, rfl⟩
 have hpr : 0 ≤ paid ∧ paid ≤ 130000000 := by omega
 rw [← hp]
 have m1 := Int.mul_nonneg hpr.1 (show (0 : Int) ≤ num by omega)
 have m2 : paid * num ≤ 130000000 * 10000 := Int.mul_le_mul hpr.2 h5.2 (by omega) (by omega)
 obtain ⟨t1, t2, t3⟩ := aFi m1 h6.1
 rw [t1]
 obtain ⟨units, hu⟩ : ∃ units, units = paid * num / den := ⟨_, rfl⟩
 rw [← hu]
 have hur : 0 ≤ units ∧ units ≤ 1300000000000 := by rw [hu]; omega
 have m3 := Int.mul_nonneg hur.1 (show (0 : Int) ≤ den by omega)
 obtain ⟨t4, t5, t6⟩ := aFi (show 0 ≤ units * den + num - 1 by omega) h5.1
 rw [t4]
 have hle : units * den ≤ paid * num := by rw [hu]; exact Int.ediv_mul_le _ (by omega)
 have hused : (units * den + num - 1) / num ≤ paid := by
  have : (units * den + num - 1) / num < paid + 1 := Int.ediv_lt_of_lt_mul (by omega) (by rw [Int.add_mul, Int.one_mul]; omega)
  omega
 refine ⟨hur, ⟨t5, by omega⟩, ⟨by omega, by omega⟩, ⟨by omega, by omega⟩, by omega, rfl, rfl⟩
def aAp (p : aP) : List Int := ((List.range 1000).map fun n : Nat => (n : Int)).filter (lZ p)
def aCl (s b : aY) : aY := ⟨s.Person, s.Gross + b.Gross, s.Tax + b.Tax, s.Daily + b.Daily, s.Fines + b.Fines, s.Debt + b.Debt, s.Units + b.Units, s.Used + b.Used, s.Rest + b.Rest⟩
def aAu (p : aP) (d : List Int) : List aY := (aAp p).map (zW p d)
def aQl (p : aP) (d : List Int) : aY := (aAu p d).foldl aCl ⟨-1, 0, 0, 0, 0, 0, 0, 0, 0⟩
theorem aPr {p : aP} (ht : ∀ t ∈ p.Teams, mJ t = true) {n : Int} (hn : lZ p n = true) : 0 ≤ n ∧ n ≤ 999 := by
 rw [wU, decide_eq_true_eq, aLn] at hn
 obtain ⟨t, h1, h2⟩ := hn
 have := oB.1 (ht t h1)
 rcases h2 with h2 | h2 <;> omega
theorem aXg (n : Nat) : ((List.range n).map fun n : Nat => (n : Int)).Pairwise fun x y => x < y := List.Pairwise.map _ (fun a b h => by omega) List.pairwise_lt_range
theorem aRh {p : aP} (ht : ∀ t ∈ p.Teams, mJ t = true) (n : Int) : n ∈ aAp p ↔ lZ p n = true := by
 unfold aAp
 rw [List.mem_filter, List.mem_map]
 constructor
 ·exact fun h => h.2
 ·intro h
  have := aPr ht h
  exact ⟨⟨n.toNat, List.mem_range.2 (by omega), by omega⟩, h⟩
theorem aNw {p : aP} {d : List Int} (h : GP p d) : eQ (cW p) = aAp p := by
 have ht := qP h.teams
 have hn : (cW p).Nodup := by
  have := h.teams
  unfold oC at this
  simp only [Bool.and_eq_true, decide_eq_true_eq] at this
  exact this.1.1.2
 have hs : (eQ (cW p)).Pairwise fun x y : Int => x ≤ y := by
  have := List.pairwise_mergeSort (le := fun x y : Int => decide (x ≤ y)) (by intro a b c; simp only [decide_eq_true_eq]; omega) (by intro a b; simp only [Bool.or_eq_true, decide_eq_true_eq]; omega) (cW p)
  exact this.imp fun h => by simpa using h
 have hnd : (eQ (cW p)).Nodup := (mI _).nodup_iff.2 hn
 refine zO (key := fun x : Int => x) (hs.imp₂ (fun _ _ a b => by omega) hnd) ((aXg 1000).sublist List.filter_sublist) fun x => ?_
 rw [aRh ht, wU, decide_eq_true_eq]
theorem aJd (p : aP) : (aAp p).length ≤ 1000 := Nat.le_trans (List.length_filter_le _ _) (by rw [List.length_map, List.length_range]; exact Nat.le_refl _)
structure SumIn (s : aY) (n : Int) : Prop where
 a1 : 0 ≤ s.Gross ∧ s.Gross ≤ n * 1300000000000
 a2 : 0 ≤ s.Tax ∧ s.Tax ≤ n * 1300000000000
 a3 : 0 ≤ s.Daily ∧ s.Daily ≤ n * 1300000000000
 a4 : 0 ≤ s.Fines ∧ s.Fines ≤ n * 1300000000000
 a5 : 0 ≤ s.Debt ∧ s.Debt ≤ n * 1300000000000
 a6 : 0 ≤ s.Units ∧ s.Units ≤ n * 1300000000000
 a7 : 0 ≤ s.Used ∧ s.Used ≤ n * 1300000000000
 a8 : 0 ≤ s.Rest ∧ s.Rest ≤ n * 1300000000000
theorem SumIn.add {s b : aY} {n : Int} (hs : SumIn s n) (hb : SumIn b 1) : SumIn (aCl s b) (n + 1) := by
 obtain ⟨a1, a2, a3, a4, a5, a6, a7, a8⟩ := hs
 obtain ⟨b1, b2, b3, b4, b5, b6, b7, b8⟩ := hb
 unfold aCl
 constructor <;> simp only <;> omega
theorem aVx : ∀ (l : List aY) (s : aY) (n : Int), SumIn s n → (∀ b ∈ l, SumIn b 1) → SumIn (l.foldl aCl s) (n + l.length)
 | [], s, n, hs, _ => by simpa using hs
 | b :: l, s, n, hs, hb => by
  rw [List.foldl_cons, List.length_cons]
  have := aVx l (aCl s b) (n + 1) (hs.add (hb b List.mem_cons_self)) fun c hc => hb c (List.mem_cons_of_mem _ hc)
  have e : n + 1 + (l.length : Int) = n + ((l.length + 1 : Nat) : Int) := by omega
  rwa [e] at this
theorem aWh {p : aP} {d : List Int} (h : GP p d) (person : Int) : SumIn (zW p d person) 1 := by
 have hb := aRz h person
 obtain ⟨f1, f2, f3, f4, _⟩ := aSs (person := person) hb
 obtain ⟨h1, h2, h3, h4, h5, h6⟩ := hb
 unfold zW
 constructor
 ·show 0 ≤ (eK p d person).Low ∧ (eK p d person).Low ≤ _; omega
 ·show 0 ≤ aCx p person (eK p d person).Low ∧ aCx p person (eK p d person).Low ≤ _; omega
 ·show 0 ≤ xE p person ∧ xE p person ≤ _; omega
 ·show 0 ≤ tX p person ∧ tX p person ≤ _; omega
 ·omega
 ·omega
 ·omega
 ·omega
theorem aYa (n : Int) : SumIn ⟨n, 0, 0, 0, 0, 0, 0, 0, 0⟩ 0 := by constructor <;> simp
theorem aXq {s b : aY} (hs : SumIn s 1000) (hb : SumIn b 1) : aY.mk s.Person (w64 (s.Gross + b.Gross)) (w64 (s.Tax + b.Tax)) (w64 (s.Daily + b.Daily)) (w64 (s.Fines + b.Fines)) (w64 (s.Debt + b.Debt)) (w64 (s.Units + b.Units)) (w64 (s.Used + b.Used)) (w64 (s.Rest + b.Rest)) = aCl s b := by
 obtain ⟨a1, a2, a3, a4, a5, a6, a7, a8⟩ := hs
 obtain ⟨b1, b2, b3, b4, b5, b6, b7, b8⟩ := hb
 unfold aCl
 rw [bW (n := s.Gross + b.Gross) (by omega) (by omega), bW (n := s.Tax + b.Tax) (by omega) (by omega), bW (n := s.Daily + b.Daily) (by omega) (by omega), bW (n := s.Fines + b.Fines) (by omega) (by omega), bW (n := s.Debt + b.Debt) (by omega) (by omega), bW (n := s.Units + b.Units) (by omega) (by omega), bW (n := s.Used + b.Used) (by omega) (by omega), bW (n := s.Rest + b.Rest) (by omega) (by omega)]
theorem SumIn.mono {s : aY} {n m : Int} (h : SumIn s n) (hn : n ≤ m) : SumIn s m := by
 obtain ⟨a1, a2, a3, a4, a5, a6, a7, a8⟩ := h
 constructor <;> omega
section
variable {p : aP} (hz : Sz p) {d : List Int} (h : GP p d)
include hz h
theorem bAm : vS p = some (aAu p d, 0) := by
 have hl := aJd p
 unfold vS
 rw [aPq hz, Option.bind_some, aJy h, decide_eq_true rfl, Bool.not_true, cond_false, aEr p hz.teams, Option.bind_some, aNw h]
 unfold aAu
 generalize aAp p = R at hl ⊢
 have main := sF (fun k i s => nI R (R.length : Int) p k i s) R (fun s n => s ++ [zW p d n]) (fun s => some (s, (0 : Int))) [] ?_ ?_ BIG (cE (by omega))
 ·refine Eq.trans main ?_
  rw [aKa]; rfl
 ·intro k i hi s hs
  have hlt : decide ((i : Int) < (R.length : Int)) = true := decide_eq_true (by omega)
  have hsl : s.length ≤ i := by rw [hs, aKa]; simp; omega
  rw [nI, hlt, cond_true, bM hi, Option.bind_some, aYk hz h, Option.bind_some, kS (by simp; omega), Option.bind_some, bH (by omega)]
 ·intro k s
  have hlt : decide ((R.length : Int) < (R.length : Int)) = false := decide_eq_false (by omega)
  rw [nI, hlt, cond_false]; rfl
omit hz in
theorem aSt : ∀ b ∈ aAu p d, SumIn b 1 := fun b hb => by
 obtain ⟨n, _, rfl⟩ := List.mem_map.1 hb
 exact aWh h n
theorem bAq : vT p = some (aQl p d, 0) := by
 have hl : (aAu p d).length ≤ 1000 := by unfold aAu; rw [List.length_map]; exact aJd p
 unfold vT
 rw [bAm hz h, Option.bind_some, decide_eq_true rfl, Bool.not_true, cond_false]
 have hsum := aSt h
 unfold aQl
 generalize aAu p d = B at hl hsum ⊢
 have main := sF (fun k i s => nJ (B) (B.length : Int) (aY.mk 0 0 0 0 0 0 0 0 0) k i s) (B) aCl (fun s => some (s, (0 : Int))) ⟨-1, 0, 0, 0, 0, 0, 0, 0, 0⟩ ?_ ?_ BIG (cE (by omega))
 ·exact main
 ·intro k i hi s hs
  have hlt : decide ((i : Int) < (B.length : Int)) = true := decide_eq_true (by omega)
  have hin : SumIn s 1000 := by
   rw [hs]
   refine (aVx (B.take i) _ 0 (aYa (-1)) fun b hb => hsum b (List.mem_of_mem_take hb)).mono ?_
   rw [List.length_take]; omega
  rw [nJ, hlt, cond_true, bM hi, Option.bind_some, aXq hin (hsum _ (List.getElem_mem hi)), bH (by omega)]
 ·intro k s
  have hlt : decide ((B.length : Int) < (B.length : Int)) = false := decide_eq_false (by omega)
  rw [nJ, hlt, cond_false]; rfl
theorem aIm (person : Int) : pK p person = some (bif lZ p person then (eK p d person, 0) else (⟨0, 0⟩, 1)) := by
 unfold pK
 rw [aPq hz, Option.bind_some, aJy h, decide_eq_true rfl, Bool.not_true, cond_false, aVc hz h, Option.bind_some]
 cases lZ p person <;> rfl
theorem aVb (person : Int) : vI p person = some (bif lZ p person then (zW p d person, 0) else (⟨0, 0, 0, 0, 0, 0, 0, 0, 0⟩, 1)) := by
 unfold vI
 rw [aIm hz h, Option.bind_some]
 cases lZ p person with
 | false => rfl
 | true =>
  rw [cond_true, cond_true, decide_eq_true rfl, Bool.not_true, cond_false, aYk hz h, Option.bind_some]
end
section
variable {p : aP} (hz : Sz p)
include hz
end
end Go.Am
end
section
namespace Go.Am
section
variable {p : aP} (hz : Sz p) {d : List Int} (h : GP p d)
include hz
include h
end
section
variable {p : aP} (hz : Sz p)
include hz
end
end Go.Am
end
section
namespace Go.Am
theorem aBf {α : Type} (g : α → Int) : ∀ (l : List α) (s : Int), l.foldl (fun s x => s + g x) s = s + (l.map g).sum
 | [], s => by simp
 | x :: l, s => by rw [List.foldl_cons, aBf g l, List.map_cons, List.sum_cons, Int.add_assoc]
theorem aIg {α : Type} (g : α → Int) (B : Int) : ∀ (l : List α), (∀ x ∈ l, -B ≤ g x ∧ g x ≤ B) → -(B * l.length) ≤ (l.map g).sum ∧ (l.map g).sum ≤ B * l.length
 | [], _ => by simp
 | x :: l, h => by
  have h1 := aIg g B l fun y hy => h y (List.mem_cons_of_mem _ hy)
  have h2 := h x List.mem_cons_self
  have e : B * (((x :: l).length : Nat) : Int) = B * l.length + B := by rw [List.length_cons, Int.natCast_add, Int.mul_add]; simp
  rw [List.map_cons, List.sum_cons, e]; omega
def vB (p : aP) (i : Nat) : Int := jY p i * 2 ^ (p.Tree.Rounds.toNat - 1 - i)
def aDw (p : aP) (x : Int) : Int := bif decide (x = -1) then -jY p 0 else 0
def aYl (p : aP) : Int := jY p p.Tree.Rounds + ((List.range p.Tree.Rounds.toNat).map (vB p)).sum + (p.Tree.Slots.map (aDw p)).sum
theorem bBg {n : Nat} (h : n ≤ 4) : (1 : Int) ≤ 2 ^ n ∧ (2 : Int) ^ n ≤ 16 := by
 have : n = 0 ∨ n = 1 ∨ n = 2 ∨ n = 3 ∨ n = 4 := by omega
 rcases this with rfl | rfl | rfl | rfl | rfl <;> decide
section
variable {p : aP} (hz : Sz p) {d : List Int} (h : GP p d)
include h
theorem aJh {i : Nat} (hi : i < p.Tree.Rounds.toNat) : 0 ≤ vB p i ∧ vB p i ≤ 160000000 := by
 have h5 := h.good.ht.r5
 have h1 := h.good.ht.r1
 have q := (kO h.prizes (i := (i : Int)) (by omega) (by omega)).2
 have w := bBg (n := p.Tree.Rounds.toNat - 1 - i) (by omega)
 unfold vB
 have m1 := Int.mul_nonneg q.1 (show (0 : Int) ≤ 2 ^ (p.Tree.Rounds.toNat - 1 - i) by omega)
 have m2 : jY p i * 2 ^ (p.Tree.Rounds.toNat - 1 - i) ≤ 10000000 * 16 := Int.mul_le_mul q.2 w.2 (by omega) (by omega)
 omega
theorem aUd (x : Int) : -10000000 ≤ aDw p x ∧ aDw p x ≤ 10000000 := by
 have h1 := h.good.ht.r1
 have q := (kO h.prizes (i := 0) (by omega) (by omega)).2
 unfold aDw
 cases decide (x = -1) <;> simp <;> omega
theorem aJi (i : Nat) : -(160000000 * 5) ≤ (((List.range p.Tree.Rounds.toNat).take i).map (vB p)).sum ∧ (((List.range p.Tree.Rounds.toNat).take i).map (vB p)).sum ≤ 160000000 * 5 := by
 have h5 := h.good.ht.r5
 have := aIg (vB p) 160000000 ((List.range p.Tree.Rounds.toNat).take i) fun x hx => by
  have := List.mem_range.1 (List.mem_of_mem_take hx)
  have := aJh h this
  omega
 have hl : ((List.range p.Tree.Rounds.toNat).take i).length ≤ 5 := by rw [List.length_take, List.length_range]; omega
 omega
theorem aUe (l : List Int) (hl : l.length ≤ 1000) : -(10000000 * 1000) ≤ (l.map (aDw p)).sum ∧ (l.map (aDw p)).sum ≤ 10000000 * 1000 := by
 have := aIg (aDw p) 10000000 l fun x _ => aUd h x
 omega
include hz
theorem bBf : xP p = some (aYl p, 0) := by
 have h5 := h.good.ht.r5
 have h1 := h.good.ht.r1
 have hs := hz.slots
 have qR := kO h.prizes (i := p.Tree.Rounds) (by omega) (by omega)
 have q0 := kO h.prizes (i := 0) (by omega) (by omega)
 unfold xP
 rw [aPq hz, Option.bind_some, aJy h, decide_eq_true rfl, Bool.not_true, cond_false, qR.1, Option.bind_some]
 have main := sF (fun k i s => mP p.Tree.Rounds p k s i) (List.range p.Tree.Rounds.toNat) (fun s i => s + vB p i) (fun s => vX s p) (jY p p.Tree.Rounds) ?_ ?_ BIG (cE (by rw [List.length_range]; omega))
 ·refine Eq.trans main ?_
  rw [aBf]
  unfold vX
  have rt := aJi h p.Tree.Rounds.toNat
  rw [List.take_of_length_le (by rw [List.length_range]; omega)] at rt
  obtain ⟨A, hA⟩ : ∃ A, A = jY p p.Tree.Rounds + ((List.range p.Tree.Rounds.toNat).map (vB p)).sum := ⟨_, rfl⟩
  rw [← hA]
  have main2 := sF (fun k i s => mQ p.Tree.Slots (p.Tree.Slots.length : Int) p k s i) p.Tree.Slots (fun s x => s + aDw p x) (fun s => some (s, (0 : Int))) A ?_ ?_ BIG (cE (by omega))
  ·refine Eq.trans main2 ?_
   rw [aBf, hA]; rfl
  ·intro k i hi s hs'
   have hlt : decide ((i : Int) < (p.Tree.Slots.length : Int)) = true := decide_eq_true (by omega)
   have bt := aUe h (p.Tree.Slots.take i) (by rw [List.length_take]; omega)
   rw [aBf] at hs'
   simp only [mQ, hlt, cond_true, bM hi, Option.bind_some, bH (show i < 9223372036854775807 by omega)]
   unfold aDw
   cases decide (p.Tree.Slots[i] = -1) with
   | true => rw [cond_true, cond_true, q0.1, Option.bind_some, bW (by omega) (by omega)]; rfl
   | false => rw [cond_false, cond_false, Int.add_zero]
  ·intro k s
   have hlt : decide ((p.Tree.Slots.length : Int) < (p.Tree.Slots.length : Int)) = false := decide_eq_false (by omega)
   simp only [mQ, hlt, cond_false]; rfl
 ·intro k i hi s hs'
  have hi' : i < p.Tree.Rounds.toNat := by simpa using hi
  have hlt : decide ((i : Int) < p.Tree.Rounds) = true := decide_eq_true (by omega)
  have rt := aJi h i
  have rr := aJh h hi'
  rw [aBf] at hs'
  have qi := kO h.prizes (i := (i : Int)) (by omega) (by omega)
  have e1 : w64 ((w64 (p.Tree.Rounds - 1)) - (i : Int)) = ((p.Tree.Rounds.toNat - 1 - i : Nat) : Int) := by rw [bW (show -9223372036854775808 ≤ p.Tree.Rounds - 1 by omega) (by omega), bW (by omega) (by omega)]; omega
  have e2 : min (((p.Tree.Rounds.toNat - 1 - i : Nat) : Int)).toNat 64 = p.Tree.Rounds.toNat - 1 - i := by omega
  simp only [mP, hlt, cond_true, qi.1, Option.bind_some, e1, e2, bH (show i < 9223372036854775807 by omega)]
  rw [decide_eq_true (by omega)]
  show mP p.Tree.Rounds p k (w64 (s + w64 (vB p i))) _ = _
  rw [bW (n := vB p i) (by omega) (by omega), bW (by omega) (by omega), List.getElem_range]
 ·intro k s
  have hlt : decide ((((List.range p.Tree.Rounds.toNat).length : Nat) : Int) < p.Tree.Rounds) = false := decide_eq_false (by rw [List.length_range]; omega)
  simp only [mP, hlt, cond_false]
end
section
variable {p : aP} (hz : Sz p)
include hz
end
end Go.Am
end
section
namespace Go.Am
def aEa : aP := (nS).getD ⟨⟨0, []⟩, [], [], 0, [], [], [], []⟩
theorem aYv : nS = some aEa := rfl
theorem aYx : vQ aEa = 0 := by kernel_rfl
theorem aUn : (eN aEa.Tree aEa.Slips).map (fun r => r.1.Slots) = some [1, 2, 3, 4] := by kernel_rfl
theorem aUo : aYl aEa = 1501 := by kernel_rfl
theorem aYw : lZ aEa 22 = true := by kernel_rfl
theorem aUm : zW aEa [1, 2, 3, 4] 22 = ⟨22, 50, 0, 0, 0, 0, 16, 48, 2⟩ := by kernel_rfl
theorem aSz : (aQl aEa [1, 2, 3, 4]).Debt = 60 := by kernel_rfl
theorem aMi : Sz aEa := ⟨by decide, by decide, by decide, by decide, by decide, by decide, by decide⟩
theorem sE : eM = some true := by
 obtain ⟨d, hg⟩ := aYh aYx
 have hd : d = [1, 2, 3, 4] := by
  have h1 := aUn
  rw [(aHc hg.good).1] at h1
  exact Option.some.inj h1
 subst hd
 unfold eM
 rw [aYv, Option.bind_some, bBf aMi hg, Option.bind_some, aVb aMi hg, Option.bind_some, bAq aMi hg, Option.bind_some, aYw, cond_true]
 simp only [aUo, aUm, aSz]
 rfl
end Go.Am
end
