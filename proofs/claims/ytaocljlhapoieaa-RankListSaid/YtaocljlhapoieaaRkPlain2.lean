/- The library's stable sort: exchanges, rotations. -/
import Derived.Test.YtaocljlhapoieaaRkPlain1
namespace Go.Am

section lists
variable {α : Type}
theorem aDq {A : List α} {u : α} {B : List α} {v : α} {C : List α} {p : Int} (h : p = ((A.length + 1 + B.length : Nat) : Int)) : idx (A ++ u :: (B ++ v :: C)) p = some v := by
  have : A ++ u :: (B ++ v :: C) = (A ++ u :: B) ++ v :: C := by simp
  rw [this, kO (by rw [h]; simp; omega)]
theorem aHx {A : List α} {u : α} {B : List α} {v w : α} {C : List α} {p : Nat} (h : p = A.length + 1 + B.length) : (A ++ u :: (B ++ v :: C)).set p w = A ++ u :: (B ++ w :: C) := by
  have : A ++ u :: (B ++ v :: C) = (A ++ u :: B) ++ v :: C := by simp
  rw [this, sB (by rw [h]; simp; omega)]; simp
theorem rV {i j : Nat} (h : i + j < 4611686018427387904) : w64 ((IntKind.u64.wrap (w64 ((i : Int) + (j : Int)))).fdiv (2 ^ (min (1 : Int).toNat 64))) = (((i + j) / 2 : Nat) : Int) := by
  have e1 : w64 ((i : Int) + (j : Int)) = ((i + j : Nat) : Int) := by rw [cW (by omega) (by omega)]; omega
  have e2 : IntKind.u64.wrap ((i + j : Nat) : Int) = ((i + j : Nat) : Int) := by
    simp only [IntKind.wrap, IntKind.signed, IntKind.bits]
    simp
    omega
  have e3 : (2 : Int) ^ (min (1 : Int).toNat 64) = 2 := by decide
  rw [e1, e2, e3, Int.fdiv_eq_ediv_of_nonneg _ (by omega), cW (by omega) (by omega)]
  omega
/-- A search by halves. -/
theorem aAh {T : Type} (F : Nat → Int → Int → T) (K : Int → T) (good : Nat → Prop) (lo hi : Nat) (hstep : ∀ k (i j : Nat), lo ≤ i → i < j → j ≤ hi → (good ((i + j) / 2) ∧ F (k + 1) i j = F k (((i + j) / 2 + 1 : Nat) : Int) j) ∨ (¬ good ((i + j) / 2) ∧ F (k + 1) i j = F k i (((i + j) / 2 : Nat) : Int)))
    (hstop : ∀ k (i : Nat), F (k + 1) i i = K i) (mono : ∀ x y, lo ≤ x → x ≤ y → y < hi → good y → good x) (hlh : lo ≤ hi) {k : Nat} (hk : hi - lo < k) :
    ∃ r : Nat, lo ≤ r ∧ r ≤ hi ∧ F k lo hi = K r ∧ (∀ x, lo ≤ x → x < r → good x) ∧ (∀ x, r ≤ x → x < hi → ¬ good x) := by
  have main : ∀ (d : Nat) (i j : Nat) (k : Nat), j - i = d → d < k → lo ≤ i → i ≤ j → j ≤ hi → (∀ x, lo ≤ x → x < i → good x) → (∀ x, j ≤ x → x < hi → ¬ good x) →
      ∃ r : Nat, lo ≤ r ∧ r ≤ hi ∧ F k i j = K r ∧ (∀ x, lo ≤ x → x < r → good x) ∧ (∀ x, r ≤ x → x < hi → ¬ good x) := by
    intro d
    induction d using Nat.strongRecOn with
    | _ d ih =>
      intro i j k hd hk h1 h2 h3 h4 h5
      obtain ⟨k, rfl⟩ : ∃ q, k = q + 1 := ⟨k - 1, by omega⟩
      rcases Nat.eq_or_lt_of_le h2 with rfl | hlt
      · exact ⟨i, h1, h3, hstop k i, h4, h5⟩
      · rcases hstep k i j h1 hlt h3 with ⟨hg, he⟩ | ⟨hg, he⟩
        · rw [he]
          refine ih (j - ((i + j) / 2 + 1)) (by omega) _ j k rfl (by omega) (by omega) (by omega) h3 (fun x hx hxr => ?_) h5
          exact mono x ((i + j) / 2) hx (by omega) (by omega) hg
        · rw [he]
          refine ih ((i + j) / 2 - i) (by omega) i _ k rfl (by omega) h1 (by omega) (by omega) h4 fun x hx hxr hgx => ?_
          exact hg (mono _ x (by omega) hx hxr hgx)
  exact main _ lo hi k rfl hk (Nat.le_refl _) hlh (Nat.le_refl _) (fun x h1 h2 => by omega) (fun x h1 h2 => by omega)
end lists

section rotate
variable {cmp : aC → aC → Option Int}
theorem sC (P U Q V S : List aC) (hl : U.length = V.length) (hb : (P ++ U ++ Q ++ V ++ S).length < 4611686018427387904) :
    dT (P ++ U ++ Q ++ V ++ S) (P.length : Nat) ((P ++ U ++ Q).length : Nat) (U.length : Nat) cmp = some (P ++ V ++ Q ++ U ++ S) := by
  have main : ∀ (n : Nat) (U1 U2 V1 V2 : List aC) (k : Nat), U2.length = n → V2.length = n → U1.length = V1.length → n < k → (P ++ U1 ++ U2 ++ Q ++ V1 ++ V2).length < 4611686018427387904 →
      dJ (P.length : Nat) ((P.length + (U1.length + U2.length) + Q.length : Nat) : Int) ((U1.length + U2.length : Nat) : Int) k (U1.length : Nat) (P ++ V1 ++ U2 ++ Q ++ U1 ++ V2 ++ S) = some (P ++ (V1 ++ V2) ++ Q ++ (U1 ++ U2) ++ S) := by
    intro n
    induction n with
    | zero =>
      intro U1 U2 V1 V2 k h1 h2 h3 hk hb
      have : U2 = [] := List.length_eq_zero_iff.1 h1
      subst this
      have : V2 = [] := List.length_eq_zero_iff.1 h2
      subst this
      obtain ⟨k, rfl⟩ : ∃ q, k = q + 1 := ⟨k - 1, by omega⟩
      simp [dJ, hJ]
    | succ n ih =>
      intro U1 U2 V1 V2 k h1 h2 h3 hk hb
      obtain ⟨k, rfl⟩ : ∃ q, k = q + 1 := ⟨k - 1, by omega⟩
      match U2, h1, V2, h2 with
      | u :: U2, h1, v :: V2, h2 =>
        simp only [List.length_cons] at h1 h2
        simp only [List.length_append, List.length_cons] at hb
        have hlt : decide ((U1.length : Int) < ((U1.length + (u :: U2).length : Nat) : Int)) = true := decide_eq_true (by simp only [List.length_cons]; omega)
        have ea : w64 ((P.length : Int) + (U1.length : Int)) = (((P ++ V1).length : Nat) : Int) := by rw [cW (by omega) (by omega)]; simp only [List.length_append]; omega
        have eb : w64 (((P.length + (U1.length + (u :: U2).length) + Q.length : Nat) : Int) + (U1.length : Int)) = (((P ++ V1).length + 1 + (U2 ++ Q ++ U1).length : Nat) : Int) := by
          rw [cW (by omega) (by simp only [List.length_cons]; omega)]; simp only [List.length_append, List.length_cons]; omega
        have ed : P ++ V1 ++ u :: U2 ++ Q ++ U1 ++ v :: V2 ++ S = (P ++ V1) ++ u :: ((U2 ++ Q ++ U1) ++ v :: (V2 ++ S)) := by simp
        rw [ed]
        simp only [dJ, hlt, cond_true, ea, eb, aDq rfl, kO rfl, Option.bind_some]
        have t1 : (((P ++ V1).length : Nat) : Int).toNat = (P ++ V1).length := rfl
        have t2 : (((P ++ V1).length + 1 + (U2 ++ Q ++ U1).length : Nat) : Int).toNat = (P ++ V1).length + 1 + (U2 ++ Q ++ U1).length := rfl
        rw [t1, t2, sB rfl, aDq rfl, Option.bind_some, aHx rfl, cP (by omega)]
        have := ih (U1 ++ [u]) U2 (V1 ++ [v]) V2 k (by omega) (by omega) (by simp [h3]) (by omega) (by simp only [List.length_append, List.length_cons, List.length_nil]; omega)
        have e1 : (U1 ++ [u]).length + U2.length = U1.length + (u :: U2).length := by simp; omega
        have e2 : (U1 ++ [u]).length = U1.length + 1 := by simp
        rw [e1, e2] at this
        have e3 : P ++ (V1 ++ [v]) ++ U2 ++ Q ++ (U1 ++ [u]) ++ V2 ++ S = (P ++ V1) ++ v :: ((U2 ++ Q ++ U1) ++ u :: (V2 ++ S)) := by simp
        rw [e3] at this
        rw [this]
        simp
  unfold dT
  simp only [List.length_append] at hb
  have := main U.length [] U [] V BIG rfl hl.symm rfl (dD (by omega)) (by simp only [List.length_append, List.length_nil]; omega)
  simp only [List.append_nil, List.nil_append, List.length_nil, Nat.zero_add] at this
  simp only [List.length_append]
  exact this

theorem aDd (P U V S : List aC) (hu : U ≠ []) (hv : V ≠ []) (hb : (P ++ U ++ V ++ S).length < 4611686018427387904) :
    eP (P ++ U ++ V ++ S) (P.length : Nat) ((P ++ U).length : Nat) ((P ++ U ++ V).length : Nat) cmp = some (P ++ V ++ U ++ S) := by
  have main : ∀ (d : Nat) (P U V S : List aC) (k : Nat), U.length + V.length = d → d < k → 0 < U.length → 0 < V.length → (P ++ U ++ V ++ S).length < 4611686018427387904 →
      cY ((P.length + U.length : Nat) : Int) cmp k (U.length : Nat) (V.length : Nat) (P ++ U ++ V ++ S) = some (P ++ V ++ U ++ S) := by
    intro d
    induction d using Nat.strongRecOn with
    | _ d ih =>
      intro P U V S k hd hk hu hv hb
      obtain ⟨k, rfl⟩ : ∃ q, k = q + 1 := ⟨k - 1, by omega⟩
      simp only [List.length_append] at hb
      have em : w64 (((P.length + U.length : Nat) : Int) - (U.length : Int)) = (P.length : Int) := by rw [cW (by omega) (by omega)]; omega
      by_cases h1 : U.length = V.length
      · have hd : (!decide ((U.length : Int) = (V.length : Int))) = false := by rw [decide_eq_true (by omega)]; rfl
        simp only [cY, hd, cond_false, iT, em]
        have := sC (cmp := cmp) P U [] V S h1 (by simp only [List.length_append, List.length_nil]; omega)
        simp only [List.append_nil, List.length_append] at this
        rw [this]; rfl
      · have hd' : (!decide ((U.length : Int) = (V.length : Int))) = true := by rw [decide_eq_false (by omega)]; rfl
        by_cases h2 : V.length < U.length
        · obtain ⟨U1, U2, rfl, hl1⟩ : ∃ U1 U2, U = U1 ++ U2 ∧ U1.length = V.length := ⟨U.take V.length, U.drop V.length, by simp, by simp; omega⟩
          simp only [List.length_append] at h1 h2 hd hu hb em hd'
          have hlt : decide ((V.length : Int) < ((U1.length + U2.length : Nat) : Int)) = true := decide_eq_true (by omega)
          simp only [cY, List.length_append, hd', cond_true, hlt, em]
          have sw := sC (cmp := cmp) P U1 U2 V S hl1 (by simp only [List.length_append]; omega)
          simp only [List.length_append] at sw
          have e1 : P ++ (U1 ++ U2) ++ V ++ S = P ++ U1 ++ U2 ++ V ++ S := by simp
          rw [e1, show P.length + (U1.length + U2.length) = P.length + U1.length + U2.length by omega, ← hl1, sw, Option.bind_some]
          have hw : w64 (((U1.length + U2.length : Nat) : Int) - (U1.length : Int)) = (U2.length : Int) := by rw [cW (by omega) (by omega)]; omega
          rw [hw]
          have := ih (U2.length + U1.length) (by omega) (P ++ V) U2 U1 S k rfl (by omega) (by omega) (by omega) (by simp only [List.length_append]; omega)
          simp only [List.length_append] at this
          rw [show P.length + V.length + U2.length = P.length + U1.length + U2.length by omega] at this
          rw [this]; simp
        · obtain ⟨V1, V2, rfl, hl2⟩ : ∃ V1 V2, V = V1 ++ V2 ∧ V2.length = U.length := ⟨V.take (V.length - U.length), V.drop (V.length - U.length), by simp, by simp; omega⟩
          simp only [List.length_append] at h1 h2 hd hv hb hd'
          have hlt : decide (((V1.length + V2.length : Nat) : Int) < (U.length : Int)) = false := decide_eq_false (by omega)
          have hw1 : w64 (((P.length + U.length : Nat) : Int) + ((V1.length + V2.length : Nat) : Int)) = ((P.length + U.length + (V1.length + V2.length) : Nat) : Int) := by rw [cW (by omega) (by omega)]; omega
          have hw2 : w64 (((P.length + U.length + (V1.length + V2.length) : Nat) : Int) - (U.length : Int)) = ((P.length + U.length + V1.length : Nat) : Int) := by rw [cW (by omega) (by omega)]; omega
          have hw3 : w64 (((V1.length + V2.length : Nat) : Int) - (U.length : Int)) = (V1.length : Int) := by rw [cW (by omega) (by omega)]; omega
          simp only [cY, List.length_append, hd', cond_true, hlt, cond_false, em, hw1, hw2, hw3]
          have sw := sC (cmp := cmp) P U V1 V2 S hl2.symm (by simp only [List.length_append]; omega)
          simp only [List.length_append] at sw
          have e1 : P ++ U ++ (V1 ++ V2) ++ S = P ++ U ++ V1 ++ V2 ++ S := by simp
          rw [e1, sw, Option.bind_some]
          have := ih (V2.length + V1.length) (by omega) P V2 V1 (U ++ S) k rfl (by omega) (by omega) (by omega) (by simp only [List.length_append]; omega)
          rw [hl2] at this
          have e2 : P ++ V2 ++ V1 ++ U ++ S = P ++ V2 ++ V1 ++ (U ++ S) := by simp
          rw [e2, this]; simp
  have hu' : 0 < U.length := List.length_pos_iff.2 hu
  have hv' : 0 < V.length := List.length_pos_iff.2 hv
  unfold eP
  simp only [List.length_append] at hb ⊢
  have e1 : w64 (((P.length + U.length : Nat) : Int) - (P.length : Int)) = (U.length : Int) := by rw [cW (by omega) (by omega)]; omega
  have e2 : w64 (((P.length + U.length + V.length : Nat) : Int) - ((P.length + U.length : Nat) : Int)) = (V.length : Int) := by rw [cW (by omega) (by omega)]; omega
  rw [e1, e2]
  exact main _ P U V S BIG rfl (dD (by omega)) hu' hv' (by simp only [List.length_append]; omega)
end rotate
end Go.Am
