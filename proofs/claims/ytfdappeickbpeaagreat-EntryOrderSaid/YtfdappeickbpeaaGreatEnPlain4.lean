/- Entry, plainly: the library's small functions. -/
import Derived.Test.YtfdappeickbpeaaGreatEnPlain3
namespace Go.Am

def gX {α : Type} (p : α → Bool) (l : List α) : Int := if l.findIdx p < l.length then (l.findIdx p : Int) else -1
theorem aAm {α : Type} (F : Nat → Int → Option Int) (l : List α) (p : α → Bool) (h1 : ∀ k i (hi : i < l.length), F (k + 1) (i : Nat) = bif p l[i] then some (i : Int) else F k ((i + 1 : Nat) : Int)) (h2 : ∀ k, F (k + 1) (l.length : Nat) = some (-1)) :
    ∀ k, l.length < k → F k 0 = some (gX p l) := by
  have main : ∀ d i k, l.length - i = d → d < k → i ≤ l.length → (∀ j (hj : j < l.length), j < i → p l[j] = false) → F k (i : Nat) = some (gX p l) := by
    intro d
    induction d with
    | zero =>
      intro i k hd hk hi hno
      obtain ⟨k, rfl⟩ : ∃ q, k = q + 1 := ⟨k - 1, by omega⟩
      have : i = l.length := by omega
      subst this
      have he : ¬ l.findIdx p < l.length := fun h => by
        have := hno _ h h
        rw [List.findIdx_getElem (w := h)] at this
        cases this
      rw [h2, gX, if_neg he]
    | succ d ih =>
      intro i k hd hk hi hno
      obtain ⟨k, rfl⟩ : ∃ q, k = q + 1 := ⟨k - 1, by omega⟩
      have hil : i < l.length := by omega
      rw [h1 k i hil]
      cases hp : p l[i] with
      | true =>
        have he : l.findIdx p = i := by
          rw [List.findIdx_eq hil]
          exact ⟨hp, fun j hj => hno j (by omega) hj⟩
        rw [cond_true, gX, he, if_pos hil]
      | false =>
        rw [cond_false]
        exact ih (i + 1) k (by omega) (by omega) (by omega) fun j hj hji => by
          rcases Nat.lt_or_eq_of_le (Nat.le_of_lt_succ hji) with h | h
          · exact hno j hj h
          · subst h; exact hp
  intro k hk
  exact main _ 0 k rfl (by omega) (Nat.zero_le _) fun j _ h => by omega

section del
theorem aCi (l : List Int) (f : Int → Option Bool) (p : Int → Bool) (h : ∀ x ∈ l, f x = some (p x)) (hb : l.length ≤ 1000000) : fK l f = some (gX p l) := by
  unfold fK
  refine aAm (fun k i => eG l f (l.length : Int) k i) l p (fun k i hi => ?_) (fun k => ?_) BIG (gG (by omega))
  · have hlt : decide ((i : Int) < (l.length : Int)) = true := decide_eq_true (by omega)
    simp only [eG, hlt, cond_true, eP hi, Option.bind_some, h _ (List.getElem_mem hi), dV (show i < 9223372036854775807 by omega)]
  · have hlt : decide ((l.length : Int) < (l.length : Int)) = false := decide_eq_false (by omega)
    simp only [eG, hlt, cond_false, kW]
theorem aDs (f : Int → Option Bool) (p : Int → Bool) : ∀ (t W X : List Int) (k : Nat), (∀ x ∈ t, f x = some (p x)) → 0 < X.length → (W ++ X ++ t).length ≤ 1000000 → t.length < k →
    dL f k (W.length : Nat) ((W.length + X.length : Nat) : Int) (W ++ X ++ t) = some (W ++ t.filter fun x => !p x) := by
  intro t
  induction t with
  | nil =>
    intro W X k hf hX hb hk
    obtain ⟨k, rfl⟩ : ∃ q, k = q + 1 := ⟨k - 1, by omega⟩
    simp only [List.length_append, List.length_nil] at hb
    have hlt : decide (((W.length + X.length : Nat) : Int) < ((W ++ X ++ []).length : Int)) = false := decide_eq_false (by simp)
    have t1 : ((W.length : Nat) : Int).toNat = W.length := rfl
    have c1 : (decide ((0 : Int) ≤ (W.length : Int)) && decide ((W.length : Int) ≤ ((W ++ X ++ []).length : Int))) = true := by simp; omega
    have c2 : decide (W.length ≤ (W ++ X ++ []).length) = true := by simp
    have c3 : decide ((0 : Int) ≤ (W.length : Int)) = true := by simp
    simp only [dL, hlt, cond_false, kQ]
    rw [c1, t1, c2, c3]
    simp [chk]
  | cons y t ih =>
    intro W X k hf hX hb hk
    obtain ⟨k, rfl⟩ : ∃ q, k = q + 1 := ⟨k - 1, by omega⟩
    simp only [List.length_append, List.length_cons] at hb hk
    have hlt : decide (((W.length + X.length : Nat) : Int) < ((W ++ X ++ y :: t).length : Int)) = true := decide_eq_true (by simp; omega)
    have i1 : idx (W ++ X ++ y :: t) ((W.length + X.length : Nat) : Int) = some y := qA (by simp)
    have hf1 := hf y (by simp)
    have hf2 : ∀ x ∈ t, f x = some (p x) := fun x hx => hf x (List.mem_cons_of_mem _ hx)
    have t1 : ((W.length : Nat) : Int).toNat = W.length := rfl
    simp only [dL, hlt, cond_true, i1, hf1, Option.bind_some, dV (show W.length + X.length < 9223372036854775807 by omega)]
    cases hp : p y with
    | true =>
      simp only [Bool.not_true, cond_false]
      have := ih W (X ++ [y]) k hf2 (by simp) (by simp; omega) (by omega)
      have e1 : W ++ (X ++ [y]) ++ t = W ++ X ++ y :: t := by simp
      have e2 : W.length + (X ++ [y]).length = W.length + X.length + 1 := by simp; omega
      rw [e1, e2] at this
      rw [this]; simp [hp]
    | false =>
      simp only [Bool.not_false, cond_true]
      match X, hX with
      | x :: X, _ =>
        have i2 : idx (W ++ (x :: X) ++ y :: t) (W.length : Nat) = some x := by
          have : W ++ (x :: X) ++ y :: t = W ++ x :: (X ++ y :: t) := by simp
          rw [this]; exact qA rfl
        have e3 : (W ++ (x :: X) ++ y :: t).set W.length y = (W ++ [y]) ++ (X ++ [y]) ++ t := by
          have : W ++ (x :: X) ++ y :: t = W ++ x :: (X ++ y :: t) := by simp
          rw [this, aJj rfl]; simp
        rw [i2, Option.bind_some, t1, e3, dV (by omega)]
        have := ih (W ++ [y]) (X ++ [y]) k hf2 (by simp) (by simp at hb ⊢; omega) (by omega)
        have e4 : (W ++ [y]).length = W.length + 1 := by simp
        have e5 : (W ++ [y]).length + (X ++ [y]).length = W.length + (x :: X).length + 1 := by simp; omega
        rw [e5, e4] at this
        rw [this]; simp [hp]
theorem yC (s : List Int) (f : Int → Option Bool) (p : Int → Bool) (h : ∀ x ∈ s, f x = some (p x)) (hb : s.length ≤ 1000000) : bY s f = some (s.filter fun x => !p x) := by
  unfold bY
  rw [aCi s f p h hb, Option.bind_some]
  unfold gX
  by_cases hl : s.findIdx p < s.length
  · rw [if_pos hl, decide_eq_false (by omega), cond_false]
    obtain ⟨i, hi⟩ : ∃ i, i = s.findIdx p := ⟨_, rfl⟩
    rw [← hi] at hl ⊢
    have hno : ∀ x ∈ s.take i, (!p x) = true := fun x hx => by
      obtain ⟨j, hj, rfl⟩ := List.getElem_of_mem hx
      simp only [List.length_take] at hj
      rw [List.getElem_take]
      have := List.not_of_lt_findIdx (p := p) (xs := s) (i := j) (by omega)
      simpa using this
    have hyes : p s[i] = true := by
      have := List.findIdx_getElem (p := p) (xs := s) (w := hi ▸ hl)
      simpa [← hi] using this
    have es : s = s.take i ++ [s[i]] ++ s.drop (i + 1) := by
      rw [List.append_assoc, List.singleton_append, ← List.drop_eq_getElem_cons hl, List.take_append_drop]
    have hloop := aDs f p (s.drop (i + 1)) (s.take i) [s[i]] BIG (fun x hx => h x (List.mem_of_mem_drop hx)) (by simp) (by rw [← es]; omega) (gG (by simp; omega))
    have e1 : (s.take i).length = i := by simp; omega
    rw [e1, ← es] at hloop
    rw [dV (by omega)]
    have e2 : i + [s[i]].length = i + 1 := rfl
    rw [e2] at hloop
    rw [hloop]
    congr 1
    conv => rhs; rw [es]
    rw [List.filter_append, List.filter_append, List.filter_eq_self.2 hno]
    simp [hyes]
  · rw [if_neg hl, decide_eq_true rfl, cond_true]
    congr 1
    symm
    refine List.filter_eq_self.2 fun x hx => ?_
    cases hp : p x with
    | false => rfl
    | true => exact absurd (List.findIdx_lt_length_of_exists ⟨x, hx, hp⟩) hl
end del

theorem aBq (l : List Int) (hl : l.length ≤ 9223372036854775807) (v : Int) : fZ l v = some (match l.findIdx? (fun x => decide (v = x)) with | some i => (i : Int) | none => -1) := by
  unfold fZ
  rw [oT (S := Unit) (fun k i _ => dP l v l.length k i) l.length (fun i _ => some (match (l.drop i).findIdx? (fun x => decide (v = x)) with | some j => ((i + j : Nat) : Int) | none => -1)) (fun _ _ => True) ?_ ?_ BIG () (gG hl) trivial]
  · simp
  · intro k i _ hi _ ih
    have := ih () trivial
    simp only [dP, eP hi, Option.bind_some, dV (show i < 9223372036854775807 by omega), Int.ofNat_lt, hi, decide_true, cond_true, this]
    rw [List.drop_eq_getElem_cons hi, List.findIdx?_cons]
    by_cases h : v = l[i]
    · simp [h]
    · simp only [h, decide_false, cond_false, Bool.false_eq_true, if_false]
      cases List.findIdx? (fun x => decide (v = x)) (List.drop (i + 1) l) with
      | none => rfl
      | some j => simp; omega
  · intro k _ _
    simp [dP, kU]
theorem sY (l : List Int) (hl : l.length ≤ 9223372036854775807) (v : Int) : gQ l v = some (decide (v ∈ l)) := by
  unfold gQ
  rw [aBq l hl v]
  cases h : List.findIdx? (fun x => decide (v = x)) l with
  | none =>
    simp at h
    have : v ∉ l := fun hm => h v hm rfl
    simp [this]
  | some j =>
    have : v ∈ l := by
      obtain ⟨h1, h2, _⟩ := List.findIdx?_eq_some_iff_getElem.1 h
      simp at h2
      rw [h2]; exact List.getElem_mem h1
    simp [this]


theorem aCy (out : List Int) (p : Int) (hb : out.length ≤ 1000000) : fZ out p = some (gX (fun x => decide (p = x)) out) := by
  unfold fZ
  refine aAm (fun k i => dP out p (out.length : Int) k i) out (fun x => decide (p = x)) (fun k i hi => ?_) (fun k => ?_) BIG (gG (by omega))
  · have hlt : decide ((i : Int) < (out.length : Int)) = true := decide_eq_true (by omega)
    simp only [dP, hlt, cond_true, eP hi, Option.bind_some, dV (show i < 9223372036854775807 by omega)]
  · have hlt : decide ((out.length : Int) < (out.length : Int)) = false := decide_eq_false (by omega)
    simp only [dP, hlt, cond_false, kU]
theorem aFu (a b : List Int) (ha : a.length ≤ 100000) (hb : b.length ≤ 100000) : jU [a, b] = some (a ++ b) := by
  have e1 : ∀ k s, eN [a, b] 2 (k + 3) 0 s = (app 8 s a).bind fun x => (app 8 x b).bind fun y => some y := by
    intro k s
    have w1 : w64 (0 + 1) = 1 := rfl
    have w2 : w64 (1 + 1) = 2 := rfl
    have i0 : idx [a, b] 0 = some a := rfl
    have i1 : idx [a, b] 1 = some b := rfl
    have c0 : decide ((0 : Int) < 2) = true := rfl
    have c1 : decide ((1 : Int) < 2) = true := rfl
    have c2 : decide ((2 : Int) < 2) = false := rfl
    rw [eN, c0, cond_true, i0, Option.bind_some, w1]
    refine congrArg _ (funext fun x => ?_)
    rw [eN, c1, cond_true, i1, Option.bind_some, w2]
    refine congrArg _ (funext fun y => ?_)
    rw [eN, c2, cond_false]; rfl
  have hB : BIG = (18446744073709551616 - 3) + 3 := rfl
  have hL : (([a, b] : List (List Int)).length : Int) = 2 := rfl
  have g1 : w64 (0 + (a.length : Int)) = a.length := by rw [gV (by omega) (by omega)]; omega
  have g2 : w64 ((a.length : Int) + (b.length : Int)) = ((a.length + b.length : Nat) : Int) := by rw [gV (by omega) (by omega)]; omega
  have hgrow : lE ((a.length + b.length : Nat) : Int) = some [] := by
    unfold lE
    have w0 : w64 (0 - 0) = 0 := rfl
    rw [decide_eq_false (by omega), cond_false, w0, Int.sub_zero, gV (by omega) (by omega)]
    by_cases h0 : (0 : Int) < ((a.length + b.length : Nat) : Int)
    · have c1 : decide (((a.length + b.length : Nat) : Int) * ((8 : Nat) : Int) ≤ 140737488355328) = true := decide_eq_true (by omega)
      rw [decide_eq_true h0, cond_true, c1]; rfl
    · rw [decide_eq_false h0, cond_false]
  unfold jU
  rw [hB, hL]
  have w1 : w64 (0 + 1) = 1 := rfl
  have w2 : w64 (1 + 1) = 2 := rfl
  have i0 : idx [a, b] 0 = some a := rfl
  have i1 : idx [a, b] 1 = some b := rfl
  have c0 : decide ((0 : Int) < 2) = true := rfl
  have c1 : decide ((1 : Int) < 2) = true := rfl
  have c2 : decide ((2 : Int) < 2) = false := rfl
  rw [fJ, c0, cond_true, i0, Option.bind_some, g1, decide_eq_false (by omega), cond_false, w1, fJ, c1, cond_true, i1, Option.bind_some, g2, decide_eq_false (by omega), cond_false, w2, fJ, c2, cond_false]
  unfold mC
  rw [hgrow, Option.bind_some, hB, hL, e1, nD (by simp; omega), Option.bind_some, List.nil_append, nD (by omega), Option.bind_some]

end Go.Am
