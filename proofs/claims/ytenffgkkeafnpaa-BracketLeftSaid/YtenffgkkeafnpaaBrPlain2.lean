/- Layer 7, plain: valid trees and slips, for the program and the reference alike. -/
import Derived.Test.YtenffgkkeafnpaaBrPlain1
namespace Go.Am

/-- What is asked of the slots. -/
structure tA (S : List Int) : Prop where
  rng : ∀ i (h : i < S.length), -1 ≤ S[i] ∧ S[i] ≤ 999
  bye : ∀ j (h : 2 * j + 1 < S.length), S[2 * j] = -1 → S[2 * j + 1] ≠ -1
  dup : ∀ i (h : i < S.length) k (hk : k < i), S[k] = S[i] → S[i] = -1

theorem aDd {S : List Int} (hev : S.length % 2 = 0) : (List.range S.length).all (vO S) = true ↔ tA S := by
  rw [pW]
  constructor
  · intro h
    have hd : ∀ i (hi : i < S.length), (if S[i] = -1 then !decide (S.getD (if i % 2 = 0 then i + 1 else i - 1) 0 = -1) else !decide (S[i] ∈ S.take i) && wi S[i] 0 999) = true := by
      intro i hi
      have := h i hi
      simpa only [vO, bP hi] using this
    refine ⟨fun i hi => ?_, fun j hj hb => ?_, fun i hi k hk he => ?_⟩
    · have := hd i hi
      split at this
      · rename_i hb; omega
      · rw [Bool.and_eq_true, iV] at this; omega
    · have := hd (2 * j) (by omega)
      rw [if_pos hb, if_pos (by omega), bP hj] at this
      simpa using this
    · have := hd i hi
      by_cases hb : S[i] = -1
      · exact hb
      · rw [if_neg hb, Bool.and_eq_true] at this
        have hm : S[i] ∈ S.take i := by
          rw [← he, List.mem_take_iff_getElem]
          exact ⟨k, by omega, rfl⟩
        simp [hm] at this
  · intro h i hi
    simp only [vO, bP hi]
    by_cases hb : S[i] = -1
    · rw [if_pos hb]
      by_cases he : i % 2 = 0
      · rw [if_pos he]
        obtain ⟨j, rfl⟩ : ∃ j, i = 2 * j := ⟨i / 2, by omega⟩
        rw [bP (by omega)]
        have := h.bye j (by omega) hb
        simpa using this
      · rw [if_neg he]
        obtain ⟨j, rfl⟩ : ∃ j, i = 2 * j + 1 := ⟨i / 2, by omega⟩
        have e : 2 * j + 1 - 1 = 2 * j := by omega
        rw [e, bP (by omega)]
        have := h.bye j hi
        simp only [Bool.not_eq_true', decide_eq_false_iff_not]
        intro hc
        exact this hc hb
    · rw [if_neg hb, Bool.and_eq_true, iV]
      refine ⟨?_, ?_⟩
      · simp only [Bool.not_eq_true', decide_eq_false_iff_not]
        intro hm
        rw [List.mem_take_iff_getElem] at hm
        obtain ⟨k, hk, he⟩ := hm
        exact hb (h.dup i hi k (by omega) he)
      · have := h.rng i hi; omega
theorem aJm {S : List Int} (hev : S.length % 2 = 0) : (List.range S.length).all (vP S) = true ↔ tA S := by
  rw [pW]
  constructor
  · intro h
    have hd : ∀ i (hi : i < S.length), (wi S[i] (-1) 999 = true ∧ ¬ (i % 2 = 1 ∧ S[i] = -1 ∧ S.getD (i - 1) 0 = -1)) ∧ ∀ k, k < i → ¬ (S.getD k 0 = S[i] ∧ S[i] ≠ -1) := by
      intro i hi
      have := h i hi
      simp only [vP, bP hi, Bool.and_eq_true, pW, Bool.not_eq_true', Bool.and_eq_false_iff, decide_eq_false_iff_not, Bool.not_eq_false', decide_eq_true_eq] at this
      refine ⟨⟨this.1.1, fun ⟨a, b, c⟩ => ?_⟩, fun k hk ⟨a, b⟩ => ?_⟩
      · rcases this.1.2 with (h1 | h1) | h1
        · exact h1 a
        · exact h1 b
        · exact h1 c
      · rcases this.2 k hk with h1 | h1
        · exact h1 a
        · exact b h1
    refine ⟨fun i hi => iV.1 (hd i hi).1.1, fun j hj hb hc => ?_, fun i hi k hk he => ?_⟩
    · refine (hd (2 * j + 1) hj).1.2 ⟨by omega, hc, ?_⟩
      have e : 2 * j + 1 - 1 = 2 * j := by omega
      rw [e, bP (by omega)]
      exact hb
    · have := (hd i hi).2 k hk
      rw [bP (by omega)] at this
      by_cases hb : S[i] = -1
      · exact hb
      · exact absurd ⟨he, hb⟩ this
  · intro h i hi
    simp only [vP, bP hi, Bool.and_eq_true, pW, Bool.not_eq_true', Bool.and_eq_false_iff, decide_eq_false_iff_not, Bool.not_eq_false', decide_eq_true_eq]
    refine ⟨⟨iV.2 (h.rng i hi), ?_⟩, fun k hk => ?_⟩
    · by_cases ho : i % 2 = 1
      · obtain ⟨j, rfl⟩ : ∃ j, i = 2 * j + 1 := ⟨i / 2, by omega⟩
        have e : 2 * j + 1 - 1 = 2 * j := by omega
        rw [e, bP (by omega)]
        by_cases hc : S[2 * j] = -1
        · exact .inl (.inr (h.bye j hi hc))
        · exact .inr hc
      · exact .inl (.inl ho)
    · rw [bP (by omega)]
      by_cases he : S[k] = S[i]
      · exact .inr (h.dup i hi k hk he)
      · exact .inl he

/-- A tree is valid. -/
def rO (t : aO) : Bool := lJ t && (List.range t.Slots.length).all (vO t.Slots)
theorem aCe (t : aO) : kY t = some (rO t) := aJy t
theorem aBt (t : aO) : jF t = some (rO t) := by
  rw [aJz, rO]
  cases hs : lJ t with
  | false => rfl
  | true =>
    obtain ⟨_, hev⟩ := wC hs
    congr 1
    rw [Bool.true_and, Bool.true_and, Bool.eq_iff_iff, aDd hev, aJm hev]
theorem oB {t : aO} (h : rO t = true) : TreeOK t := by
  rw [rO, Bool.and_eq_true] at h
  obtain ⟨hs, ha⟩ := h
  obtain ⟨_, hev⟩ := wC hs
  obtain ⟨h1, h2, h3⟩ := (aDd hev).1 ha
  simp only [lJ, Bool.and_eq_true, iV, decide_eq_true_eq] at hs
  exact ⟨hs.1.1, hs.1.2, hs.2, h1, h2, h3⟩

/-! Slips. -/
def bZ (t : aO) (r : Int) : Nat := 2 ^ (t.Rounds.toNat - 1 - r.toNat)
def fU (t : aO) (r p : Int) : Bool := wi r 0 (t.Rounds - 1) && wi p 0 (bZ t r - 1)
def eL (t : aO) (s : aE) : Bool :=
  wi s.Player 0 999 && (if s.Kind = 5 then decide (s.Round = 0) && wi s.Place 0 (t.Slots.length - 1) && wi s.Old 0 999
    else wi s.Kind 1 4 && fU t s.Round s.Place && decide (s.Old = 0) && (decide (0 < s.Round) || !decide (t.Slots.getD (2 * s.Place).toNat 0 = -1) && !decide (t.Slots.getD (2 * s.Place + 1).toNat 0 = -1)))

theorem aLu : ∀ R : Fin 6, ∀ r : Fin 6, r.val < R.val → ((2 ^ R.val : Nat) : Int).fdiv (2 ^ (min (r.val + 1) 64)) = ((2 ^ (R.val - 1 - r.val) : Nat) : Int) := by decide +kernel
theorem aGw : ∀ n : Fin 6, w64 (1 * 2 ^ (min n.val 64)) = ((2 ^ n.val : Nat) : Int) := by decide +kernel

section
variable {t : aO} (ht : TreeOK t)
include ht
theorem aLn : (t.Slots.length : Int) = ((2 ^ t.Rounds.toNat : Nat) : Int) := by rw [ht.len]
theorem aGa {r : Int} (h0 : 0 ≤ r) (h1 : r < t.Rounds) : (t.Slots.length : Int).fdiv (2 ^ (min (w64 (r + 1)).toNat 64)) = ((bZ t r : Nat) : Int) := by
  have h5 := ht.r5
  have hw : w64 (r + 1) = r + 1 := eT (by omega) (by omega)
  have := aLu ⟨t.Rounds.toNat, by omega⟩ ⟨r.toNat, by omega⟩ (by simp; omega)
  rw [hw, aLn ht]
  have e : (r + 1).toNat = r.toNat + 1 := by omega
  rw [e]
  exact this
theorem kX {r : Int} : bZ t r ≤ 16 := by
  have h5 := ht.r5
  have : t.Rounds.toNat - 1 - r.toNat ≤ 4 := by omega
  exact Nat.pow_le_pow_right (by omega) this
omit ht in
theorem vY {t : aO} {r : Int} : 1 ≤ bZ t r := Nat.one_le_two_pow
theorem aKx (r p : Int) : jP ⟨r, p⟩ t = some (fU t r p) := by
  have h1 := ht.r1
  have h5 := ht.r5
  have hw : w64 (t.Rounds - 1) = t.Rounds - 1 := eT (by omega) (by omega)
  unfold jP
  simp only [oC, hw, Option.bind_some, fU]
  cases hr : wi r 0 (t.Rounds - 1) with
  | false => simp
  | true =>
    have hr' := iV.1 hr
    have hch : chk (decide (0 ≤ w64 (r + 1))) = some () := by
      rw [eT (by omega) (by omega)]
      unfold chk; rw [decide_eq_true (by omega)]; rfl
    have hpl := kX ht (r := r)
    have hpp := vY (t := t) (r := r)
    have hw2 : w64 ((bZ t r : Int) - 1) = (bZ t r : Int) - 1 := eT (by omega) (by omega)
    simp only [hch, Option.bind_some, cond_true, aGa ht hr'.1 (by omega), hw2, Bool.true_and]
theorem tX {r : Int} (h0 : 0 ≤ r) (h1 : r < t.Rounds) : gH t r = some ((bZ t r : Nat) : Int) := by
  have h5 := ht.r5
  have hw : w64 (t.Rounds - 1) = t.Rounds - 1 := eT (by omega) (by omega)
  have hw2 : w64 (t.Rounds - 1 - r) = t.Rounds - 1 - r := eT (by omega) (by omega)
  have hu : IntKind.u64.wrap (t.Rounds - 1 - r) = t.Rounds - 1 - r := oS (by omega) (by omega)
  have hch : chk (decide (0 ≤ t.Rounds - 1 - r)) = some () := by unfold chk; rw [decide_eq_true (by omega)]; rfl
  unfold gH
  simp only [hw, hw2, hu, hch, Option.bind_some]
  have := aGw ⟨(t.Rounds - 1 - r).toNat, by omega⟩
  simp only at this
  rw [this]
  unfold bZ
  have e : (t.Rounds - 1 - r).toNat = t.Rounds.toNat - 1 - r.toNat := by omega
  rw [e]
theorem zW (r p : Int) : iM t r p = some (fU t r p) := by
  have h1 := ht.r1
  have h5 := ht.r5
  have hw : w64 (t.Rounds - 1) = t.Rounds - 1 := eT (by omega) (by omega)
  unfold iM
  simp only [oP, hw, Option.bind_some, fU]
  cases hr : wi r 0 (t.Rounds - 1) with
  | false => simp
  | true =>
    have hr' := iV.1 hr
    have hpl := kX ht (r := r)
    have hpp := vY (t := t) (r := r)
    have hw2 : w64 ((bZ t r : Int) - 1) = (bZ t r : Int) - 1 := eT (by omega) (by omega)
    simp only [cond_true, tX ht hr'.1 (by omega), Option.bind_some, hw2, Bool.true_and]
theorem yT {p : Int} (h : fU t 0 p = true) : 0 ≤ p ∧ (2 * p + 1).toNat < t.Slots.length ∧ p ≤ 15 := by
  simp only [fU, Bool.and_eq_true, iV] at h
  have hl := ht.len
  have h1 := ht.r1
  have hpl := kX ht (r := 0)
  have e : 2 ^ t.Rounds.toNat = 2 * bZ t 0 := by
    unfold bZ
    have : t.Rounds.toNat = (t.Rounds.toNat - 1 - (0 : Int).toNat) + 1 := by simp; omega
    rw [this, Nat.pow_succ]
    simp
    omega
  omega
theorem xD (s : aE) : mI t s = some (eL t s) := by
  have h32 := ht.len32
  have hw : w64 ((t.Slots.length : Int) - 1) = (t.Slots.length : Int) - 1 := eT (by omega) (by omega)
  unfold mI eL
  simp only [oC, Option.bind_some, hw]
  cases hp : wi s.Player 0 999 with
  | false => simp
  | true =>
    by_cases hk : s.Kind = 5
    · simp only [hk, decide_true, cond_true, if_true, Bool.not_true, cond_false, Bool.true_and, fN, Option.bind_some]
    · simp only [hk, decide_false, cond_false, if_false, Bool.not_true, Bool.true_and, rH, Option.bind_some, aKx ht]
      cases wi s.Kind 1 4 with
      | false => simp
      | true =>
        by_cases ho : s.Old = 0
        · simp only [ho, decide_true, Bool.not_true, Bool.or_false, cond_false, Option.bind_some, Bool.true_and, Bool.and_true]
          cases hm : fU t s.Round s.Place with
          | false => simp
          | true =>
            simp only [Bool.not_true, cond_false, Bool.true_and]
            by_cases hr : 0 < s.Round
            · simp [hr]
            · have hm0 : s.Round = 0 := by
                simp only [fU, Bool.and_eq_true, iV] at hm
                omega
              rw [hm0] at hm
              obtain ⟨p0, p1, p2⟩ := yT ht hm
              have e1 : w64 (2 * s.Place) = 2 * s.Place := eT (by omega) (by omega)
              have e2 : w64 (2 * s.Place + 2) = 2 * s.Place + 2 := eT (by omega) (by omega)
              have hsub : sub t.Slots (2 * s.Place) (2 * s.Place + 2) = some [t.Slots.getD (2 * s.Place).toNat 0, t.Slots.getD (2 * s.Place + 1).toNat 0] := by
                obtain ⟨q, hq⟩ : ∃ q : Nat, s.Place = q := ⟨s.Place.toNat, by omega⟩
                rw [hq] at p1 ⊢
                have a1 : 2 * q + 1 < t.Slots.length := by omega
                have b1 : (2 * (q : Int)).toNat = 2 * q := by omega
                have b2 : (2 * (q : Int) + 1).toNat = 2 * q + 1 := by omega
                have b3 : (2 * (q : Int) + 2).toNat = 2 * q + 2 := by omega
                rw [b1, b2, bP (by omega), bP a1]
                unfold sub
                rw [if_pos ⟨by omega, by omega, by omega⟩, b1, b3]
                congr 1
                apply List.ext_getElem
                · simp; omega
                · intro i h1 h2
                  simp at h2
                  have : i = 0 ∨ i = 1 := by omega
                  rcases this with rfl | rfl <;> simp
              simp only [hr, decide_false, cond_false, Bool.false_or, e1, e2, hsub, Option.bind_some]
              have hc : ∀ a b : Int, gL [a, b] (-1) = some (decide (a = -1) || decide (b = -1)) := by
                intro a b
                rw [pY [a, b] (show (2 : Nat) ≤ 9223372036854775807 by omega)]
                congr 1
                rw [Bool.eq_iff_iff]
                simp only [decide_eq_true_eq, List.mem_cons, List.not_mem_nil, or_false, Bool.or_eq_true]
                exact ⟨fun h => h.imp Eq.symm Eq.symm, fun h => h.imp Eq.symm Eq.symm⟩
              rw [hc]
              cases decide (t.Slots.getD (2 * s.Place).toNat 0 = -1) <;> cases decide (t.Slots.getD (2 * s.Place + 1).toNat 0 = -1) <;> rfl
        · simp [ho]
theorem aGr (s : aE) : kQ t s = some (eL t s) := by
  have h32 := ht.len32
  have hw : w64 ((t.Slots.length : Int) - 1) = (t.Slots.length : Int) - 1 := eT (by omega) (by omega)
  unfold kQ eL
  simp only [oP, Option.bind_some, hw]
  cases hp : wi s.Player 0 999 with
  | false => simp
  | true =>
    by_cases hk : s.Kind = 5
    · simp only [hk, decide_true, cond_true, if_true, Bool.not_true, cond_false, Bool.true_and, fN, Option.bind_some]
    · simp only [hk, decide_false, cond_false, if_false, Bool.not_true, Bool.true_and, rH, Option.bind_some, zW ht]
      cases wi s.Kind 1 4 with
      | false => simp
      | true =>
        cases hm : fU t s.Round s.Place with
        | false => simp
        | true =>
          by_cases ho : s.Old = 0
          · simp only [ho, decide_true, Bool.not_true, Bool.or_false, cond_false, Option.bind_some, Bool.true_and, Bool.and_true]
            by_cases hr : 0 < s.Round
            · simp [hr]
            · have hm0 : s.Round = 0 := by
                simp only [fU, Bool.and_eq_true, iV] at hm
                omega
              rw [hm0] at hm
              obtain ⟨p0, p1, p2⟩ := yT ht hm
              have e1 : w64 (2 * s.Place) = 2 * s.Place := eT (by omega) (by omega)
              have e2 : w64 (2 * s.Place + 1) = 2 * s.Place + 1 := eT (by omega) (by omega)
              have i1 : idx t.Slots (2 * s.Place) = some (t.Slots.getD (2 * s.Place).toNat 0) := by
                rw [aFv (by omega) (by omega), bP (by omega)]
              have i2 : idx t.Slots (2 * s.Place + 1) = some (t.Slots.getD (2 * s.Place + 1).toNat 0) := by
                rw [aFv (by omega) p1, bP p1]
              simp only [hr, decide_false, cond_false, Bool.false_or, e1, e2, i1, i2, Option.bind_some, fN]
          · simp [ho]
end
end Go.Am
