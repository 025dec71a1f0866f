/- Layer 7, plain: the reference's draw. -/
import Derived.Test.YtenffgkkeafnpaaBrPlain8
namespace Go.Am

def mat (must : List (List Int)) (r p : Nat) : Int := (must.getD r []).getD p (-2)
/-- The table of winners holds the claims. -/
structure MustIs (t : aO) (must : List (List Int)) (P : kN) : Prop where
  len : must.length = t.Rounds.toNat
  row : ∀ r : Nat, r < t.Rounds.toNat → (must.getD r []).length = bZ t r
  mem : ∀ (r p : Nat) (v : Int), r < t.Rounds.toNat → p < bZ t r → ((mat must r p = v ∧ v ≠ -2) ↔ P ⟨r, p⟩ v)
theorem MustIs.ext {t : aO} {must : List (List Int)} {P Q : kN} (h : MustIs t must P) (he : ∀ m v, P m v ↔ Q m v) : MustIs t must Q := ⟨h.len, h.row, fun r p v h1 h2 => (h.mem r p v h1 h2).trans (he _ v)⟩
theorem MustIs.set {t : aO} {must : List (List Int)} {P : kN} (h : MustIs t must P) {r p : Nat} {n : Int} (hr : r < t.Rounds.toNat) (hp : p < bZ t r) (hn : n ≠ -2) (hc : ∀ v, P ⟨r, p⟩ v → v = n) :
    MustIs t (must.set r ((must.getD r []).set p n)) (fun m v => P m v ∨ (m = ⟨r, p⟩ ∧ v = n)) := by
  have hl := h.len
  have hrow := h.row r hr
  have hrl : r < must.length := by omega
  have hg : ∀ r', (must.set r ((must.getD r []).set p n)).getD r' [] = if r' = r then (must.getD r []).set p n else must.getD r' [] := by
    intro r'
    by_cases e : r' = r
    · subst e; simp [List.getD, hrl]
    · simp [List.getD, e, List.getElem?_set, Ne.symm e]
  refine ⟨by rw [List.length_set]; exact hl, fun r' hr' => ?_, fun r' p' v hr' hp' => ?_⟩
  · rw [hg]
    split
    · rename_i e; subst e; rw [List.length_set]; exact h.row r' hr'
    · exact h.row r' hr'
  · have hm := h.mem r' p' v hr' hp'
    unfold mat at hm ⊢
    rw [hg]
    by_cases e : r' = r
    · subst e
      rw [if_pos rfl]
      by_cases e2 : p' = p
      · subst e2
        have : ((must.getD r' []).set p' n).getD p' (-2) = n := by simp [List.getD]; rw [List.getElem?_set]; simp; have := hrow; simp [List.getD] at this; simp [this, hp]
        rw [this]
        constructor
        · rintro ⟨rfl, _⟩; exact .inr ⟨rfl, rfl⟩
        · rintro (hP | ⟨_, rfl⟩)
          · exact ⟨(hc v hP).symm, (hm.2 hP).2⟩
          · exact ⟨rfl, hn⟩
      · have : ((must.getD r' []).set p n).getD p' (-2) = (must.getD r' []).getD p' (-2) := by simp only [List.getD]; rw [List.getElem?_set, if_neg (Ne.symm e2)]
        rw [this, hm]
        constructor
        · exact .inl
        · rintro (hP | ⟨e3, _⟩)
          · exact hP
          · simp only [aB.mk.injEq] at e3; omega
    · rw [if_neg e, hm]
      constructor
      · exact .inl
      · rintro (hP | ⟨e3, _⟩)
        · exact hP
        · simp only [aB.mk.injEq] at e3; omega
theorem MustIs.func {t : aO} {must : List (List Int)} {P : kN} (h : MustIs t must P) {r p : Nat} (hr : r < t.Rounds.toNat) (hp : p < bZ t r) {v w : Int} (h1 : P ⟨r, p⟩ v) (h2 : P ⟨r, p⟩ w) : v = w :=
  ((h.mem r p v hr hp).2 h1).1.symm.trans ((h.mem r p w hr hp).2 h2).1

section
variable {t : aO} (ht : TreeOK t) {d : List Int} (hD : DOK t d)
include ht
theorem nP {a r : Nat} (ha : a < t.Slots.length) (hr : r < t.Rounds.toNat) : a / 2 ^ (r + 1) < bZ t r := by
  rw [ht.len] at ha
  unfold bZ
  rw [Nat.div_lt_iff_lt_mul (Nat.two_pow_pos _), ← Nat.pow_add]
  have e : t.Rounds.toNat - 1 - (r : Int).toNat + (r + 1) = t.Rounds.toNat := by simp; omega
  rw [e]; exact ha
theorem rI : 2 * bZ t 0 = t.Slots.length := by
  have h1 := ht.r1
  rw [ht.len]; unfold bZ
  have e : t.Rounds.toNat = (t.Rounds.toNat - 1 - (0 : Int).toNat) + 1 := by simp; omega
  conv => rhs; rw [e, Nat.pow_succ]
  omega
omit ht in
/-- The winner of a match of the first round with a bye. -/
def qB (d : List Int) (p : Nat) : Int := if d.getD (2 * p + 1) 0 = -1 then d.getD (2 * p) 0 else if d.getD (2 * p) 0 = -1 then d.getD (2 * p + 1) 0 else -2
def pS (t : aO) (d : List Int) (r : Nat) : List Int := (List.range (bZ t r)).map fun p => if r = 0 then qB d p else -2

include hD in
theorem aLr (a0 : Int → List (List Int) → List Int → Option (aQ × Bool)) (l : List aE) (o4 : aQ) (M : List (List Int)) (d2 : List Int) {r : Nat} (hr : r < t.Rounds.toNat) :
    dT a0 l d r t o4 M d2 BIG 0 [] = iS a0 l d r t o4 M d2 (pS t d r) := by
  have hpl := kX ht (r := (r : Int))
  have h5 := ht.r5
  have hP := tX ht (r := (r : Int)) (by omega) (by omega)
  have hp0 := rI ht
  have hlen := hD.len
  have := eQ (S := List Int) (fun k p row => dT a0 l d r t o4 M d2 k p row) (bZ t r) (fun _ _ => iS a0 l d r t o4 M d2 (pS t d r)) (fun p row => row = (List.range p).map fun p => if r = 0 then qB d p else -2) ?_ ?_ BIG [] (cW (by omega)) (by simp)
  · exact this
  · rintro k p row hp rfl ih
    have happ : ∀ v : Int, app 8 ((List.range p).map fun p => if r = 0 then qB d p else -2) [v] = some (((List.range p).map fun p => if r = 0 then qB d p else -2) ++ [v]) := fun v => gB (by simp; omega)
    simp only [dT, hP, Option.bind_some, Int.ofNat_lt, hp, decide_true, cond_true, happ, cI (show p < 9223372036854775807 by omega)]
    have fin : ∀ v : Int, v = (if r = 0 then qB d p else -2) → dT a0 l d r t o4 M d2 k ((p + 1 : Nat) : Int) (((List.range p).map fun p => if r = 0 then qB d p else -2) ++ [v]) = iS a0 l d r t o4 M d2 (pS t d r) := by
      intro v hv
      refine ih _ ?_
      rw [List.range_succ, List.map_append, hv]; rfl
    by_cases h0 : r = 0
    · subst h0
      have hpl2 : p < bZ t 0 := hp
      have w1 : w64 (2 * (p : Int)) = ((2 * p : Nat) : Int) := by rw [eT (by omega) (by omega)]; omega
      have w2 : w64 (((2 * p : Nat) : Int) + 1) = ((2 * p + 1 : Nat) : Int) := cI (by omega)
      have i1 : 2 * p < d.length := by omega
      have i2 : 2 * p + 1 < d.length := by omega
      simp only [w1, w2, cK i1, cK i2, Option.bind_some, Int.natCast_zero, decide_true, cond_true]
      rw [← bP i1 0, ← bP i2 0]
      by_cases b1 : d.getD (2 * p) 0 = -1
      · by_cases b2 : d.getD (2 * p + 1) 0 = -1
        · simp only [b1, b2, decide_true, cond_true]
          exact fin _ (by simp only [qB, b1, b2, if_true])
        · simp only [b1, b2, decide_true, decide_false, cond_true, cond_false]
          exact fin _ (by simp only [qB, b1, b2, if_true, if_false])
      · by_cases b2 : d.getD (2 * p + 1) 0 = -1
        · simp only [b1, b2, decide_true, decide_false, cond_true, cond_false]
          exact fin _ (by simp only [qB, b2, if_true])
        · simp only [b1, b2, decide_false, cond_false]
          exact fin _ (by simp only [qB, b1, b2, if_true, if_false])
    · have hr0 : decide ((r : Int) = 0) = false := decide_eq_false (by omega)
      simp only [hr0, cond_false, Option.bind_some]
      exact fin _ (by rw [if_neg h0])
  · intro k row hrow
    have hlt : decide ((bZ t r : Int) < (bZ t r : Int)) = false := decide_eq_false (by omega)
    simp only [dT, hP, Option.bind_some, hlt, cond_false, hrow, pS]

include hD in
theorem aKj (l : List aE) (o4 : aQ) (d2 : List Int) : fB l d t o4 BIG 0 [] d2 = iR l d o4 ((List.range t.Rounds.toNat).map (pS t d)) d2 := by
  have h1 := ht.r1
  have h5 := ht.r5
  have e : t.Rounds = ((t.Rounds.toNat : Nat) : Int) := by omega
  have := eQ (S := List (List Int)) (fun k r M => fB l d t o4 k r M d2) t.Rounds.toNat (fun _ _ => iR l d o4 ((List.range t.Rounds.toNat).map (pS t d)) d2) (fun r M => M = (List.range r).map (pS t d)) ?_ ?_ BIG [] (cW (by omega)) (by simp)
  · exact this
  · rintro k r M hr rfl ih
    have hlt : decide ((r : Int) < t.Rounds) = true := decide_eq_true (by omega)
    simp only [fB, hlt, cond_true, aLr ht hD _ l o4 _ d2 hr, iS, oH, cI (show r < 9223372036854775807 by omega)]
    rw [gB (by simp; omega), Option.bind_some]
    refine ih _ ?_
    rw [List.range_succ, List.map_append]; rfl
  · rintro k M rfl
    have hlt : decide (((t.Rounds.toNat : Nat) : Int) < t.Rounds) = false := decide_eq_false (by omega)
    simp only [fB, hlt, cond_false]

include hD in
theorem aMv : MustIs t ((List.range t.Rounds.toNat).map (pS t d)) (aGo d) := by
  have hg : ∀ r, r < t.Rounds.toNat → ((List.range t.Rounds.toNat).map (pS t d)).getD r [] = pS t d r := by
    intro r hr
    rw [bP (by simpa using hr)]; simp
  have hp0 := rI ht
  have hlen := hD.len
  refine ⟨by simp, fun r hr => by rw [hg r hr]; simp [pS], fun r p v hr hp => ?_⟩
  have hm : mat ((List.range t.Rounds.toNat).map (pS t d)) r p = if r = 0 then qB d p else -2 := by
    unfold mat
    rw [hg r hr, bP (by simpa [pS] using hp)]
    simp [pS]
  rw [hm]
  by_cases h0 : r = 0
  · subst h0
    have hpl2 : p < bZ t 0 := hp
    have i1 : 2 * p < d.length := by omega
    have i2 : 2 * p + 1 < d.length := by omega
    have s1 : sib (2 * p) = 2 * p + 1 := by unfold sib; split <;> omega
    have s2 : sib (2 * p + 1) = 2 * p := by unfold sib; split <;> omega
    rw [if_pos rfl]
    constructor
    · rintro ⟨hv, hn⟩
      unfold qB at hv
      split at hv
      · rename_i b; exact ⟨2 * p + 1, i2, b, by rw [s2]; simp [cell], by rw [s2]; exact hv.symm⟩
      · split at hv
        · rename_i b; exact ⟨2 * p, i1, b, by rw [s1]; simp [cell]; omega, by rw [s1]; exact hv.symm⟩
        · exact absurd hv.symm hn
    · rintro ⟨i, hi, hb, hc, rfl⟩
      have hsib := hD.sib_ne ht hi hb
      have hsl : sib i < d.length := by rw [hlen]; exact tU ht (by omega)
      have hrng := hD.rng _ hsl
      refine ⟨?_, by omega⟩
      have : p = i / 2 := by
        rw [vH] at hc
        simp only [cell, aB.mk.injEq] at hc
        omega
      rcases (show i = 2 * p ∨ i = 2 * p + 1 by omega) with rfl | rfl
      · rw [s1] at hsib ⊢
        unfold qB; rw [if_neg hsib, if_pos hb]
      · rw [s2]
        unfold qB; rw [if_pos hb]
  · rw [if_neg h0]
    constructor
    · rintro ⟨rfl, hn⟩; exact absurd rfl hn
    · rintro ⟨i, hi, hb, hc, _⟩
      simp only [cell, aB.mk.injEq] at hc
      omega
end
end Go.Am
