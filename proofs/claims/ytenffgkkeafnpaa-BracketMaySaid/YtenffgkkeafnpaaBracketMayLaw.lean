/- The plain law BracketMay. -/
import Derived.Test.YtenffgkkeafnpaaBracketMay1
namespace Go.Am

section
variable {t : aO} {l : List aD} {d : List Int} (hg : Good t l d) {must : List (List Int)} (hd : cY t l = some (⟨d, must⟩, true)) (hM : MustIs t must (eR d (Res l)))
include hg hM
theorem aJt {r p : Nat} (hr : r < t.Rounds.toNat) (hp : p < cD t r) {x : eD} (ex : x.Round = r) (ep : x.Place = p) (h0 : 0 ≤ x.A) (h1 : x.A ≤ 999) (hl : l.length < 60) (hb : ¬ (r = 0 ∧ tK t p = true)) (hno : ∀ y ∈ l, y.Kind ≠ 5 → y.Round = x.Round → ¬ y.Place = x.Place) :
    iM l (decide (x.A ∈ eZ (mY d must t r p))) t x = some true := by
  have hs : eJ t ⟨1, x.Round, x.Place, x.A, 0⟩ = true := by
    rw [ex, ep]
    obtain ⟨a, ha, _, hc, _⟩ := hg.someone hr hp
    have hpa : p = a / 2 ^ (r + 1) := by simp only [cell, aB.mk.injEq] at hc; omega
    have := aHn hg.ht (a := a) (k := r) (n := x.A) (hg.dok.len ▸ ha) hr h0 h1 (by rw [← hpa]; exact hb)
    rw [← hpa] at this
    exact this
  have hx : (⟨1, x.Round, x.Place, x.A, 0⟩ : aD).Kind ≠ 5 := by simp
  have hrn : x.Round.toNat = r := by omega
  unfold iM
  rw [hZ (by simp; omega), Option.bind_some, hZ (by simp; omega), Option.bind_some, List.nil_append]
  unfold nB
  by_cases hm : x.A ∈ eZ (mY d must t r p)
  · obtain ⟨a, ha, e, hn, hc, hco⟩ := (aAg hg hM hr).1 hm
    have hG := hg.add hx hs hl ha e (by simp only [hrn, ex, ep]; exact hc) (by simp only [hrn]; exact hco) fun y hy k5 e1 e2 => absurd e2 (hno y hy k5 e1)
    rw [mA hG]
    simp [hm, kO]
  · have hS := Stat.add hg hx hs hl fun ⟨a, ha, e, hc, hco⟩ => hm ((aAg hg hM hr).2 ⟨a, ha, e, by omega, by simp only [hrn, ex, ep] at hc; exact hc, by simp only [hrn] at hco; exact hco⟩)
    rw [nE hS]
    simp [hm, kO]
include hd
theorem aIl {r p : Nat} (hr : r < t.Rounds.toNat) (hp : p < cD t r) {x : eD} (ex : x.Round = r) (ep : x.Place = p) (h0 : 0 ≤ x.A) (h1 : x.A ≤ 999) (hl : l.length < 60) (hb : ¬ (r = 0 ∧ tK t p = true)) (hno : ∀ y ∈ l, y.Kind ≠ 5 → y.Round = x.Round → ¬ y.Place = x.Place) :
    gL l t x = some true := by
  have hend := aJt hg hM hr hp ex ep h0 h1 hl hb hno
  have hlen := aIk hg must r p
  have hnd := aFh hg.dok must r p
  have hsr := tG (mY d must t r p)
  have hne : eZ (mY d must t r p) ≠ [] := by
    obtain ⟨a, ha, hn, hc, hco⟩ := hg.someone hr hp
    have := (aAg hg hM hr).2 ⟨a, ha, rfl, hn, hc, hco⟩
    intro e; rw [e] at this; simp at this
  unfold gL mP
  rw [ex, ep, aBn hg hd hM (aJe hg.ht hr hp), Option.bind_some]
  have hl0 : decide (((eZ (mY d must t r p)).length : Int) = 0) = false := decide_eq_false fun e => hne (List.length_eq_zero_iff.1 (by omega))
  simp only [decide_true, Bool.not_true, cond_false, hl0, Option.bind_some]
  generalize eZ (mY d must t r p) = m at *
  have := fF (S := Bool) (fun k i f => eG l m t x k f i) m.length (fun _ _ => some true) (fun i f => f = decide (x.A ∈ m.take i)) ?_ ?_ BIG false (cZ (by omega)) (by simp)
  · exact this
  · rintro k i f hi rfl ih
    have hlt : decide ((i : Int) < (m.length : Int)) = true := decide_eq_true (by omega)
    have ht1 : m.take (i + 1) = m.take i ++ [m[i]] := List.take_succ_eq_append_getElem hi
    have hasc : (bif decide ((0 : Int) < (i : Int)) then ((idx m (w64 ((i : Int) - 1))).bind fun x26 => some (decide (m[i] ≤ x26))) else (some false)) = some false := by
      by_cases h0 : 0 < i
      · have hp1 : w64 ((i : Int) - 1) = ((i - 1 : Nat) : Int) := vG h0 (by omega)
        have hi1 : i - 1 < m.length := by omega
        have := aKi hsr hnd (i := i - 1) (by omega)
        have e : i - 1 + 1 = i := by omega
        simp only [e] at this
        rw [decide_eq_true (by omega), cond_true, hp1, cI hi1, Option.bind_some, decide_eq_false (by omega)]
      · rw [decide_eq_false (by omega)]; rfl
    simp only [eG, hlt, cond_true, cI hi, Option.bind_some, pA, hasc, cond_false, cH (show i < 9223372036854775807 by omega)]
    refine ih _ ?_
    rw [ht1, Bool.eq_iff_iff]
    simp only [Bool.or_eq_true, decide_eq_true_eq, List.mem_append, List.mem_singleton]
    exact or_congr Iff.rfl eq_comm
  · rintro k f rfl
    have hlt : decide ((m.length : Int) < (m.length : Int)) = false := decide_eq_false (by omega)
    rw [List.take_length]
    simp only [eG, hlt, cond_false, hend]
theorem aJs {r p : Nat} (hr : r < t.Rounds.toNat) (hp : p < cD t r) {x : eD} (ex : x.Round = r) (ep : x.Place = p) (h0 : 0 ≤ x.A) (h1 : x.A ≤ 999) (hl : l.length < 60) (hb : ¬ (r = 0 ∧ tK t p = true)) :
    dT l t x BIG 0 = some true := by
  have hK : (∀ y ∈ l, y.Kind ≠ 5 → y.Round = x.Round → ¬ y.Place = x.Place) → gL l t x = some true := fun hno => aIl hg hd hM hr hp ex ep h0 h1 hl hb hno
  refine oZ (S := Unit) (fun k i _ => dT l t x k i) l.length (fun o => o = some true) (fun i _ => ∀ y ∈ l.take i, y.Kind ≠ 5 → y.Round = x.Round → ¬ y.Place = x.Place) ?_ ?_ BIG 0 () (cZ (by omega)) (by simp)
  · rintro k i _ hi hno ih
    have hlt : decide ((i : Int) < (l.length : Int)) = true := decide_eq_true (by omega)
    simp only [dT, hlt, cond_true, cI hi, Option.bind_some, gX, cH (show i < 9223372036854775807 by omega)]
    cases hc : (!decide (l[i].Kind = 5) && decide (l[i].Round = x.Round) && decide (l[i].Place = x.Place)) with
    | true => simp only [cond_true, kO, Option.bind_some]
    | false =>
      simp only [cond_false]
      refine ih () fun y hy k5 e1 e2 => ?_
      rw [List.take_succ_eq_append_getElem hi, List.mem_append, List.mem_singleton] at hy
      rcases hy with hy | rfl
      · exact hno y hy k5 e1 e2
      · simp [k5, e1, e2] at hc
  · rintro k i _ hi hno
    have hlt : decide ((i : Int) < (l.length : Int)) = false := decide_eq_false (by omega)
    have hta : l.take i = l := List.take_of_length_le (by omega)
    rw [hta] at hno
    simp only [dT, hlt, cond_false]
    exact hK hno
end
theorem rL (t : aO) (l : List aD) (x : eD) (ht : aAy t) (hl : okL wI l) (hx : rR x) : jX t l x = some true := by
  unfold jX
  rcases aDv t l with hr | ⟨d, hg, hr, h60⟩
  · simp only [hr, Option.bind_some, Bool.not_false, cond_true, kO]
  · obtain ⟨must, hd, hM⟩ := oY hg
    simp only [hr, Option.bind_some, Bool.not_true, cond_false, uF hg.ht]
    by_cases h59 : 59 < l.length
    · have : decide ((59 : Int) < (l.length : Int)) = true := decide_eq_true (by omega)
      simp only [this, cond_true, Option.bind_some, kO]
    · have : decide ((59 : Int) < (l.length : Int)) = false := decide_eq_false (by omega)
      simp only [this, cond_false, Option.bind_some]
      cases hm : gD t x.Round x.Place with
      | false => simp only [Bool.not_false, cond_true, Option.bind_some, kO]
      | true =>
        obtain ⟨r, p, er, ep, hrr, hpp⟩ := uU hm
        simp only [Bool.not_true, cond_false, Option.bind_some, pA]
        by_cases hA : x.A < 0 ∨ 999 < x.A
        · have : (decide (x.A < 0) || decide (999 < x.A)) = true := by simpa using hA
          simp only [this, cond_true, Option.bind_some, kO]
        · have : (decide (x.A < 0) || decide (999 < x.A)) = false := by simpa using hA
          simp only [this, cond_false]
          have hbye : ((bif decide (x.Round = 0) then ((idx t.Slots (w64 (2 * x.Place))).bind fun x9 => (bif decide (x9 = (-1)) then (some true) else ((idx t.Slots (w64 ((w64 (2 * x.Place)) + 1))).bind fun x10 => some (decide (x10 = (-1))))).bind fun b11 => some b11) else (some false)).bind fun b12 => some b12) = some (decide (r = 0) && tK t p) := by
            have h32 := hg.ht.len32
            by_cases h0 : r = 0
            · subst h0
              have hp0 := sA hg.ht
              have hpp' : p < cD t 0 := hpp
              have w1 : w64 (2 * x.Place) = ((2 * p : Nat) : Int) := by rw [ep, eX (by omega) (by omega)]; omega
              have w2 : w64 (((2 * p : Nat) : Int) + 1) = ((2 * p + 1 : Nat) : Int) := cH (by omega)
              have i1 : 2 * p < t.Slots.length := by omega
              have i2 : 2 * p + 1 < t.Slots.length := by omega
              have e0 : decide (x.Round = 0) = true := decide_eq_true (by omega)
              simp only [e0, cond_true, w1, w2, cI i1, cI i2, Option.bind_some, pA, decide_true, Bool.true_and, tK, bN i1, bN i2]
            · have e0 : decide (x.Round = 0) = false := decide_eq_false (by omega)
              simp only [e0, cond_false, Option.bind_some, h0, decide_false, Bool.false_and]
          rw [hbye, Option.bind_some]
          cases hb : (decide (r = 0) && tK t p) with
          | true => simp only [cond_true, kO, Option.bind_some]
          | false =>
            rw [cond_false]
            refine aJs hg hd hM hrr hpp er ep (by omega) (by omega) (by omega) fun ⟨h0, h1⟩ => ?_
            simp [h0, h1] at hb
end Go.Am
