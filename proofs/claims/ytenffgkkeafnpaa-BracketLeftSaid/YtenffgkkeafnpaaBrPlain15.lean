/- Layer 7, plain: results that say that a player has won. -/
import Derived.Test.YtenffgkkeafnpaaBrPlain14
namespace Go.Am

/-- A match of the first round with a bye. -/
def aBm (t : aO) (p : Nat) : Bool := decide (t.Slots.getD (2 * p) 0 = -1) || decide (t.Slots.getD (2 * p + 1) 0 = -1)
theorem aKy {t : aO} (ht : TreeOK t) {r p : Nat} (hr : r < t.Rounds.toNat) (hp : p < bZ t r) : fU t r p = true := by
  have h1 := ht.r1
  simp only [fU, Bool.and_eq_true, iV]
  omega
theorem aJi {t : aO} (ht : TreeOK t) {a k : Nat} {n : Int} (ha : a < t.Slots.length) (hk : k < t.Rounds.toNat) (h0 : 0 ≤ n) (h1 : n ≤ 999) (hb : ¬ (k = 0 ∧ aBm t (a / 2 ^ (k + 1)) = true)) : eL t ⟨1, k, ((a / 2 ^ (k + 1) : Nat) : Int), n, 0⟩ = true := by
  have hm := aKy ht hk (nP ht ha hk)
  have hw : wi n 0 999 = true := iV.2 ⟨h0, h1⟩
  have hb' : (decide ((0 : Int) < (k : Int)) || !decide (t.Slots.getD (2 * (((a / 2 ^ (k + 1) : Nat) : Int))).toNat 0 = -1) && !decide (t.Slots.getD (2 * (((a / 2 ^ (k + 1) : Nat) : Int)) + 1).toNat 0 = -1)) = true := by
    by_cases hk0 : k = 0
    · have hbf : aBm t (a / 2 ^ (k + 1)) = false := by
        cases h : aBm t (a / 2 ^ (k + 1)) with
        | false => rfl
        | true => exact absurd ⟨hk0, h⟩ hb
      have e1 : (2 * (((a / 2 ^ (k + 1) : Nat) : Int))).toNat = 2 * (a / 2 ^ (k + 1)) := by omega
      have e2 : (2 * (((a / 2 ^ (k + 1) : Nat) : Int)) + 1).toNat = 2 * (a / 2 ^ (k + 1)) + 1 := by omega
      rw [e1, e2]
      unfold aBm at hbf
      rw [Bool.or_eq_false_iff] at hbf
      rw [hbf.1, hbf.2]
      simp
    · rw [decide_eq_true (by omega)]; rfl
  unfold eL
  simp only [show ((1 : Int) = 5) = False by simp, if_false, hw, hm, hb', show wi 1 1 4 = true by decide, decide_true, Bool.and_self]

section
variable {t : aO} {l : List aE} {d : List Int} (hg : Good t l d)
include hg
end
end Go.Am
