/- Plain laws, one behind the other. -/
import Derived.Test.YtoflekecpkjghaaPpWorks
section
namespace Go.Am

structure NearP (p : aQ) : Prop where
  slots : p.Tree.Slots.length ≤ 8
  slips : p.Slips.length ≤ 20
  prizes : p.Prizes.length ≤ 20
  teams : p.Teams.length ≤ 40
  levies : p.Levies.length ≤ 40
  rates : p.Rates.length ≤ 40
  items : p.Items.length ≤ 60
theorem NearP.sz {p : aQ} (h : NearP p) : Sz p := by
  obtain ⟨h1, h2, h3, h4, h5, h6, h7⟩ := h
  exact ⟨by omega, by omega, by omega, by omega, by omega, by omega, by omega⟩
theorem aXq (p : aQ) : mJ p = some true ∨ (mJ p = some false ∧ NearP p) := by
  have hf : mJ p = some (decide (8 < (p.Tree.Slots.length : Int)) || decide (20 < (p.Slips.length : Int)) || decide (20 < (p.Prizes.length : Int)) || decide (40 < (p.Teams.length : Int)) || decide (40 < (p.Levies.length : Int)) || decide (40 < (p.Rates.length : Int)) || decide (60 < (p.Items.length : Int))) := by
    unfold mJ
    rw [eK, Option.bind_some, eK, Option.bind_some, eK, Option.bind_some, eK, Option.bind_some, eK, Option.bind_some, eK, Option.bind_some]
  cases hb : (decide (8 < (p.Tree.Slots.length : Int)) || decide (20 < (p.Slips.length : Int)) || decide (20 < (p.Prizes.length : Int)) || decide (40 < (p.Teams.length : Int)) || decide (40 < (p.Levies.length : Int)) || decide (40 < (p.Rates.length : Int)) || decide (60 < (p.Items.length : Int))) with
  | true => exact .inl (by rw [hf, hb])
  | false =>
    refine .inr ⟨by rw [hf, hb], ?_⟩
    simp only [Bool.or_eq_false_iff, decide_eq_false_iff_not] at hb
    obtain ⟨⟨⟨⟨⟨⟨a, b⟩, c⟩, d⟩, e⟩, f⟩, g⟩ := hb
    exact ⟨by omega, by omega, by omega, by omega, by omega, by omega, by omega⟩
end Go.Am

end
section
namespace Go.Am

theorem aVq (p : aQ) : mK p = some false ∨ (mK p = some true ∧ NearP p ∧ ∃ d, GP p d) := by
  unfold mK
  rcases aXq p with h | ⟨h, hn⟩
  · exact .inl (by rw [h]; rfl)
  · rw [h, Option.bind_some, Bool.not_false, cond_true, aXh hn.sz, Option.bind_some, Option.bind_some]
    by_cases hc : uK p = 0
    · exact .inr ⟨by rw [decide_eq_true hc], hn, aVx hc⟩
    · exact .inl (by rw [decide_eq_false hc])
/-- What comes is what goes. -/
def Bal (b : aY) : Prop := b.Gross + b.Daily + b.Debt = b.Tax + b.Fines + b.Used + b.Rest
theorem aUf {p : aQ} {d : List Int} (h : GP p d) (n : Int) : Bal (uT p d n) := by
  have hb := aGv h n
  obtain ⟨_, _, _, _, f5, _⟩ := aCn (person := n) hb
  unfold Bal uT
  show (iZ p d n).Low + sY p n + max 0 (-((iZ p d n).Low + sY p n - xN p n (iZ p d n).Low - pM p n)) = xN p n (iZ p d n).Low + pM p n + (kU _ _ _ _ _ _ _).Used + (kU _ _ _ _ _ _ _).Rest
  omega
theorem Bal.add {s b : aY} (hs : Bal s) (hb : Bal b) : Bal (aBg s b) := by
  unfold Bal aBg at *
  simp only
  omega
theorem aYx {a b c d e f g h : Int} (h1 : 0 ≤ a) (h2 : 0 ≤ b) (h3 : 0 ≤ c) (h4 : 0 ≤ d) (h5 : 0 ≤ e) (h6 : 0 ≤ f) (h7 : 0 ≤ g) (h8 : 0 ≤ h) : 0 ≤ min (min (min (min (min (min (min a b) c) d) e) f) g) h := by
  omega
/-- The arithmetic of a rate. -/
theorem aRn {paid num den units used : Int} (hp : 0 ≤ paid) (hn : 1 ≤ num) (hd : 1 ≤ den) (hu : units = paid * num / den) (hs : used = (units * den + num - 1) / num) (hle : used ≤ paid) :
    used * num / den = units ∧ (used = 0 ∨ (used - 1) * num / den < units) := by
  have a1 : units * den ≤ used * num := by
    have h1 := Int.lt_ediv_add_one_mul_self (units * den + num - 1) (show 0 < num by omega)
    rw [← hs, Int.add_mul, Int.one_mul] at h1
    omega
  have a2 : units ≤ used * num / den := Int.le_ediv_of_mul_le (by omega) a1
  have a3 : used * num ≤ paid * num := Int.mul_le_mul_of_nonneg_right hle (by omega)
  have a4 : used * num / den ≤ paid * num / den := Int.ediv_le_ediv (by omega) a3
  refine ⟨by omega, ?_⟩
  by_cases h0 : used = 0
  · exact .inl h0
  · refine .inr ?_
    have h2 := Int.ediv_mul_le (units * den + num - 1) (show num ≠ 0 by omega)
    rw [← hs] at h2
    have h3 : (used - 1) * num < units * den := by rw [Int.sub_mul, Int.one_mul]; omega
    exact Int.ediv_lt_of_lt_mul (by omega) h3
end Go.Am

end
