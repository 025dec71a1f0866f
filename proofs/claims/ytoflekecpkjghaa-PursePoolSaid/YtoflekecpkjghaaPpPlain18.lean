/- Plain laws, one behind the other. -/
import Derived.Test.YtoflekecpkjghaaPpWorks
section
namespace Go.Am

structure NearP (p : aN) : Prop where
  slots : p.Tree.Slots.length ≤ 8
  slips : p.Slips.length ≤ 20
  prizes : p.Prizes.length ≤ 20
  teams : p.Teams.length ≤ 40
  levies : p.Levies.length ≤ 40
  rates : p.Rates.length ≤ 40
  items : p.Items.length ≤ 60
theorem NearP.sz {p : aN} (h : NearP p) : Sz p := by
  obtain ⟨h1, h2, h3, h4, h5, h6, h7⟩ := h
  exact ⟨by omega, by omega, by omega, by omega, by omega, by omega, by omega⟩
theorem bAm (p : aN) : mX p = some true ∨ (mX p = some false ∧ NearP p) := by
  have hf : mX p = some (decide (8 < (p.Tree.Slots.length : Int)) || decide (20 < (p.Slips.length : Int)) || decide (20 < (p.Prizes.length : Int)) || decide (40 < (p.Teams.length : Int)) || decide (40 < (p.Levies.length : Int)) || decide (40 < (p.Rates.length : Int)) || decide (60 < (p.Items.length : Int))) := by
    unfold mX
    rw [eQ, Option.bind_some, eQ, Option.bind_some, eQ, Option.bind_some, eQ, Option.bind_some, eQ, Option.bind_some, eQ, Option.bind_some]
  cases hb : (decide (8 < (p.Tree.Slots.length : Int)) || decide (20 < (p.Slips.length : Int)) || decide (20 < (p.Prizes.length : Int)) || decide (40 < (p.Teams.length : Int)) || decide (40 < (p.Levies.length : Int)) || decide (40 < (p.Rates.length : Int)) || decide (60 < (p.Items.length : Int))) with
  | true => exact .inl (by rw [hf, hb])
  | false =>
    refine .inr ⟨by rw [hf, hb], ?_⟩
    simp only [Bool.or_eq_false_iff, decide_eq_false_iff_not] at hb
    obtain ⟨⟨⟨⟨⟨⟨a, b⟩, c⟩, d⟩, e⟩, f⟩, g⟩ := hb
    exact ⟨by omega, by omega, by omega, by omega, by omega, by omega, by omega⟩
theorem bBi {p : aN} (h : Sz p) : qB p = some p := by
  obtain ⟨h1, h2, h3, h4, h5, h6, h7⟩ := h
  unfold qB
  rw [gR (by simp; omega), Option.bind_some, gR (by simp; omega), Option.bind_some, gR (by simp; omega), Option.bind_some, gR (by simp; omega), Option.bind_some, gR (by simp; omega), Option.bind_some, gR (by simp; omega), Option.bind_some, gR (by simp; omega), Option.bind_some]
  simp
end Go.Am

end
section
namespace Go.Am

theorem aYg (p : aN) : mY p = some false ∨ (mY p = some true ∧ NearP p ∧ ∃ d, GP p d) := by
  unfold mY
  rcases bAm p with h | ⟨h, hn⟩
  · exact .inl (by rw [h]; rfl)
  · rw [h, Option.bind_some, Bool.not_false, cond_true, aUk hn.sz, Option.bind_some, Option.bind_some]
    by_cases hc : tN p = 0
    · exact .inr ⟨by rw [decide_eq_true hc], hn, aSv hc⟩
    · exact .inl (by rw [decide_eq_false hc])
/-- What comes is what goes. -/
def Bal (b : aY) : Prop := b.Gross + b.Daily + b.Debt = b.Tax + b.Fines + b.Used + b.Rest
theorem Bal.add {s b : aY} (hs : Bal s) (hb : Bal b) : Bal (aAg s b) := by
  unfold Bal aAg at *
  simp only
  omega
end Go.Am

end
section
namespace Go.Am

section
variable {t : aR} {l l' : List aG} {d : List Int} (h : Good t l d) (h' : Good t l' d) (hsub : ∀ s ∈ l', s ∈ l) {must must' : List (List Int)} (hM : MustIs t must (jK d (Res l))) (hM' : MustIs t must' (jK d (Res l')))
include h h' hsub hM hM'
end
/-- The same purse with other slips, which name the same lucky losers. -/
structure aYl (o p : aN) : Prop where
  tree : o.Tree = p.Tree
  prizes : o.Prizes = p.Prizes
  daily : o.Daily = p.Daily
  sub : ∀ s ∈ o.Slips, s ∈ p.Slips
  lucky : ∀ s ∈ p.Slips, s.Kind = 5 → s ∈ o.Slips
section
variable {p o : aN} (hf : aYl o p) {d d' : List Int} (h : GP p d) (ho : GP o d')
include hf h ho
end
theorem aTk {p : aN} (h : pX p = true) {i j : Int} (h0 : 0 ≤ i) (h1 : i ≤ j) (h2 : j ≤ p.Tree.Rounds) : dK p i ≤ dK p j := by
  obtain ⟨⟨_, a2⟩, a3, _⟩ := uD h
  have hi : i.toNat < p.Prizes.length := by omega
  have hj : j.toNat < p.Prizes.length := by omega
  have e1 : dK p i = p.Prizes[i.toNat] := by unfold dK; simp [List.getD, List.getElem?_eq_getElem hi]
  have e2 : dK p j = p.Prizes[j.toNat] := by unfold dK; simp [List.getD, List.getElem?_eq_getElem hj]
  have := aBz a2 (j.toNat - i.toNat) i.toNat (by omega)
  rw [e1, e2]
  have e : i.toNat + (j.toNat - i.toNat) = j.toNat := by omega
  simp only [e] at this
  exact this
section
variable {p o : aN} (hf : aYl o p) {d : List Int} (h : GP p d) (ho : GP o d)
include hf h ho
end
end Go.Am

end
