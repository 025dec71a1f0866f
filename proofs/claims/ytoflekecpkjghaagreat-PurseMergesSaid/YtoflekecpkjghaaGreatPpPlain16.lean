/- Plain laws, one behind the other. -/
import Derived.Test.YtoflekecpkjghaaGreatPpPlain12
import Derived.KernelRfl
section
namespace Go.Am

theorem aCb {α : Type} (g : α → Int) : ∀ (l : List α) (s : Int), l.foldl (fun s x => s + g x) s = s + (l.map g).sum
  | [], s => by simp
  | x :: l, s => by rw [List.foldl_cons, aCb g l, List.map_cons, List.sum_cons, Int.add_assoc]
theorem aJj {α : Type} (g : α → Int) (B : Int) : ∀ (l : List α), (∀ x ∈ l, -B ≤ g x ∧ g x ≤ B) → -(B * l.length) ≤ (l.map g).sum ∧ (l.map g).sum ≤ B * l.length
  | [], _ => by simp
  | x :: l, h => by
    have h1 := aJj g B l fun y hy => h y (List.mem_cons_of_mem _ hy)
    have h2 := h x List.mem_cons_self
    have e : B * (((x :: l).length : Nat) : Int) = B * l.length + B := by rw [List.length_cons, Int.natCast_add, Int.mul_add]; simp
    rw [List.map_cons, List.sum_cons, e]; omega
def vL (p : aM) (i : Nat) : Int := sT p i * 2 ^ (p.Tree.Rounds.toNat - 1 - i)
def aFe (p : aM) (x : Int) : Int := bif decide (x = -1) then -sT p 0 else 0
/-- All prizes of the matches. -/
def aYs (p : aM) : Int := sT p p.Tree.Rounds + ((List.range p.Tree.Rounds.toNat).map (vL p)).sum + (p.Tree.Slots.map (aFe p)).sum
theorem bBq {n : Nat} (h : n ≤ 4) : (1 : Int) ≤ 2 ^ n ∧ (2 : Int) ^ n ≤ 16 := by
  have : n = 0 ∨ n = 1 ∨ n = 2 ∨ n = 3 ∨ n = 4 := by omega
  rcases this with rfl | rfl | rfl | rfl | rfl <;> decide
section
variable {p : aM} (hz : Sz p) {d : List Int} (h : GP p d)
include h
theorem aKl {i : Nat} (hi : i < p.Tree.Rounds.toNat) : 0 ≤ vL p i ∧ vL p i ≤ 160000000 := by
  have h5 := h.good.ht.r5
  have h1 := h.good.ht.r1
  have q := (rR h.prizes (i := (i : Int)) (by omega) (by omega)).2
  have w := bBq (n := p.Tree.Rounds.toNat - 1 - i) (by omega)
  unfold vL
  have m1 := Int.mul_nonneg q.1 (show (0 : Int) ≤ 2 ^ (p.Tree.Rounds.toNat - 1 - i) by omega)
  have m2 : sT p i * 2 ^ (p.Tree.Rounds.toNat - 1 - i) ≤ 10000000 * 16 := Int.mul_le_mul q.2 w.2 (by omega) (by omega)
  omega
theorem aUt (x : Int) : -10000000 ≤ aFe p x ∧ aFe p x ≤ 10000000 := by
  have h1 := h.good.ht.r1
  have q := (rR h.prizes (i := 0) (by omega) (by omega)).2
  unfold aFe
  cases decide (x = -1) <;> simp <;> omega
theorem aKm (i : Nat) : -(160000000 * 5) ≤ (((List.range p.Tree.Rounds.toNat).take i).map (vL p)).sum ∧ (((List.range p.Tree.Rounds.toNat).take i).map (vL p)).sum ≤ 160000000 * 5 := by
  have h5 := h.good.ht.r5
  have := aJj (vL p) 160000000 ((List.range p.Tree.Rounds.toNat).take i) fun x hx => by
    have := List.mem_range.1 (List.mem_of_mem_take hx)
    have := aKl h this
    omega
  have hl : ((List.range p.Tree.Rounds.toNat).take i).length ≤ 5 := by rw [List.length_take, List.length_range]; omega
  omega
theorem aUu (l : List Int) (hl : l.length ≤ 1000) : -(10000000 * 1000) ≤ (l.map (aFe p)).sum ∧ (l.map (aFe p)).sum ≤ 10000000 * 1000 := by
  have := aJj (aFe p) 10000000 l fun x _ => aUt h x
  omega
include hz
theorem bBp : yD p = some (aYs p, 0) := by
  have h5 := h.good.ht.r5
  have h1 := h.good.ht.r1
  have hs := hz.slots
  have qR := rR h.prizes (i := p.Tree.Rounds) (by omega) (by omega)
  have q0 := rR h.prizes (i := 0) (by omega) (by omega)
  unfold yD
  rw [aIs hz, Option.bind_some, aLb h, decide_eq_true rfl, Bool.not_true, cond_false, qR.1, Option.bind_some]
  have main := rN (fun k i s => nA p.Tree.Rounds p k s i) (List.range p.Tree.Rounds.toNat) (fun s i => s + vL p i) (fun s => wM s p) (sT p p.Tree.Rounds) ?_ ?_ BIG (cR (by rw [List.length_range]; omega))
  · refine Eq.trans main ?_
    rw [aCb]
    unfold wM
    have rt := aKm h p.Tree.Rounds.toNat
    rw [List.take_of_length_le (by rw [List.length_range]; omega)] at rt
    obtain ⟨A, hA⟩ : ∃ A, A = sT p p.Tree.Rounds + ((List.range p.Tree.Rounds.toNat).map (vL p)).sum := ⟨_, rfl⟩
    rw [← hA]
    have main2 := rN (fun k i s => nB p.Tree.Slots (p.Tree.Slots.length : Int) p k s i) p.Tree.Slots (fun s x => s + aFe p x) (fun s => some (s, (0 : Int))) A ?_ ?_ BIG (cR (by omega))
    · refine Eq.trans main2 ?_
      rw [aCb, hA]; rfl
    · intro k i hi s hs'
      have hlt : decide ((i : Int) < (p.Tree.Slots.length : Int)) = true := decide_eq_true (by omega)
      have bt := aUu h (p.Tree.Slots.take i) (by rw [List.length_take]; omega)
      rw [aCb] at hs'
      simp only [nB, hlt, cond_true, bT hi, Option.bind_some, bN (show i < 9223372036854775807 by omega)]
      unfold aFe
      cases decide (p.Tree.Slots[i] = -1) with
      | true => rw [cond_true, cond_true, q0.1, Option.bind_some, cB (by omega) (by omega)]; rfl
      | false => rw [cond_false, cond_false, Int.add_zero]
    · intro k s
      have hlt : decide ((p.Tree.Slots.length : Int) < (p.Tree.Slots.length : Int)) = false := decide_eq_false (by omega)
      simp only [nB, hlt, cond_false]; rfl
  · intro k i hi s hs'
    have hi' : i < p.Tree.Rounds.toNat := by simpa using hi
    have hlt : decide ((i : Int) < p.Tree.Rounds) = true := decide_eq_true (by omega)
    have rt := aKm h i
    have rr := aKl h hi'
    rw [aCb] at hs'
    have qi := rR h.prizes (i := (i : Int)) (by omega) (by omega)
    have e1 : w64 ((w64 (p.Tree.Rounds - 1)) - (i : Int)) = ((p.Tree.Rounds.toNat - 1 - i : Nat) : Int) := by rw [cB (show -9223372036854775808 ≤ p.Tree.Rounds - 1 by omega) (by omega), cB (by omega) (by omega)]; omega
    have e2 : min (((p.Tree.Rounds.toNat - 1 - i : Nat) : Int)).toNat 64 = p.Tree.Rounds.toNat - 1 - i := by omega
    simp only [nA, hlt, cond_true, qi.1, Option.bind_some, e1, e2, bN (show i < 9223372036854775807 by omega)]
    rw [decide_eq_true (by omega)]
    show nA p.Tree.Rounds p k (w64 (s + w64 (vL p i))) _ = _
    rw [cB (n := vL p i) (by omega) (by omega), cB (by omega) (by omega), List.getElem_range]
  · intro k s
    have hlt : decide ((((List.range p.Tree.Rounds.toNat).length : Nat) : Int) < p.Tree.Rounds) = false := decide_eq_false (by rw [List.length_range]; omega)
    simp only [nA, hlt, cond_false]
end
section
variable {p : aM} (hz : Sz p)
include hz
end
end Go.Am

end
section
namespace Go.Am

def aFk : aM := (oJ).getD ⟨⟨0, []⟩, [], [], 0, [], [], [], []⟩
theorem aZe : oJ = some aFk := rfl
theorem aZg : kZ aFk = 0 := by kernel_rfl
theorem aVd : (fQ aFk.Tree aFk.Slips).map (fun r => r.1.Slots) = some [1, 2, 3, 4] := by kernel_rfl
theorem aVe : aYs aFk = 1501 := by kernel_rfl
theorem aZf : pH aFk 22 = true := by kernel_rfl
theorem aVc : aDa aFk [1, 2, 3, 4] 22 = ⟨22, 50, 0, 0, 0, 0, 16, 48, 2⟩ := by kernel_rfl
theorem aTo : (aRd aFk [1, 2, 3, 4]).Debt = 60 := by kernel_rfl
theorem aNj : Sz aFk := ⟨by decide, by decide, by decide, by decide, by decide, by decide, by decide⟩
theorem aCt : nS = some true := by
  obtain ⟨d, hg⟩ := aTp aZg
  have hd : d = [1, 2, 3, 4] := by
    have h1 := aVd
    rw [(aOe hg.good).1] at h1
    exact Option.some.inj h1
  subst hd
  unfold nS
  rw [aZe, Option.bind_some, bBp aNj hg, Option.bind_some, bAw aNj hg, Option.bind_some, bBc aNj hg, Option.bind_some, aZf, cond_true]
  simp only [aVe, aVc, aTo]
  rfl
end Go.Am

end
section
namespace Go.Am

structure NearP (p : aM) : Prop where
  slots : p.Tree.Slots.length ≤ 8
  slips : p.Slips.length ≤ 20
  prizes : p.Prizes.length ≤ 20
  teams : p.Teams.length ≤ 40
  levies : p.Levies.length ≤ 40
  rates : p.Rates.length ≤ 40
  items : p.Items.length ≤ 60
theorem NearP.sz {p : aM} (h : NearP p) : Sz p := by
  obtain ⟨h1, h2, h3, h4, h5, h6, h7⟩ := h
  exact ⟨by omega, by omega, by omega, by omega, by omega, by omega, by omega⟩
theorem bAo (p : aM) : nR p = some true ∨ (nR p = some false ∧ NearP p) := by
  have hf : nR p = some (decide (8 < (p.Tree.Slots.length : Int)) || decide (20 < (p.Slips.length : Int)) || decide (20 < (p.Prizes.length : Int)) || decide (40 < (p.Teams.length : Int)) || decide (40 < (p.Levies.length : Int)) || decide (40 < (p.Rates.length : Int)) || decide (60 < (p.Items.length : Int))) := by
    unfold nR
    rw [eJ, Option.bind_some, eJ, Option.bind_some, eJ, Option.bind_some, eJ, Option.bind_some, eJ, Option.bind_some, eJ, Option.bind_some]
  cases hb : (decide (8 < (p.Tree.Slots.length : Int)) || decide (20 < (p.Slips.length : Int)) || decide (20 < (p.Prizes.length : Int)) || decide (40 < (p.Teams.length : Int)) || decide (40 < (p.Levies.length : Int)) || decide (40 < (p.Rates.length : Int)) || decide (60 < (p.Items.length : Int))) with
  | true => exact .inl (by rw [hf, hb])
  | false =>
    refine .inr ⟨by rw [hf, hb], ?_⟩
    simp only [Bool.or_eq_false_iff, decide_eq_false_iff_not] at hb
    obtain ⟨⟨⟨⟨⟨⟨a, b⟩, c⟩, d⟩, e⟩, f⟩, g⟩ := hb
    exact ⟨by omega, by omega, by omega, by omega, by omega, by omega, by omega⟩
theorem aYm {p : aM} (h : Sz p) : kS p = some p := by
  obtain ⟨h1, h2, h3, h4, h5, h6, h7⟩ := h
  unfold kS
  rw [eK (by simp; omega), Option.bind_some, eK (by simp; omega), Option.bind_some, eK (by simp; omega), Option.bind_some, eK (by simp; omega), Option.bind_some, eK (by simp; omega), Option.bind_some, eK (by simp; omega), Option.bind_some, eK (by simp; omega), Option.bind_some]
  simp
/-- A loop that compares a row with itself. -/
theorem yW {α T : Type} [DecidableEq α] (F : Nat → Int → T) (l : List α) (bad K : T) (h1 : ∀ k i (hi : i < l.length), F (k + 1) (i : Nat) = bif !decide (l[i] = l[i]) then bad else F k ((i + 1 : Nat) : Int)) (h2 : ∀ k, F (k + 1) (l.length : Nat) = K) (hb : l.length ≤ 1000000) : F BIG 0 = K := by
  have := pE F l (fun _ => true) bad K (fun k i hi => by rw [h1 k i hi, decide_eq_true rfl]; rfl) h2 hb
  rw [this]
  have : l.all (fun _ => true) = true := by simp
  rw [this, cond_true]
theorem aUi (l : List aG) (hl : l.length ≤ 1000) : mL l l = some true := by
  unfold mL
  rw [decide_eq_true rfl, Bool.not_true, cond_false]
  refine yW (fun k i => gZ l l k i) l (some false) _ (fun k i hi => ?_) (fun k => ?_) (by omega)
  · have hlt : decide ((i : Int) < (l.length : Int)) = true := decide_eq_true (by omega)
    rw [gZ, hlt, cond_true, bT hi, Option.bind_some, Option.bind_some, bN (by omega)]
  · have hlt : decide ((l.length : Int) < (l.length : Int)) = false := decide_eq_false (by omega)
    rw [gZ, hlt, cond_false]; rfl
theorem bBt {p : aM} (h : Sz p) : rF p p = some true := by
  obtain ⟨h1, h2, h3, h4, h5, h6, h7⟩ := h
  have d0 : ∀ n : Int, decide (n = n) = true := fun n => decide_eq_true rfl
  unfold rF
  rw [d0, d0, d0, d0, d0, d0, d0, d0, aUi _ h7]
  show iZ p p BIG 0 = _
  have s0 := yW (fun k i => iZ p p k i) p.Tree.Slots (some false) (rG p p) (fun k i hi => by
    have hlt : decide ((i : Int) < (p.Tree.Slots.length : Int)) = true := decide_eq_true (by omega)
    rw [iZ, hlt, cond_true, bT hi, Option.bind_some, Option.bind_some, bN (by omega)]) (fun k => by
    have hlt : decide ((p.Tree.Slots.length : Int) < (p.Tree.Slots.length : Int)) = false := decide_eq_false (by omega)
    rw [iZ, hlt, cond_false]) (by omega)
  refine Eq.trans s0 ?_
  unfold rG
  have s2 := yW (fun k i => jY p p k i) p.Slips (some false) (rH p p) (fun k i hi => by
    have hlt : decide ((i : Int) < (p.Slips.length : Int)) = true := decide_eq_true (by omega)
    rw [jY, hlt, cond_true, bT hi, Option.bind_some, Option.bind_some, bN (by omega)]) (fun k => by
    have hlt : decide ((p.Slips.length : Int) < (p.Slips.length : Int)) = false := decide_eq_false (by omega)
    rw [jY, hlt, cond_false]) (by omega)
  refine Eq.trans s2 ?_
  unfold rH
  have s4 := yW (fun k i => jZ p p k i) p.Prizes (some false) (rI p p) (fun k i hi => by
    have hlt : decide ((i : Int) < (p.Prizes.length : Int)) = true := decide_eq_true (by omega)
    rw [jZ, hlt, cond_true, bT hi, Option.bind_some, Option.bind_some, bN (by omega)]) (fun k => by
    have hlt : decide ((p.Prizes.length : Int) < (p.Prizes.length : Int)) = false := decide_eq_false (by omega)
    rw [jZ, hlt, cond_false]) (by omega)
  refine Eq.trans s4 ?_
  unfold rI
  have s6 := yW (fun k i => kA p p k i) p.Teams (some false) (rJ p p) (fun k i hi => by
    have hlt : decide ((i : Int) < (p.Teams.length : Int)) = true := decide_eq_true (by omega)
    rw [kA, hlt, cond_true, bT hi, Option.bind_some, Option.bind_some, bN (by omega)]) (fun k => by
    have hlt : decide ((p.Teams.length : Int) < (p.Teams.length : Int)) = false := decide_eq_false (by omega)
    rw [kA, hlt, cond_false]) (by omega)
  refine Eq.trans s6 ?_
  unfold rJ
  have s8 := yW (fun k i => kB p p k i) p.Levies (some false) (rK p p) (fun k i hi => by
    have hlt : decide ((i : Int) < (p.Levies.length : Int)) = true := decide_eq_true (by omega)
    rw [kB, hlt, cond_true, bT hi, Option.bind_some, Option.bind_some, bN (by omega)]) (fun k => by
    have hlt : decide ((p.Levies.length : Int) < (p.Levies.length : Int)) = false := decide_eq_false (by omega)
    rw [kB, hlt, cond_false]) (by omega)
  refine Eq.trans s8 ?_
  unfold rK
  refine yW (fun k i => jQ p p k i) p.Rates (some false) (some true) (fun k i hi => by
    have hlt : decide ((i : Int) < (p.Rates.length : Int)) = true := decide_eq_true (by omega)
    rw [jQ, hlt, cond_true, bT hi, Option.bind_some, Option.bind_some, bN (by omega)]) (fun k => by
    have hlt : decide ((p.Rates.length : Int) < (p.Rates.length : Int)) = false := decide_eq_false (by omega)
    rw [jQ, hlt, cond_false]; rfl) (by omega)
end Go.Am

end
section
namespace Go.Am

theorem aVh (n : Int) (h0 : 0 ≤ n) (h1 : n ≤ 100000) : mR n = some [] := by
  unfold mR
  have w0 : w64 (0 - 0) = 0 := by decide
  have w1 : w64 (n - 0) = n := by rw [Int.sub_zero, cB (by omega) (by omega)]
  rw [decide_eq_false (by omega), cond_false, w0, w1]
  by_cases h : 0 < n
  · rw [decide_eq_true h, cond_true, decide_eq_true (show n * ((40 : Nat) : Int) ≤ 140737488355328 by omega)]; rfl
  · rw [decide_eq_false h]; rfl
theorem aVg (n : Int) (h0 : 0 ≤ n) (h1 : n ≤ 100000) : mQ n = some [] := by
  unfold mQ
  have w0 : w64 (0 - 0) = 0 := by decide
  have w1 : w64 (n - 0) = n := by rw [Int.sub_zero, cB (by omega) (by omega)]
  rw [decide_eq_false (by omega), cond_false, w0, w1]
  by_cases h : 0 < n
  · rw [decide_eq_true h, cond_true, decide_eq_true (show n * ((32 : Nat) : Int) ≤ 140737488355328 by omega)]; rfl
  · rw [decide_eq_false h]; rfl
theorem aRo (a b : List aF) (ha : a.length ≤ 1000) (hb : b.length ≤ 1000) : lF [a, b] = some (a ++ b) := by
  have i0 : idx [a, b] 0 = some a := rfl
  have i1 : idx [a, b] 1 = some b := rfl
  have w1 : w64 ((0 : Int) + 1) = 1 := by decide
  have w2 : w64 ((1 : Int) + 1) = 2 := by decide
  have wa : w64 ((0 : Int) + (a.length : Int)) = a.length := by rw [Int.zero_add]; exact cB (by omega) (by omega)
  have wb : w64 ((a.length : Int) + (b.length : Int)) = (a.length : Int) + b.length := cB (by omega) (by omega)
  have d0 : decide ((0 : Int) < (([a, b].length : Nat) : Int)) = true := rfl
  have d1 : decide ((1 : Int) < (([a, b].length : Nat) : Int)) = true := rfl
  have d2 : decide ((2 : Int) < (([a, b].length : Nat) : Int)) = false := rfl
  obtain ⟨k, hk⟩ : ∃ k, BIG = k + 1 + 1 + 1 := ⟨BIG - 3, rfl⟩
  unfold lF
  rw [hk, gB, d0, cond_true, i0, Option.bind_some, wa, decide_eq_false (by omega), cond_false, w1, gB, d1, cond_true, i1, Option.bind_some, wb, decide_eq_false (by omega), cond_false, w2, gB, d2, cond_false]
  unfold qE
  rw [aVh _ (by omega) (by omega), Option.bind_some, hk, gC, d0, cond_true, i0, Option.bind_some, eK (by simp; omega), Option.bind_some, w1, gC, d1, cond_true, i1, Option.bind_some, eK (by simp; omega), Option.bind_some, w2, gC, d2, cond_false]
  rfl
theorem aRn (a b : List aG) (ha : a.length ≤ 1000) (hb : b.length ≤ 1000) : lE [a, b] = some (a ++ b) := by
  have i0 : idx [a, b] 0 = some a := rfl
  have i1 : idx [a, b] 1 = some b := rfl
  have w1 : w64 ((0 : Int) + 1) = 1 := by decide
  have w2 : w64 ((1 : Int) + 1) = 2 := by decide
  have wa : w64 ((0 : Int) + (a.length : Int)) = a.length := by rw [Int.zero_add]; exact cB (by omega) (by omega)
  have wb : w64 ((a.length : Int) + (b.length : Int)) = (a.length : Int) + b.length := cB (by omega) (by omega)
  have d0 : decide ((0 : Int) < (([a, b].length : Nat) : Int)) = true := rfl
  have d1 : decide ((1 : Int) < (([a, b].length : Nat) : Int)) = true := rfl
  have d2 : decide ((2 : Int) < (([a, b].length : Nat) : Int)) = false := rfl
  obtain ⟨k, hk⟩ : ∃ k, BIG = k + 1 + 1 + 1 := ⟨BIG - 3, rfl⟩
  unfold lE
  rw [hk, fZ, d0, cond_true, i0, Option.bind_some, wa, decide_eq_false (by omega), cond_false, w1, fZ, d1, cond_true, i1, Option.bind_some, wb, decide_eq_false (by omega), cond_false, w2, fZ, d2, cond_false]
  unfold qD
  rw [aVg _ (by omega) (by omega), Option.bind_some, hk, gA, d0, cond_true, i0, Option.bind_some, eK (by simp; omega), Option.bind_some, w1, gA, d1, cond_true, i1, Option.bind_some, eK (by simp; omega), Option.bind_some, w2, gA, d2, cond_false]
  rfl
/-- A purse with more slips and items. -/
def tR (p : aM) (s : List aF) (x : List aG) : aM := ⟨p.Tree, p.Slips ++ s, p.Prizes, p.Daily, p.Teams, p.Levies, p.Rates, p.Items ++ x⟩
def bBo (p : aM) : aM := ⟨p.Tree, p.Slips, p.Prizes, p.Daily, p.Teams, p.Levies, p.Rates, gJ p⟩
def noP : aM := ⟨⟨0, []⟩, [], [], 0, [], [], [], []⟩
theorem aVt : Sz noP := ⟨by decide, by decide, by decide, by decide, by decide, by decide, by decide⟩
def aEp (p : aM) (s : List aF) (x : List aG) : aM × Int :=
  bif decide (kZ p = 0) then bif decide (kZ (tR p s x) = 0) then (bBo (tR p s x), 0) else (noP, kZ (tR p s x)) else (noP, kZ p)
section
variable {p : aM} (hz : Sz p) {s : List aF} {x : List aG} (hm : Sz (tR p s x))
include hz hm
omit hz in
theorem aXp : Sz (aEp p s x).1 := by
  unfold aEp
  by_cases h0 : kZ p = 0
  · rw [decide_eq_true h0, cond_true]
    by_cases h1 : kZ (tR p s x) = 0
    · rw [decide_eq_true h1, cond_true]
      obtain ⟨d, hg⟩ := aTp h1
      have hl := aAb hg
      obtain ⟨a1, a2, a3, a4, a5, a6, a7⟩ := hm
      exact ⟨a1, a2, a3, a4, a5, a6, by show (gJ _).length ≤ 1000; omega⟩
    · rw [decide_eq_false h1]; exact aVt
  · rw [decide_eq_false h0]; exact aVt
theorem bAz : wG p s x = some (aEp p s x) := by
  have b1 := hz.slots
  have b2 := hz.slips
  have b3 := hz.prizes
  have b4 := hz.teams
  have b5 := hz.levies
  have b6 := hz.rates
  have b7 := hz.items
  have c2 := hm.slips
  have c7 := hm.items
  simp only [tR, List.length_append] at c2 c7
  unfold wG aEp
  rw [aIs hz, Option.bind_some]
  by_cases h0 : kZ p = 0
  · rw [decide_eq_true h0, Bool.not_true, cond_false, cond_true]
    unfold slices_Clone_int pD pB pC
    rw [eK (by simp; omega), Option.bind_some, Option.bind_some, aRo _ _ (by omega) (by omega), Option.bind_some, aRn _ _ (by omega) (by omega), Option.bind_some, eK (by simp; omega), Option.bind_some, Option.bind_some, eK (by simp; omega), Option.bind_some, Option.bind_some, eK (by simp; omega), Option.bind_some, Option.bind_some, eK (by simp; omega), Option.bind_some, Option.bind_some]
    simp only [List.nil_append]
    have hck := aIs hm
    unfold tR at hck
    rw [hck, Option.bind_some]
    show (bif !decide (kZ (tR p s x) = 0) then _ else _) = _
    by_cases h1 : kZ (tR p s x) = 0
    · rw [decide_eq_true h1, Bool.not_true, cond_false, cond_true]
      obtain ⟨d, hg⟩ := aTp h1
      have ho := aYr hg
      unfold tR at ho
      rw [ho, Option.bind_some]; rfl
    · rw [decide_eq_false h1, Bool.not_false, cond_true, cond_false]; rfl
  · rw [decide_eq_false h0, Bool.not_false, cond_true, cond_false]; rfl
theorem bAd : qQ p s x = some (aEp p s x) := by
  have b2 := hz.slips
  have b7 := hz.items
  have c2 := hm.slips
  have c7 := hm.items
  simp only [tR, List.length_append] at c2 c7
  unfold qQ aEp
  rw [aUy hz, Option.bind_some]
  by_cases h0 : kZ p = 0
  · rw [decide_eq_true h0, Bool.not_true, cond_false, cond_true, aYm hz, Option.bind_some, eK (by omega), Option.bind_some, eK (by omega), Option.bind_some]
    have hck := aUy hm
    unfold tR at hck
    rw [hck, Option.bind_some]
    show (bif !decide (kZ (tR p s x) = 0) then _ else _) = _
    by_cases h1 : kZ (tR p s x) = 0
    · rw [decide_eq_true h1, Bool.not_true, cond_false, cond_true, aYz _ (by simp; omega), Option.bind_some]; rfl
    · rw [decide_eq_false h1, Bool.not_false, cond_true, cond_false]; rfl
  · rw [decide_eq_false h0, Bool.not_false, cond_true, cond_false]; rfl
end
end Go.Am

end
