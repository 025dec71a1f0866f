/- Plain laws, one behind the other. -/
import Derived.Test.YtoflekecpkjghaaGreatPpPlain12
import Derived.KernelRfl
section
namespace Go.Am

theorem sP {α : Type} (g : α → Int) : ∀ (l : List α) (s : Int), l.foldl (fun s x => s + g x) s = s + (l.map g).sum
  | [], s => by simp
  | x :: l, s => by rw [List.foldl_cons, sP g l, List.map_cons, List.sum_cons, Int.add_assoc]
theorem aHr {α : Type} (g : α → Int) (B : Int) : ∀ (l : List α), (∀ x ∈ l, -B ≤ g x ∧ g x ≤ B) → -(B * l.length) ≤ (l.map g).sum ∧ (l.map g).sum ≤ B * l.length
  | [], _ => by simp
  | x :: l, h => by
    have h1 := aHr g B l fun y hy => h y (List.mem_cons_of_mem _ hy)
    have h2 := h x List.mem_cons_self
    have e : B * (((x :: l).length : Nat) : Int) = B * l.length + B := by rw [List.length_cons, Int.natCast_add, Int.mul_add]; simp
    rw [List.map_cons, List.sum_cons, e]; omega
def oT (p : aR) (i : Nat) : Int := qU p i * 2 ^ (p.Tree.Rounds.toNat - 1 - i)
def aAj (p : aR) (x : Int) : Int := bif decide (x = -1) then -qU p 0 else 0
/-- All prizes of the matches. -/
def aNm (p : aR) : Int := qU p p.Tree.Rounds + ((List.range p.Tree.Rounds.toNat).map (oT p)).sum + (p.Tree.Slots.map (aAj p)).sum
theorem aWs {n : Nat} (h : n ≤ 4) : (1 : Int) ≤ 2 ^ n ∧ (2 : Int) ^ n ≤ 16 := by
  have : n = 0 ∨ n = 1 ∨ n = 2 ∨ n = 3 ∨ n = 4 := by omega
  rcases this with rfl | rfl | rfl | rfl | rfl <;> decide
section
variable {p : aR} (hz : Sz p) {d : List Int} (h : GP p d)
include h
theorem aCn {i : Nat} (hi : i < p.Tree.Rounds.toNat) : 0 ≤ oT p i ∧ oT p i ≤ 160000000 := by
  have h5 := h.good.ht.r5
  have h1 := h.good.ht.r1
  have q := (kM h.prizes (i := (i : Int)) (by omega) (by omega)).2
  have w := aWs (n := p.Tree.Rounds.toNat - 1 - i) (by omega)
  unfold oT
  have m1 := Int.mul_nonneg q.1 (show (0 : Int) ≤ 2 ^ (p.Tree.Rounds.toNat - 1 - i) by omega)
  have m2 : qU p i * 2 ^ (p.Tree.Rounds.toNat - 1 - i) ≤ 10000000 * 16 := Int.mul_le_mul q.2 w.2 (by omega) (by omega)
  omega
theorem aSw (x : Int) : -10000000 ≤ aAj p x ∧ aAj p x ≤ 10000000 := by
  have h1 := h.good.ht.r1
  have q := (kM h.prizes (i := 0) (by omega) (by omega)).2
  unfold aAj
  cases decide (x = -1) <;> simp <;> omega
theorem yF (i : Nat) : -(160000000 * 5) ≤ (((List.range p.Tree.Rounds.toNat).take i).map (oT p)).sum ∧ (((List.range p.Tree.Rounds.toNat).take i).map (oT p)).sum ≤ 160000000 * 5 := by
  have h5 := h.good.ht.r5
  have := aHr (oT p) 160000000 ((List.range p.Tree.Rounds.toNat).take i) fun x hx => by
    have := List.mem_range.1 (List.mem_of_mem_take hx)
    have := aCn h this
    omega
  have hl : ((List.range p.Tree.Rounds.toNat).take i).length ≤ 5 := by rw [List.length_take, List.length_range]; omega
  omega
theorem aFs (l : List Int) (hl : l.length ≤ 1000) : -(10000000 * 1000) ≤ (l.map (aAj p)).sum ∧ (l.map (aAj p)).sum ≤ 10000000 * 1000 := by
  have := aHr (aAj p) 10000000 l fun x _ => aSw h x
  omega
include hz
theorem aWr : pC p = some (aNm p, 0) := by
  have h5 := h.good.ht.r5
  have h1 := h.good.ht.r1
  have hs := hz.slots
  have qR := kM h.prizes (i := p.Tree.Rounds) (by omega) (by omega)
  have q0 := kM h.prizes (i := 0) (by omega) (by omega)
  unfold pC
  rw [aGy hz, Option.bind_some, aAu h, decide_eq_true rfl, Bool.not_true, cond_false, qR.1, Option.bind_some]
  have main := pH (fun k i s => mI p.Tree.Rounds p k s i) (List.range p.Tree.Rounds.toNat) (fun s i => s + oT p i) (fun s => vL s p) (qU p p.Tree.Rounds) ?_ ?_ BIG (cO (by rw [List.length_range]; omega))
  · refine Eq.trans main ?_
    rw [sP]
    unfold vL
    have rt := yF h p.Tree.Rounds.toNat
    rw [List.take_of_length_le (by rw [List.length_range]; omega)] at rt
    obtain ⟨A, hA⟩ : ∃ A, A = qU p p.Tree.Rounds + ((List.range p.Tree.Rounds.toNat).map (oT p)).sum := ⟨_, rfl⟩
    rw [← hA]
    have main2 := pH (fun k i s => mJ p.Tree.Slots (p.Tree.Slots.length : Int) p k s i) p.Tree.Slots (fun s x => s + aAj p x) (fun s => some (s, (0 : Int))) A ?_ ?_ BIG (cO (by omega))
    · refine Eq.trans main2 ?_
      rw [sP, hA]; rfl
    · intro k i hi s hs'
      have hlt : decide ((i : Int) < (p.Tree.Slots.length : Int)) = true := decide_eq_true (by omega)
      have bt := aFs h (p.Tree.Slots.take i) (by rw [List.length_take]; omega)
      rw [sP] at hs'
      simp only [mJ, hlt, cond_true, cA hi, Option.bind_some, bR (show i < 9223372036854775807 by omega)]
      unfold aAj
      cases decide (p.Tree.Slots[i] = -1) with
      | true => rw [cond_true, cond_true, q0.1, Option.bind_some, cD (by omega) (by omega)]; rfl
      | false => rw [cond_false, cond_false, Int.add_zero]
    · intro k s
      have hlt : decide ((p.Tree.Slots.length : Int) < (p.Tree.Slots.length : Int)) = false := decide_eq_false (by omega)
      simp only [mJ, hlt, cond_false]; rfl
  · intro k i hi s hs'
    have hi' : i < p.Tree.Rounds.toNat := by simpa using hi
    have hlt : decide ((i : Int) < p.Tree.Rounds) = true := decide_eq_true (by omega)
    have rt := yF h i
    have rr := aCn h hi'
    rw [sP] at hs'
    have qi := kM h.prizes (i := (i : Int)) (by omega) (by omega)
    have e1 : w64 ((w64 (p.Tree.Rounds - 1)) - (i : Int)) = ((p.Tree.Rounds.toNat - 1 - i : Nat) : Int) := by rw [cD (show -9223372036854775808 ≤ p.Tree.Rounds - 1 by omega) (by omega), cD (by omega) (by omega)]; omega
    have e2 : min (((p.Tree.Rounds.toNat - 1 - i : Nat) : Int)).toNat 64 = p.Tree.Rounds.toNat - 1 - i := by omega
    simp only [mI, hlt, cond_true, qi.1, Option.bind_some, e1, e2, bR (show i < 9223372036854775807 by omega)]
    rw [decide_eq_true (by omega)]
    show mI p.Tree.Rounds p k (w64 (s + w64 (oT p i))) _ = _
    rw [cD (n := oT p i) (by omega) (by omega), cD (by omega) (by omega), List.getElem_range]
  · intro k s
    have hlt : decide ((((List.range p.Tree.Rounds.toNat).length : Nat) : Int) < p.Tree.Rounds) = false := decide_eq_false (by rw [List.length_range]; omega)
    simp only [mI, hlt, cond_false]
theorem aZl : kK p = some (aNm p, 0) := by
  have h5 := h.good.ht.r5
  have h1 := h.good.ht.r1
  have hs := hz.slots
  have hln := h.good.ht.len
  have qR := kM h.prizes (i := p.Tree.Rounds) (by omega) (by omega)
  have q0 := kM h.prizes (i := 0) (by omega) (by omega)
  have pw : ∀ i : Nat, i < p.Tree.Rounds.toNat → ((2 ^ (p.Tree.Rounds.toNat - i) : Nat) : Int).tdiv 2 = ((2 ^ (p.Tree.Rounds.toNat - (i + 1)) : Nat) : Int) := fun i hi => by
    have e : p.Tree.Rounds.toNat - i = (p.Tree.Rounds.toNat - (i + 1)) + 1 := by omega
    rw [e, Nat.pow_succ, Int.tdiv_eq_ediv_of_nonneg (by omega)]
    omega
  unfold kK
  rw [aKc hz, Option.bind_some, aAu h, decide_eq_true rfl, Bool.not_true, cond_false]
  have main := pH (fun k i s => jV p k s ((2 ^ (p.Tree.Rounds.toNat - i.toNat) : Nat) : Int) i) (List.range p.Tree.Rounds.toNat) (fun s i => s + oT p i) (fun s => qP s p) 0 ?_ ?_ BIG (cO (by rw [List.length_range]; omega))
  · have e0 : (p.Tree.Slots.length : Int) = ((2 ^ (p.Tree.Rounds.toNat - (0 : Int).toNat) : Nat) : Int) := by rw [hln]; rfl
    rw [e0]
    refine Eq.trans main ?_
    rw [sP, Int.zero_add]
    unfold qP
    have rt := yF h p.Tree.Rounds.toNat
    rw [List.take_of_length_le (by rw [List.length_range]; omega)] at rt
    unfold aNm
    obtain ⟨A, hA⟩ : ∃ A, A = ((List.range p.Tree.Rounds.toNat).map (oT p)).sum := ⟨_, rfl⟩
    rw [← hA] at rt ⊢
    have main2 := pH (fun k i s => iT p k s i) p.Tree.Slots (fun s x => s + aAj p x) (fun s => qQ s p) A ?_ ?_ BIG (cO (by omega))
    · refine Eq.trans main2 ?_
      rw [sP]
      unfold qQ
      have bt := aFs h p.Tree.Slots (by omega)
      rw [qR.1, Option.bind_some, cD (by omega) (by omega)]
      congr 2; omega
    · intro k i hi s hs'
      have hlt : decide ((i : Int) < (p.Tree.Slots.length : Int)) = true := decide_eq_true (by omega)
      have bt := aFs h (p.Tree.Slots.take i) (by rw [List.length_take]; omega)
      rw [sP] at hs'
      simp only [iT, hlt, cond_true, cA hi, Option.bind_some, bR (show i < 9223372036854775807 by omega)]
      unfold aAj
      cases decide (p.Tree.Slots[i] = -1) with
      | true => rw [cond_true, cond_true, q0.1, Option.bind_some, cD (by omega) (by omega)]; rfl
      | false => rw [cond_false, cond_false, Int.add_zero]
    · intro k s
      have hlt : decide ((p.Tree.Slots.length : Int) < (p.Tree.Slots.length : Int)) = false := decide_eq_false (by omega)
      simp only [iT, hlt, cond_false]
  · intro k i hi s hs'
    have hi' : i < p.Tree.Rounds.toNat := by simpa using hi
    have hlt : decide ((i : Int) < p.Tree.Rounds) = true := decide_eq_true (by omega)
    have rt := yF h i
    have rr := aCn h hi'
    rw [sP] at hs'
    have qi := kM h.prizes (i := (i : Int)) (by omega) (by omega)
    have w := aWs (n := p.Tree.Rounds.toNat - (i + 1)) (by omega)
    have e3 : w64 (((2 ^ (p.Tree.Rounds.toNat - i) : Nat) : Int).tdiv 2) = ((2 ^ (p.Tree.Rounds.toNat - (i + 1)) : Nat) : Int) := by
      rw [pw i hi']
      have : ((2 ^ (p.Tree.Rounds.toNat - (i + 1)) : Nat) : Int) = (2 : Int) ^ (p.Tree.Rounds.toNat - (i + 1)) := by simp
      rw [cD (by omega) (by omega)]
    have e4 : ((2 ^ (p.Tree.Rounds.toNat - (i + 1)) : Nat) : Int) * qU p i = oT p i := by
      unfold oT
      have : p.Tree.Rounds.toNat - 1 - i = p.Tree.Rounds.toNat - (i + 1) := by omega
      rw [this, Int.mul_comm]; simp
    have ei : ((i : Nat) : Int).toNat = i := rfl
    have ei2 : (((i + 1 : Nat) : Int)).toNat = i + 1 := rfl
    simp only [jV, hlt, cond_true, qi.1, Option.bind_some, ei, ei2, e3, e4, bR (show i < 9223372036854775807 by omega)]
    rw [cD (n := oT p i) (by omega) (by omega), cD (by omega) (by omega), List.getElem_range]
  · intro k s
    have hlt : decide ((((List.range p.Tree.Rounds.toNat).length : Nat) : Int) < p.Tree.Rounds) = false := decide_eq_false (by rw [List.length_range]; omega)
    simp only [jV, hlt, cond_false]
end
section
variable {p : aR} (hz : Sz p)
include hz
theorem aYx (hc : lZ p ≠ 0) : pC p = some (0, lZ p) := by
  unfold pC
  rw [aGy hz, Option.bind_some, decide_eq_false hc, Bool.not_false, cond_true]
theorem aYd (hc : lZ p ≠ 0) : kK p = some (0, lZ p) := by
  unfold kK
  rw [aKc hz, Option.bind_some, decide_eq_false hc, Bool.not_false, cond_true]
end
end Go.Am

end
section
namespace Go.Am

def aDq : aR := (nR).getD ⟨⟨0, []⟩, [], [], 0, [], [], [], []⟩
theorem aXd : nR = some aDq := rfl
theorem aXf : lZ aDq = 0 := by kernel_rfl
theorem aTf : (fM aDq.Tree aDq.Slips).map (fun r => r.1.Slots) = some [1, 2, 3, 4] := by kernel_rfl
theorem aTg : aNm aDq = 1501 := by kernel_rfl
theorem aXe : mL aDq 22 = true := by kernel_rfl
theorem aTe : aBm aDq [1, 2, 3, 4] 22 = ⟨22, 50, 0, 0, 0, 0, 16, 48, 2⟩ := by kernel_rfl
theorem aRu : (aPo aDq [1, 2, 3, 4]).Debt = 60 := by kernel_rfl
theorem aLr : Sz aDq := ⟨by decide, by decide, by decide, by decide, by decide, by decide, by decide⟩
theorem aHt : mZ = some true := by
  obtain ⟨d, hg⟩ := aRv aXf
  have hd : d = [1, 2, 3, 4] := by
    have h1 := aTf
    rw [(aMm hg.good).1] at h1
    exact Option.some.inj h1
  subst hd
  unfold mZ
  rw [aXd, Option.bind_some, aWr aLr hg, Option.bind_some, aYu aLr hg, Option.bind_some, aZa aLr hg, Option.bind_some, aXe, cond_true]
  simp only [aTg, aTe, aRu]
  rfl
end Go.Am

end
section
namespace Go.Am

structure NearP (p : aR) : Prop where
  slots : p.Tree.Slots.length ≤ 8
  slips : p.Slips.length ≤ 20
  prizes : p.Prizes.length ≤ 20
  teams : p.Teams.length ≤ 40
  levies : p.Levies.length ≤ 40
  rates : p.Rates.length ≤ 40
  items : p.Items.length ≤ 60
theorem NearP.sz {p : aR} (h : NearP p) : Sz p := by
  obtain ⟨h1, h2, h3, h4, h5, h6, h7⟩ := h
  exact ⟨by omega, by omega, by omega, by omega, by omega, by omega, by omega⟩
theorem aYm (p : aR) : mY p = some true ∨ (mY p = some false ∧ NearP p) := by
  have hf : mY p = some (decide (8 < (p.Tree.Slots.length : Int)) || decide (20 < (p.Slips.length : Int)) || decide (20 < (p.Prizes.length : Int)) || decide (40 < (p.Teams.length : Int)) || decide (40 < (p.Levies.length : Int)) || decide (40 < (p.Rates.length : Int)) || decide (60 < (p.Items.length : Int))) := by
    unfold mY
    rw [eR, Option.bind_some, eR, Option.bind_some, eR, Option.bind_some, eR, Option.bind_some, eR, Option.bind_some, eR, Option.bind_some]
  cases hb : (decide (8 < (p.Tree.Slots.length : Int)) || decide (20 < (p.Slips.length : Int)) || decide (20 < (p.Prizes.length : Int)) || decide (40 < (p.Teams.length : Int)) || decide (40 < (p.Levies.length : Int)) || decide (40 < (p.Rates.length : Int)) || decide (60 < (p.Items.length : Int))) with
  | true => exact .inl (by rw [hf, hb])
  | false =>
    refine .inr ⟨by rw [hf, hb], ?_⟩
    simp only [Bool.or_eq_false_iff, decide_eq_false_iff_not] at hb
    obtain ⟨⟨⟨⟨⟨⟨a, b⟩, c⟩, d⟩, e⟩, f⟩, g⟩ := hb
    exact ⟨by omega, by omega, by omega, by omega, by omega, by omega, by omega⟩
theorem aZk {p : aR} (h : Sz p) : qO p = some p := by
  obtain ⟨h1, h2, h3, h4, h5, h6, h7⟩ := h
  unfold qO
  rw [iD (by simp; omega), Option.bind_some, iD (by simp; omega), Option.bind_some, iD (by simp; omega), Option.bind_some, iD (by simp; omega), Option.bind_some, iD (by simp; omega), Option.bind_some, iD (by simp; omega), Option.bind_some, iD (by simp; omega), Option.bind_some]
  simp
end Go.Am

end
