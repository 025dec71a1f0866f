/- Plain laws, one behind the other. -/
import Derived.Test.YtoflekecpkjghaaPpWorks
section
namespace Go.Am

structure NearP (p : aN) : Prop where
  slots : p.Tree.Slots.length ≤ 8
  slips : p.Slips.length ≤ 20
  prizes : p.Prizes.length ≤ 20
  teams : p.Teams.length ≤ 40
  levies : p.Levies.length ≤ 40
  rates : p.Rates.length ≤ 40
  items : p.Items.length ≤ 60
theorem NearP.sz {p : aN} (h : NearP p) : Sz p := by
  obtain ⟨h1, h2, h3, h4, h5, h6, h7⟩ := h
  exact ⟨by omega, by omega, by omega, by omega, by omega, by omega, by omega⟩
theorem aYv (p : aN) : mQ p = some true ∨ (mQ p = some false ∧ NearP p) := by
  have hf : mQ p = some (decide (8 < (p.Tree.Slots.length : Int)) || decide (20 < (p.Slips.length : Int)) || decide (20 < (p.Prizes.length : Int)) || decide (40 < (p.Teams.length : Int)) || decide (40 < (p.Levies.length : Int)) || decide (40 < (p.Rates.length : Int)) || decide (60 < (p.Items.length : Int))) := by
    unfold mQ
    rw [eO, Option.bind_some, eO, Option.bind_some, eO, Option.bind_some, eO, Option.bind_some, eO, Option.bind_some, eO, Option.bind_some]
  cases hb : (decide (8 < (p.Tree.Slots.length : Int)) || decide (20 < (p.Slips.length : Int)) || decide (20 < (p.Prizes.length : Int)) || decide (40 < (p.Teams.length : Int)) || decide (40 < (p.Levies.length : Int)) || decide (40 < (p.Rates.length : Int)) || decide (60 < (p.Items.length : Int))) with
  | true => exact .inl (by rw [hf, hb])
  | false =>
    refine .inr ⟨by rw [hf, hb], ?_⟩
    simp only [Bool.or_eq_false_iff, decide_eq_false_iff_not] at hb
    obtain ⟨⟨⟨⟨⟨⟨a, b⟩, c⟩, d⟩, e⟩, f⟩, g⟩ := hb
    exact ⟨by omega, by omega, by omega, by omega, by omega, by omega, by omega⟩
theorem aZs {p : aN} (h : Sz p) : pW p = some p := by
  obtain ⟨h1, h2, h3, h4, h5, h6, h7⟩ := h
  unfold pW
  rw [gQ (by simp; omega), Option.bind_some, gQ (by simp; omega), Option.bind_some, gQ (by simp; omega), Option.bind_some, gQ (by simp; omega), Option.bind_some, gQ (by simp; omega), Option.bind_some, gQ (by simp; omega), Option.bind_some, gQ (by simp; omega), Option.bind_some]
  simp
end Go.Am

end
section
namespace Go.Am

theorem aWw (p : aN) : mR p = some false ∨ (mR p = some true ∧ NearP p ∧ ∃ d, GP p d) := by
  unfold mR
  rcases aYv p with h | ⟨h, hn⟩
  · exact .inl (by rw [h]; rfl)
  · rw [h, Option.bind_some, Bool.not_false, cond_true, aTj hn.sz, Option.bind_some, Option.bind_some]
    by_cases hc : tG p = 0
    · exact .inr ⟨by rw [decide_eq_true hc], hn, aRx hc⟩
    · exact .inl (by rw [decide_eq_false hc])
/-- What comes is what goes. -/
def Bal (b : aZ) : Prop := b.Gross + b.Daily + b.Debt = b.Tax + b.Fines + b.Used + b.Rest
theorem Bal.add {s b : aZ} (hs : Bal s) (hb : Bal b) : Bal (aBx s b) := by
  unfold Bal aBx at *
  simp only
  omega
end Go.Am

end
section
namespace Go.Am

theorem aLz {d : List Int} {D D' : aF → Prop} (h : ∀ x, D x → D' x) (m : aG) (v : Int) : jI d D m v → jI d D' m v := by
  rintro (hb | ⟨x, hx, hc⟩)
  · exact .inl hb
  · exact .inr ⟨x, h x hx, hc⟩
theorem aTz {n m k : Nat} (hn : n ≤ k) (h : ∀ r, r < k → r < n → r < m) : n ≤ m := by
  refine Nat.le_of_not_lt fun hlt => ?_
  have := h m (by omega) hlt
  omega
theorem aTr {t : aR} {l l' : List aF} {d d' : List Int} (h : Good t l d) (h' : Good t l' d') (hlk : ∀ x : aF, x.Kind = 5 → (x ∈ l ↔ x ∈ l')) : d' = d := by
  have h1 := h.agr.1
  have h2 := h'.agr.1
  rw [aKw hlk, h2] at h1
  exact Option.some.inj h1
section
variable {t : aR} {l l' : List aF} {d : List Int} (h : Good t l d) (h' : Good t l' d) (hsub : ∀ s ∈ l', s ∈ l) {must must' : List (List Int)} (hM : MustIs t must (jI d (Res l))) (hM' : MustIs t must' (jI d (Res l')))
include h h' hsub hM hM'
theorem aSd {a : Nat} (ha : a < d.length) : yJ d must' a t ≤ yJ d must a t := by
  refine aTz (xW _ _) fun r hr hlt => (aOl h.ht h.dok hM ha hr).2 fun q hq => ?_
  exact aLz (fun x hx => ⟨hsub x hx.1, hx.2⟩) _ _ ((aOl h'.ht h'.dok hM' ha hr).1 hlt q hq)
theorem aUe {a : Nat} (ha : a < d.length) : aBl d must a t ≤ aBl d must' a t := by
  refine aTz (xW _ _) fun r hr hlt => (aRd h'.ht h'.dok hM' ha hr).2 fun m v w hP hc => ?_
  exact (aRd h.ht h.dok hM ha hr).1 hlt m v w (aLz (fun x hx => ⟨hsub x hx.1, hx.2⟩) _ _ hP) hc
theorem aOz (n : Int) : (kA t d must' n).2 = (kA t d must n).2 ∧ (kA t d must' n).1.Low ≤ (kA t d must n).1.Low ∧ (kA t d must n).1.High ≤ (kA t d must' n).1.High := by
  unfold kA
  by_cases hw : wi n 0 999 = true
  · rw [if_pos hw, if_pos hw]
    rcases aCh d n with ⟨h1, _⟩ | ⟨a, h1, ha, he⟩
    · rw [h1]; exact ⟨rfl, Int.le_refl _, Int.le_refl _⟩
    · have hneg : ¬ ((a : Int) < 0) := by omega
      rw [h1, if_neg hneg, if_neg hneg, Int.toNat_natCast]
      have h2 := aSd h h' hsub hM hM' ha
      have h3 := aUe h h' hsub hM hM' ha
      unfold kA.leftFrom kA.mostFrom
      simp only
      exact ⟨trivial, by omega, by omega⟩
  · rw [if_neg hw, if_neg hw]
    exact ⟨rfl, Int.le_refl _, Int.le_refl _⟩
end
/-- The same purse with other slips, which name the same lucky losers. -/
structure aRl (o p : aN) : Prop where
  tree : o.Tree = p.Tree
  prizes : o.Prizes = p.Prizes
  daily : o.Daily = p.Daily
  sub : ∀ s ∈ o.Slips, s ∈ p.Slips
  lucky : ∀ s ∈ p.Slips, s.Kind = 5 → s ∈ o.Slips
section
variable {p o : aN} (hf : aRl o p) {d d' : List Int} (h : GP p d) (ho : GP o d')
include hf h ho
theorem aKa : d' = d := by
  have hg := ho.good
  rw [hf.tree] at hg
  exact aTr h.good hg fun x hk => ⟨fun hx => hf.lucky x hx hk, hf.sub x⟩
theorem aSk (n : Int) : (mL o d n).2 = (mL p d n).2 ∧ (mL o d n).1.Low ≤ (mL p d n).1.Low ∧ (mL p d n).1.High ≤ (mL o d n).1.High := by
  have hd := aKa hf h ho
  subst hd
  have hg := ho.good
  have h2 := (aBm hg).2
  unfold mL
  rw [hf.tree] at hg h2 ⊢
  exact aOz h.good hg hf.sub (aBm h.good).2 h2 n
end
theorem aKx {p : aN} (h : pQ p = true) {i j : Int} (h0 : 0 ≤ i) (h1 : i ≤ j) (h2 : j ≤ p.Tree.Rounds) : jW p i ≤ jW p j := by
  obtain ⟨⟨_, a2⟩, a3, _⟩ := tV h
  have hi : i.toNat < p.Prizes.length := by omega
  have hj : j.toNat < p.Prizes.length := by omega
  have e1 : jW p i = p.Prizes[i.toNat] := by unfold jW; simp [List.getD, List.getElem?_eq_getElem hi]
  have e2 : jW p j = p.Prizes[j.toNat] := by unfold jW; simp [List.getD, List.getElem?_eq_getElem hj]
  have := aBu a2 (j.toNat - i.toNat) i.toNat (by omega)
  rw [e1, e2]
  have e : i.toNat + (j.toNat - i.toNat) = j.toNat := by omega
  simp only [e] at this
  exact this
theorem aLi {t : bM} {person a b : Int} (h0 : 0 ≤ a) (h : a ≤ b) : vA t person a ≤ vA t person b := by
  unfold vA
  have e1 : (a + 1).tdiv 2 = (a + 1) / 2 := Int.tdiv_eq_ediv_of_nonneg (by omega)
  have e2 : a.tdiv 2 = a / 2 := Int.tdiv_eq_ediv_of_nonneg (by omega)
  have e3 : (b + 1).tdiv 2 = (b + 1) / 2 := Int.tdiv_eq_ediv_of_nonneg (by omega)
  have e4 : b.tdiv 2 = b / 2 := Int.tdiv_eq_ediv_of_nonneg (by omega)
  rw [e1, e2, e3, e4]
  split
  · exact h
  · split <;> omega
section
variable {p o : aN} (hf : aRl o p) {d : List Int} (h : GP p d) (ho : GP o d)
include hf h ho
theorem aUz (person : Int) (t : bM) : (aBv o d person t).Low ≤ (aBv p d person t).Low ∧ (aBv p d person t).High ≤ (aBv o d person t).High := by
  have h1 := h.good.ht.r1
  have h2 := ho.good.ht.r1
  obtain ⟨r1, r2, r3⟩ := aSk hf h ho t.Player
  have ra := xY p d t.Player (by omega)
  have rb := xY o d t.Player (by omega)
  have ep : ∀ i, jW o i = jW p i := fun i => by unfold jW; rw [hf.prizes]
  unfold aBv
  rw [r1, hf.tree] at *
  by_cases h0 : (mL p d t.Player).2 = 0
  · rw [if_pos h0, if_pos h0, ep, ep]
    have q1 := nR h.prizes rb.1.1 rb.1.2
    have q2 := nR h.prizes ra.2.1 ra.2.2
    exact ⟨aLi q1.2.1 (aKx h.prizes rb.1.1 r2 ra.1.2), aLi q2.2.1 (aKx h.prizes ra.2.1 r3 rb.2.2)⟩
  · rw [if_neg h0, if_neg h0]
    exact ⟨Int.le_refl _, Int.le_refl _⟩
theorem aRy {person : Int} (ht : uE o person = uE p person) : (iU o d person).Low ≤ (iU p d person).Low ∧ (iU p d person).High ≤ (iU o d person).High := by
  unfold iU
  rw [ht]
  cases uE p person with
  | none => exact ⟨Int.le_refl _, Int.le_refl _⟩
  | some t => exact aUz hf h ho person t
end
/-- More gross, no fewer units. -/
theorem aWr {p : aN} {d : List Int} (h : GP p d) {person g g' : Int} (h0 : 0 ≤ g) (hg : g ≤ g') : uT p person g' ≤ uT p person g + (g' - g) := by
  unfold uT
  split
  · rename_i l hl
    have hm := ((wP h).1 l (List.mem_of_find?_eq_some hl)).2
    have m1 := Int.mul_nonneg h0 hm.1
    have m2 := Int.mul_nonneg (show 0 ≤ g' - g by omega) hm.1
    have m3 : (g' - g) * l.Mille ≤ (g' - g) * 500 := Int.mul_le_mul_of_nonneg_left hm.2 (by omega)
    have e : g' * l.Mille = g * l.Mille + (g' - g) * l.Mille := by rw [← Int.add_mul]; congr 1; omega
    rw [Int.tdiv_eq_ediv_of_nonneg m1, Int.tdiv_eq_ediv_of_nonneg (show 0 ≤ g' * l.Mille by omega), e]
    omega
  · omega
theorem aTb {p o : aN} {d : List Int} (h : GP p d) (ho : GP o d) {person : Int} (hg : (iU o d person).Low ≤ (iU p d person).Low) (h1 : o.Levies = p.Levies) (h2 : o.Rates = p.Rates) (h3 : uR o person = uR p person) (h4 : qY o person = qY p person) : (wI o d person).Units ≤ (wI p d person).Units := by
  have ha := aHm h person
  have hb := aHm ho person
  have f1 := (aDd (person := person) ha).2.2.2.2.2.1
  have f2 := (aDd (person := person) hb).2.2.2.2.2.1
  have g2 := (xX ho person).1
  have hnr := ha.numr
  have hdr := ha.denr
  have t1 : ∀ g, uT o person g = uT p person g := fun g => by unfold uT; rw [h1]
  have r1 : rA o person = rA p person := by unfold rA; rw [h2]
  have t2 := aWr h (person := person) g2.1 hg
  unfold wI
  rw [f1, f2, t1, r1, h3, h4]
  exact Int.ediv_le_ediv (by omega) (Int.mul_le_mul_of_nonneg_right (by omega) (by omega))
end Go.Am

end
