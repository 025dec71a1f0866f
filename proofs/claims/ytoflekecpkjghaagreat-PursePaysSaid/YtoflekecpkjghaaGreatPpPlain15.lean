/- Plain laws, one behind the other. -/
import Derived.Test.YtoflekecpkjghaaGreatPpPlain11
import Derived.KernelRfl
section
namespace Go.Am

def aNj (person : Int) : Option cU → cU
  | some r => r
  | none => ⟨person, 1, 1⟩
theorem bAf (p : aQ) (person : Int) : uE p person = ((aNj person (p.Rates.find? fun r => decide (r.Person = person))).Num, (aNj person (p.Rates.find? fun r => decide (r.Person = person))).Den) := by
  unfold uE
  cases p.Rates.find? (fun r => decide (r.Person = person)) <;> rfl
section
variable {p : aQ} (hz : Sz p) {d : List Int} (h : GP p d)
include hz
theorem bCc (person : Int) : rO p person = some (aNj person (p.Rates.find? fun r => decide (r.Person = person))) := by
  have hrt := hz.rates
  unfold rO
  have key : ∀ (n i k : Nat), p.Rates.length - i = n → n < k → i ≤ p.Rates.length → kL person p k (i : Nat) (cU.mk 0 0 0) = some (aNj person ((p.Rates.drop i).find? fun r => decide (r.Person = person))) := by
    intro n
    induction n with
    | zero =>
      intro i k hd hk hi
      obtain ⟨k, rfl⟩ : ∃ q, k = q + 1 := ⟨k - 1, by omega⟩
      have : i = p.Rates.length := by omega
      subst this
      have hlt : decide ((p.Rates.length : Int) < (p.Rates.length : Int)) = false := decide_eq_false (by omega)
      rw [kL, hlt, cond_false, List.drop_length]; rfl
    | succ n ih =>
      intro i k hd hk hi
      obtain ⟨k, rfl⟩ : ∃ q, k = q + 1 := ⟨k - 1, by omega⟩
      have hil : i < p.Rates.length := by omega
      have hlt : decide ((i : Int) < (p.Rates.length : Int)) = true := decide_eq_true (by omega)
      rw [kL, hlt, cond_true, bR hil, Option.bind_some, List.drop_eq_getElem_cons hil, List.find?_cons]
      cases decide (p.Rates[i].Person = person) with
      | true => rfl
      | false => rw [cond_false, bJ (by omega)]; exact ih (i + 1) k (by omega) (by omega) (by omega)
  exact key p.Rates.length 0 BIG rfl (cL (by omega)) (Nat.zero_le _)
include h
theorem bBz {person : Int} (hp : jM p person = true) : rM p person = some (wM p d person) := by
  have hg := (aAe h person).1
  have hlv := hz.levies
  have hrt := hz.rates
  have hil := aAv h
  obtain ⟨g, hge⟩ : ∃ g, g = (kT p d person).Low := ⟨_, rfl⟩
  rw [← hge] at hg
  unfold rM
  rw [bAt hz h hp, Option.bind_some]
  show iC person p _ BIG 0 (aU.mk person (kT p d person).Low 0 0 0 0 0 0 0) = _
  rw [← hge]
  have main := jS (fun k i s => iC person p (aU.mk 0 0 0 0 0 0 0 0 0) k i (aU.mk person g s 0 0 0 0 0 0)) p.Levies (fun s l => bif decide (l.Person = person) then (g * l.Mille).tdiv 1000 else s) (fun s => rN person p (aU.mk 0 0 0 0 0 0 0 0 0) (aU.mk person g s 0 0 0 0 0 0)) 0 ?_ ?_ BIG (cL (by omega))
  · refine Eq.trans main ?_
    rw [aSf h]
    obtain ⟨tax, htx⟩ : ∃ tax, tax = aDl p person g := ⟨_, rfl⟩
    rw [← htx]
    unfold rN
    rw [aZm p.Items hz.items, Option.bind_some]
    show gE person (eE p) p _ BIG 0 _ = _
    have main2 := jS (S := Int × Int) (fun k i s => gE person (eE p) p (aU.mk 0 0 0 0 0 0 0 0 0) k i (aU.mk person g tax s.1 s.2 0 0 0 0)) (eE p) (fun s x => (aBg p.Daily person s.1 x, xF person s.2 x)) (fun s => oL person p (aU.mk 0 0 0 0 0 0 0 0 0) (aU.mk person g tax s.1 s.2 0 0 0 0)) (0, 0) ?_ ?_ BIG (cL (by omega))
    · refine Eq.trans main2 ?_
      rw [aDz]
      show oL person p _ (aU.mk person g tax (xO p person) (tW p person) 0 0 0 0) = _
      have hb := aNw h person
      rw [← hge, ← htx] at hb
      have ha := aLy (person := person) hb
      unfold oL
      rw [bCc hz, Option.bind_some]
      unfold wM
      rw [← hge, ← htx]
      have hd1 := hb.denr
      have hn1 := hb.numr
      rw [bAf] at ha hd1 hn1 ⊢
      generalize aNj person (p.Rates.find? fun r => decide (r.Person = person)) = R at ha hd1 hn1 ⊢
      rw [decide_eq_false (show ¬ R.Den = 0 by omega), decide_eq_false (show ¬ R.Num = 0 by omega)]
      show some _ = _
      rw [← ha]
    · intro k i hi s hs
      have hlt : decide ((i : Int) < ((eE p).length : Int)) = true := decide_eq_true (by omega)
      have hst := aMo h hs
      have hx : (eE p)[i] ∈ eE p := List.getElem_mem hi
      have ha := (mT h) _ hx
      simp only [gE, hlt, cond_true, bR hi, Option.bind_some, bJ (show i < 9223372036854775807 by omega)]
      unfold aBg xF
      cases decide ((eE p)[i].Person = person) with
      | false => rfl
      | true =>
        by_cases k2 : (eE p)[i].Kind = 2
        · have hp := aQs h hx k2
          rw [decide_eq_true k2, decide_eq_false (show ¬ (eE p)[i].Kind = 1 by omega)]
          simp only [Bool.not_true, cond_false, cond_true, Bool.and_true, Bool.and_false]
          rw [bY (show -9223372036854775808 ≤ (eE p)[i].Amount * p.Daily by omega) (by omega), bY (show -9223372036854775808 ≤ s.1 + (eE p)[i].Amount * p.Daily by omega) (by omega)]
        · rw [decide_eq_false k2, decide_eq_true (show (eE p)[i].Kind = 1 by omega)]
          simp only [Bool.not_true, Bool.not_false, cond_false, cond_true, Bool.and_true, Bool.and_false]
          rw [bY (show -9223372036854775808 ≤ s.2 + (eE p)[i].Amount by omega) (by omega)]
    · intro k s
      have hlt : decide (((eE p).length : Int) < ((eE p).length : Int)) = false := decide_eq_false (by omega)
      simp only [gE, hlt, cond_false]
  · intro k i hi s hs
    have hlt : decide ((i : Int) < (p.Levies.length : Int)) = true := decide_eq_true (by omega)
    have hstep := aOu h hg (List.getElem_mem hi)
    simp only [iC, hlt, cond_true, bR hi, Option.bind_some, bJ (show i < 9223372036854775807 by omega), hstep]
    cases decide (p.Levies[i].Person = person) <;> rfl
  · intro k s
    have hlt : decide ((p.Levies.length : Int) < (p.Levies.length : Int)) = false := decide_eq_false (by omega)
    simp only [iC, hlt, cond_false]
def aPu {β : Type} (b : Bool) (s : List β) (y : β) : List β := bif b then s ++ [y] else s
omit hz h in
theorem aEk {α β : Type} (q : α → Bool) (f : α → β) : ∀ (l : List α) (s : List β), l.foldl (fun s x => aPu (q x) s (f x)) s = s ++ (l.filter q).map f
  | [], s => by simp
  | x :: l, s => by
    rw [List.foldl_cons, aEk q f l, List.filter_cons]
    unfold aPu
    cases q x <;> simp
theorem aZl : qN p = some (kH p d) := by
  have ht := uG h.teams
  unfold qN kH wO
  have hN : ((List.range 1000).map fun n : Nat => (n : Int)).length = 1000 := by rw [List.length_map, List.length_range]
  have hg : ∀ (i : Nat) (hi : i < ((List.range 1000).map fun n : Nat => (n : Int)).length), ((List.range 1000).map fun n : Nat => (n : Int))[i] = (i : Int) := fun i hi => by rw [List.getElem_map, List.getElem_range]
  generalize ((List.range 1000).map fun n : Nat => (n : Int)) = R at hN hg ⊢
  have main := jS (fun k i s => iQ p k i s) R (fun s n => aPu (jM p n) s (wM p d n)) (fun s => some s) [] ?_ ?_ BIG (cL (by omega))
  · refine Eq.trans main ?_
    rw [aEk (jM p) (wM p d)]; rfl
  · intro k i hi s hs
    have hlt : decide ((i : Int) ≤ 999) = true := decide_eq_true (by omega)
    have hsl : s.length ≤ i := by
      rw [hs, aEk (jM p) (wM p d), List.nil_append, List.length_map]
      refine Nat.le_trans (List.length_filter_le _ _) ?_
      rw [List.length_take]; omega
    rw [iQ, hlt, cond_true, yI ht _ hz.teams, Option.bind_some, hg i hi, bJ (by omega)]
    unfold aPu
    cases hp : jM p (i : Int) with
    | false => rfl
    | true => rw [cond_true, cond_true, bBz hz h hp, Option.bind_some, fM (by simp; omega), Option.bind_some]
  · intro k s
    have hlt : decide ((R.length : Int) ≤ 999) = false := decide_eq_false (by omega)
    rw [iQ, hlt, cond_false]; rfl
end
section
variable {p : aQ} (hz : Sz p)
include hz
end
end Go.Am

end
section
namespace Go.Am

theorem aCy {α : Type} (g : α → Int) : ∀ (l : List α) (s : Int), l.foldl (fun s x => s + g x) s = s + (l.map g).sum
  | [], s => by simp
  | x :: l, s => by rw [List.foldl_cons, aCy g l, List.map_cons, List.sum_cons, Int.add_assoc]
theorem aJq {α : Type} (g : α → Int) (B : Int) : ∀ (l : List α), (∀ x ∈ l, -B ≤ g x ∧ g x ≤ B) → -(B * l.length) ≤ (l.map g).sum ∧ (l.map g).sum ≤ B * l.length
  | [], _ => by simp
  | x :: l, h => by
    have h1 := aJq g B l fun y hy => h y (List.mem_cons_of_mem _ hy)
    have h2 := h x List.mem_cons_self
    have e : B * (((x :: l).length : Nat) : Int) = B * l.length + B := by rw [List.length_cons, Int.natCast_add, Int.mul_add]; simp
    rw [List.map_cons, List.sum_cons, e]; omega
def wE (p : aQ) (i : Nat) : Int := sV p i * 2 ^ (p.Tree.Rounds.toNat - 1 - i)
def aFl (p : aQ) (x : Int) : Int := bif decide (x = -1) then -sV p 0 else 0
/-- All prizes of the matches. -/
def aZg (p : aQ) : Int := sV p p.Tree.Rounds + ((List.range p.Tree.Rounds.toNat).map (wE p)).sum + (p.Tree.Slots.map (aFl p)).sum
theorem bCk {n : Nat} (h : n ≤ 4) : (1 : Int) ≤ 2 ^ n ∧ (2 : Int) ^ n ≤ 16 := by
  have : n = 0 ∨ n = 1 ∨ n = 2 ∨ n = 3 ∨ n = 4 := by omega
  rcases this with rfl | rfl | rfl | rfl | rfl <;> decide
section
variable {p : aQ} (hz : Sz p) {d : List Int} (h : GP p d)
include h
theorem aKr {i : Nat} (hi : i < p.Tree.Rounds.toNat) : 0 ≤ wE p i ∧ wE p i ≤ 160000000 := by
  have h5 := h.good.ht.r5
  have h1 := h.good.ht.r1
  have q := (oO h.prizes (i := (i : Int)) (by omega) (by omega)).2
  have w := bCk (n := p.Tree.Rounds.toNat - 1 - i) (by omega)
  unfold wE
  have m1 := Int.mul_nonneg q.1 (show (0 : Int) ≤ 2 ^ (p.Tree.Rounds.toNat - 1 - i) by omega)
  have m2 : sV p i * 2 ^ (p.Tree.Rounds.toNat - 1 - i) ≤ 10000000 * 16 := Int.mul_le_mul q.2 w.2 (by omega) (by omega)
  omega
theorem aVt (x : Int) : -10000000 ≤ aFl p x ∧ aFl p x ≤ 10000000 := by
  have h1 := h.good.ht.r1
  have q := (oO h.prizes (i := 0) (by omega) (by omega)).2
  unfold aFl
  cases decide (x = -1) <;> simp <;> omega
theorem aKs (i : Nat) : -(160000000 * 5) ≤ (((List.range p.Tree.Rounds.toNat).take i).map (wE p)).sum ∧ (((List.range p.Tree.Rounds.toNat).take i).map (wE p)).sum ≤ 160000000 * 5 := by
  have h5 := h.good.ht.r5
  have := aJq (wE p) 160000000 ((List.range p.Tree.Rounds.toNat).take i) fun x hx => by
    have := List.mem_range.1 (List.mem_of_mem_take hx)
    have := aKr h this
    omega
  have hl : ((List.range p.Tree.Rounds.toNat).take i).length ≤ 5 := by rw [List.length_take, List.length_range]; omega
  omega
theorem aVu (l : List Int) (hl : l.length ≤ 1000) : -(10000000 * 1000) ≤ (l.map (aFl p)).sum ∧ (l.map (aFl p)).sum ≤ 10000000 * 1000 := by
  have := aJq (aFl p) 10000000 l fun x _ => aVt h x
  omega
include hz
theorem bCj : zF p = some (aZg p, 0) := by
  have h5 := h.good.ht.r5
  have h1 := h.good.ht.r1
  have hs := hz.slots
  have qR := oO h.prizes (i := p.Tree.Rounds) (by omega) (by omega)
  have q0 := oO h.prizes (i := 0) (by omega) (by omega)
  unfold zF
  rw [aNb hz, Option.bind_some, aCz h, decide_eq_true rfl, Bool.not_true, cond_false, qR.1, Option.bind_some]
  have main := jS (fun k i s => nC p.Tree.Rounds p k s i) (List.range p.Tree.Rounds.toNat) (fun s i => s + wE p i) (fun s => xJ s p) (sV p p.Tree.Rounds) ?_ ?_ BIG (cL (by rw [List.length_range]; omega))
  · refine Eq.trans main ?_
    rw [aCy]
    unfold xJ
    have rt := aKs h p.Tree.Rounds.toNat
    rw [List.take_of_length_le (by rw [List.length_range]; omega)] at rt
    obtain ⟨A, hA⟩ : ∃ A, A = sV p p.Tree.Rounds + ((List.range p.Tree.Rounds.toNat).map (wE p)).sum := ⟨_, rfl⟩
    rw [← hA]
    have main2 := jS (fun k i s => nD p.Tree.Slots (p.Tree.Slots.length : Int) p k s i) p.Tree.Slots (fun s x => s + aFl p x) (fun s => some (s, (0 : Int))) A ?_ ?_ BIG (cL (by omega))
    · refine Eq.trans main2 ?_
      rw [aCy, hA]; rfl
    · intro k i hi s hs'
      have hlt : decide ((i : Int) < (p.Tree.Slots.length : Int)) = true := decide_eq_true (by omega)
      have bt := aVu h (p.Tree.Slots.take i) (by rw [List.length_take]; omega)
      rw [aCy] at hs'
      simp only [nD, hlt, cond_true, bR hi, Option.bind_some, bJ (show i < 9223372036854775807 by omega)]
      unfold aFl
      cases decide (p.Tree.Slots[i] = -1) with
      | true => rw [cond_true, cond_true, q0.1, Option.bind_some, bY (by omega) (by omega)]; rfl
      | false => rw [cond_false, cond_false, Int.add_zero]
    · intro k s
      have hlt : decide ((p.Tree.Slots.length : Int) < (p.Tree.Slots.length : Int)) = false := decide_eq_false (by omega)
      simp only [nD, hlt, cond_false]; rfl
  · intro k i hi s hs'
    have hi' : i < p.Tree.Rounds.toNat := by simpa using hi
    have hlt : decide ((i : Int) < p.Tree.Rounds) = true := decide_eq_true (by omega)
    have rt := aKs h i
    have rr := aKr h hi'
    rw [aCy] at hs'
    have qi := oO h.prizes (i := (i : Int)) (by omega) (by omega)
    have e1 : w64 ((w64 (p.Tree.Rounds - 1)) - (i : Int)) = ((p.Tree.Rounds.toNat - 1 - i : Nat) : Int) := by rw [bY (show -9223372036854775808 ≤ p.Tree.Rounds - 1 by omega) (by omega), bY (by omega) (by omega)]; omega
    have e2 : min (((p.Tree.Rounds.toNat - 1 - i : Nat) : Int)).toNat 64 = p.Tree.Rounds.toNat - 1 - i := by omega
    simp only [nC, hlt, cond_true, qi.1, Option.bind_some, e1, e2, bJ (show i < 9223372036854775807 by omega)]
    rw [decide_eq_true (by omega)]
    show nC p.Tree.Rounds p k (w64 (s + w64 (wE p i))) _ = _
    rw [bY (n := wE p i) (by omega) (by omega), bY (by omega) (by omega), List.getElem_range]
  · intro k s
    have hlt : decide ((((List.range p.Tree.Rounds.toNat).length : Nat) : Int) < p.Tree.Rounds) = false := decide_eq_false (by rw [List.length_range]; omega)
    simp only [nC, hlt, cond_false]
end
section
variable {p : aQ} (hz : Sz p)
include hz
end
end Go.Am

end
section
namespace Go.Am

def aFq : aQ := (oH).getD ⟨⟨0, []⟩, [], [], 0, [], [], [], []⟩
theorem aZs : oH = some aFq := rfl
theorem aZu : pF aFq = 0 := by kernel_rfl
theorem aWd : (fQ aFq.Tree aFq.Slips).map (fun r => r.1.Slots) = some [1, 2, 3, 4] := by kernel_rfl
theorem aWe : aZg aFq = 1501 := by kernel_rfl
theorem aZt : jM aFq 22 = true := by kernel_rfl
theorem aWc : wM aFq [1, 2, 3, 4] 22 = ⟨22, 50, 0, 0, 0, 0, 16, 48, 2⟩ := by kernel_rfl
theorem aUs : (aSg aFq [1, 2, 3, 4]).Debt = 60 := by kernel_rfl
theorem aOa : Sz aFq := ⟨by decide, by decide, by decide, by decide, by decide, by decide, by decide⟩
theorem aDm : nT = some true := by
  obtain ⟨d, hg⟩ := aZd aZu
  have hd : d = [1, 2, 3, 4] := by
    have h1 := aWd
    rw [(aOw hg.good).1] at h1
    exact Option.some.inj h1
  subst hd
  unfold nT
  rw [aZs, Option.bind_some, bCj aOa hg, Option.bind_some, bBl aOa hg, Option.bind_some, bBp aOa hg, Option.bind_some, aZt, cond_true]
  simp only [aWe, aWc, aUs]
  rfl
end Go.Am

end
section
namespace Go.Am

structure NearP (p : aQ) : Prop where
  slots : p.Tree.Slots.length ≤ 8
  slips : p.Slips.length ≤ 20
  prizes : p.Prizes.length ≤ 20
  teams : p.Teams.length ≤ 40
  levies : p.Levies.length ≤ 40
  rates : p.Rates.length ≤ 40
  items : p.Items.length ≤ 60
theorem NearP.sz {p : aQ} (h : NearP p) : Sz p := by
  obtain ⟨h1, h2, h3, h4, h5, h6, h7⟩ := h
  exact ⟨by omega, by omega, by omega, by omega, by omega, by omega, by omega⟩
theorem bBd (p : aQ) : nS p = some true ∨ (nS p = some false ∧ NearP p) := by
  have hf : nS p = some (decide (8 < (p.Tree.Slots.length : Int)) || decide (20 < (p.Slips.length : Int)) || decide (20 < (p.Prizes.length : Int)) || decide (40 < (p.Teams.length : Int)) || decide (40 < (p.Levies.length : Int)) || decide (40 < (p.Rates.length : Int)) || decide (60 < (p.Items.length : Int))) := by
    unfold nS
    rw [dQ, Option.bind_some, dQ, Option.bind_some, dQ, Option.bind_some, dQ, Option.bind_some, dQ, Option.bind_some, dQ, Option.bind_some]
  cases hb : (decide (8 < (p.Tree.Slots.length : Int)) || decide (20 < (p.Slips.length : Int)) || decide (20 < (p.Prizes.length : Int)) || decide (40 < (p.Teams.length : Int)) || decide (40 < (p.Levies.length : Int)) || decide (40 < (p.Rates.length : Int)) || decide (60 < (p.Items.length : Int))) with
  | true => exact .inl (by rw [hf, hb])
  | false =>
    refine .inr ⟨by rw [hf, hb], ?_⟩
    simp only [Bool.or_eq_false_iff, decide_eq_false_iff_not] at hb
    obtain ⟨⟨⟨⟨⟨⟨a, b⟩, c⟩, d⟩, e⟩, f⟩, g⟩ := hb
    exact ⟨by omega, by omega, by omega, by omega, by omega, by omega, by omega⟩
theorem bBy {p : aQ} (h : Sz p) : rL p = some p := by
  obtain ⟨h1, h2, h3, h4, h5, h6, h7⟩ := h
  unfold rL
  rw [fM (by simp; omega), Option.bind_some, fM (by simp; omega), Option.bind_some, fM (by simp; omega), Option.bind_some, fM (by simp; omega), Option.bind_some, fM (by simp; omega), Option.bind_some, fM (by simp; omega), Option.bind_some, fM (by simp; omega), Option.bind_some]
  simp
/-- A loop that compares a row with itself. -/
theorem aZr {α T : Type} [DecidableEq α] (F : Nat → Int → T) (l : List α) (bad K : T) (h1 : ∀ k i (hi : i < l.length), F (k + 1) (i : Nat) = bif !decide (l[i] = l[i]) then bad else F k ((i + 1 : Nat) : Int)) (h2 : ∀ k, F (k + 1) (l.length : Nat) = K) (hb : l.length ≤ 1000000) : F BIG 0 = K := by
  have := mO F l (fun _ => true) bad K (fun k i hi => by rw [h1 k i hi, decide_eq_true rfl]; rfl) h2 hb
  rw [this]
  have : l.all (fun _ => true) = true := by simp
  rw [this, cond_true]
theorem aPd (l : List aK) (hl : l.length ≤ 1000) : lD l l = some true := by
  unfold lD
  rw [decide_eq_true rfl, Bool.not_true, cond_false]
  refine aZr (fun k i => iG l l k i) l (some false) _ (fun k i hi => ?_) (fun k => ?_) (by omega)
  · have hlt : decide ((i : Int) < (l.length : Int)) = true := decide_eq_true (by omega)
    rw [iG, hlt, cond_true, bR hi, Option.bind_some, Option.bind_some, bJ (by omega)]
  · have hlt : decide ((l.length : Int) < (l.length : Int)) = false := decide_eq_false (by omega)
    rw [iG, hlt, cond_false]; rfl
end Go.Am

end
section
namespace Go.Am

theorem aRl (l : List aK) (f : aK → Option Bool) (q : aK → Bool) (h : ∀ x ∈ l, f x = some (q x)) (hb : l.length ≤ 1000000) : gZ l f = some (l.any q) := by
  have key : ∀ (d i k : Nat), l.length - i = d → d < k → i ≤ l.length → ∃ r : Int, eD l f (l.length : Int) k (i : Nat) = some r ∧ decide (0 ≤ r) = (l.drop i).any q := by
    intro d
    induction d with
    | zero =>
      intro i k hd hk hi
      obtain ⟨k, rfl⟩ : ∃ q, k = q + 1 := ⟨k - 1, by omega⟩
      have : i = l.length := by omega
      subst this
      have hlt : decide ((l.length : Int) < (l.length : Int)) = false := decide_eq_false (by omega)
      exact ⟨-1, by rw [eD, hlt, cond_false]; rfl, by simp⟩
    | succ d ih =>
      intro i k hd hk hi
      obtain ⟨k, rfl⟩ : ∃ q, k = q + 1 := ⟨k - 1, by omega⟩
      have hil : i < l.length := by omega
      have hlt : decide ((i : Int) < (l.length : Int)) = true := decide_eq_true (by omega)
      rw [eD, hlt, cond_true, bR hil, Option.bind_some, h _ (List.getElem_mem hil), Option.bind_some, List.drop_eq_getElem_cons hil, List.any_cons]
      cases q l[i] with
      | true => exact ⟨i, by rw [cond_true], by rw [decide_eq_true (show (0 : Int) ≤ (i : Int) by omega), Bool.true_or]⟩
      | false => rw [cond_false, bJ (by omega), Bool.false_or]; exact ih (i + 1) k (by omega) (by omega) (by omega)
  obtain ⟨r, h1, h2⟩ := key l.length 0 BIG rfl (cL (by omega)) (Nat.zero_le _)
  unfold gZ kQ
  have h1' : eD l f (l.length : Int) BIG 0 = some r := h1
  rw [h1', Option.bind_some, h2, List.drop_zero]
def uC (p : aQ) (x : aK) : Bool := jM p x.Person && wB x.Units 0 1000000000
def yV (n : Int) (s : Int) (x : aK) : Int := bif decide (x.Person = n) then s - x.Units else s
/-- What is left of a bill. -/
def pS (before : List aK) (b : aU) : Int := before.foldl (yV b.Person) b.Units
def aDg (before : List aK) (s : List aK × List aK) (b : aU) : List aK × List aK :=
  bif decide (0 < pS before b) then (s.1 ++ [⟨b.Person, pS before b⟩], s.2) else bif decide (pS before b < 0) then (s.1, s.2 ++ [⟨b.Person, -pS before b⟩]) else s
def aLn (before : List aK) (B : List aU) : List aK × List aK := B.foldl (aDg before) ([], [])
theorem yW {n : Int} : ∀ (l : List aK) (s : Int), (∀ x ∈ l, 0 ≤ x.Units ∧ x.Units ≤ 1000000000) → s - 1000000000 * l.length ≤ l.foldl (yV n) s ∧ l.foldl (yV n) s ≤ s
  | [], s, _ => by simp
  | x :: l, s, h => by
    have hx := h x List.mem_cons_self
    have ih := yW (n := n) l (yV n s x) fun y hy => h y (List.mem_cons_of_mem _ hy)
    have hs : s - 1000000000 ≤ yV n s x ∧ yV n s x ≤ s := by unfold yV; cases decide (x.Person = n) <;> simp <;> omega
    rw [List.foldl_cons, List.length_cons]
    omega
theorem aJw (before : List aK) : ∀ (l : List aU) (s : List aK × List aK), (l.foldl (aDg before) s).1.length ≤ s.1.length + l.length ∧ (l.foldl (aDg before) s).2.length ≤ s.2.length + l.length
  | [], s => by simp
  | b :: l, s => by
    have ih := aJw before l (aDg before s b)
    have hs : (aDg before s b).1.length ≤ s.1.length + 1 ∧ (aDg before s b).2.length ≤ s.2.length + 1 := by
      unfold aDg
      cases decide (0 < pS before b) <;> cases decide (pS before b < 0) <;> simp
    rw [List.foldl_cons, List.length_cons]
    omega
theorem aUb {p : aQ} {l : List aK} (h : l.all (uC p) = true) : ∀ x ∈ l, 0 ≤ x.Units ∧ x.Units ≤ 1000000000 := fun x hx => by
  have := List.all_eq_true.1 h x hx
  unfold uC at this
  rw [Bool.and_eq_true, aBe] at this
  exact this.2
section
variable {p : aQ} (hz : Sz p) {d : List Int} (h : GP p d)
include hz h
omit hz in
theorem aSj : ∀ b ∈ kH p d, 0 ≤ b.Units ∧ b.Units ≤ 1300000000000 := fun b hb => by
  have := (aLz h b hb).a6
  omega
theorem bCo (before : List aK) (hl : before.length ≤ 200) (hp : before.all (uC p) = true) : qD p before = some ((aLn before (kH p d)).1, (aLn before (kH p d)).2, 0) := by
  have hbl : (kH p d).length ≤ 1000 := by unfold kH; rw [List.length_map]; exact sJ p
  have hu := aSj h
  have hpa := aUb hp
  have hpl := sJ p
  have hmem : ∀ n : Int, decide (n ∈ wO p) = jM p n := fun n => by rw [← uO h, ← tJ]
  unfold qD
  rw [aRk hz h, Option.bind_some, decide_eq_true rfl, Bool.not_true, cond_false, zA p hz.teams, Option.bind_some, uO h, decide_eq_false (show ¬ 200 < (before.length : Int) by omega), cond_false,
    aRl before _ (fun x => !uC p x) (fun x _ => by
      unfold xB uC wB
      rw [gH _ (by omega), Option.bind_some, wR, Option.bind_some, dQ, Option.bind_some, hmem]
      cases jM p x.Person <;> cases decide (0 ≤ x.Units) <;> cases decide (x.Units ≤ 1000000000) <;> rfl) (by omega), Option.bind_some, Option.bind_some]
  have hany : before.any (fun x => !uC p x) = false := by
    rw [List.any_eq_false]
    intro x hx
    rw [List.all_eq_true.1 hp x hx]; simp
  rw [hany, cond_false]
  unfold aLn
  generalize kH p d = B at hbl hu ⊢
  have main := jS (S := List aK × List aK) (fun k i s => lL before B (B.length : Int) k i s.1 s.2) B (aDg before) (fun s => some (s.1, s.2, (0 : Int))) ([], []) ?_ ?_ BIG (cL (by omega))
  · dsimp only at main
    exact main
  · intro k i hi s hs
    have hlt : decide ((i : Int) < (B.length : Int)) = true := decide_eq_true (by omega)
    have hsl := aJw before (B.take i) ([], [])
    rw [← hs, List.length_take] at hsl
    have hb := hu _ (List.getElem_mem hi)
    simp only [lL, hlt, cond_true, bR hi, Option.bind_some]
    have m2 := jS (fun kk j left => oP (lL before B (B.length : Int) k) before B (B.length : Int) (i : Int) before (before.length : Int) s.1 s.2 B[i] kk left j) before (yV B[i].Person) (fun left => vY (lL before B (B.length : Int) k) before left B (B.length : Int) (i : Int) s.1 s.2 B[i]) B[i].Units (fun kk j hj left hleft => by
      have hlt2 : decide ((j : Int) < (before.length : Int)) = true := decide_eq_true (by omega)
      have hx := hpa _ (List.getElem_mem hj)
      have hr := yW (n := B[i].Person) (before.take j) B[i].Units (fun x hx => hpa x (List.mem_of_mem_take hx))
      rw [← hleft, List.length_take] at hr
      simp only [oP, hlt2, cond_true, bR hj, Option.bind_some, bJ (show j < 9223372036854775807 by omega)]
      unfold yV
      cases decide (before[j].Person = B[i].Person) with
      | true => rw [cond_true, cond_true, bY (by omega) (by omega)]
      | false => rfl) (fun kk left => by
      have hlt2 : decide ((before.length : Int) < (before.length : Int)) = false := decide_eq_false (by omega)
      simp only [oP, hlt2, cond_false]) BIG (cL (by omega))
    refine Eq.trans m2 ?_
    have hr := yW (n := B[i].Person) before B[i].Units hpa
    show vY _ before (pS before B[i]) B _ _ s.1 s.2 B[i] = _
    have hr' : B[i].Units - 1000000000 * before.length ≤ pS before B[i] ∧ pS before B[i] ≤ B[i].Units := hr
    unfold vY qW aDg
    simp only [List.length_nil] at hsl
    by_cases h1 : 0 < pS before B[i]
    · rw [decide_eq_true h1, cond_true, cond_true, fM (by simp; omega), Option.bind_some, bJ (by omega)]
    · rw [decide_eq_false h1, cond_false, cond_false]
      by_cases h2 : pS before B[i] < 0
      · rw [decide_eq_true h2, cond_true, cond_true, bY (n := -pS before B[i]) (by omega) (by omega), fM (by simp; omega), Option.bind_some, bJ (by omega)]
      · rw [decide_eq_false h2, cond_false, cond_false, bJ (by omega)]
  · intro k s
    have hlt : decide ((B.length : Int) < (B.length : Int)) = false := decide_eq_false (by omega)
    simp only [lL, hlt, cond_false]; rfl
theorem bCn (before : List aK) (hl : before.length ≤ 200) (hp : before.all (uC p) = true) : jO p before = some ((aLn before (kH p d)).1, (aLn before (kH p d)).2, 0) := by
  have ht := uG h.teams
  have hbl : (kH p d).length ≤ 1000 := by unfold kH; rw [List.length_map]; exact sJ p
  have hu := aSj h
  have hpa := aUb hp
  unfold jO
  rw [aQq hz, Option.bind_some, aCz h, decide_eq_true rfl, Bool.not_true, cond_false, decide_eq_false (show ¬ 200 < (before.length : Int) by omega), cond_false]
  have m0 := mO (fun k i => gX before p [] [] k i) before (uC p) (some ([], [], 103)) (pH before p [] []) (fun k i hi => by
    have hlt : decide ((i : Int) < (before.length : Int)) = true := decide_eq_true (by omega)
    simp only [gX, hlt, cond_true, bR hi, Option.bind_some, yI ht _ hz.teams, tA, bJ (show i < 9223372036854775807 by omega)]
    rw [dQ, Option.bind_some]
    unfold uC wB
    cases jM p before[i].Person <;> cases (decide (0 ≤ before[i].Units) && decide (before[i].Units ≤ 1000000000)) <;> rfl) (fun k => by
    have hlt : decide ((before.length : Int) < (before.length : Int)) = false := decide_eq_false (by omega)
    simp only [gX, hlt, cond_false]) (by omega)
  refine Eq.trans m0 ?_
  rw [hp, cond_true]
  unfold pH
  rw [aZl hz h, Option.bind_some]
  unfold aLn
  generalize kH p d = B at hbl hu ⊢
  have main := jS (S := List aK × List aK) (fun k i s => gY before B k i s.1 s.2) B (aDg before) (fun s => some (s.1, s.2, (0 : Int))) ([], []) ?_ ?_ BIG (cL (by omega))
  · dsimp only at main
    exact main
  · intro k i hi s hs
    have hlt : decide ((i : Int) < (B.length : Int)) = true := decide_eq_true (by omega)
    have hsl := aJw before (B.take i) ([], [])
    rw [← hs, List.length_take] at hsl
    have hb := hu _ (List.getElem_mem hi)
    simp only [gY, hlt, cond_true, bR hi, Option.bind_some]
    have m2 := jS (fun kk j left => jR (gY before B k) before B (i : Int) s.1 s.2 kk left j) before (yV B[i].Person) (fun left => pI (gY before B k) before B (i : Int) left s.1 s.2) B[i].Units (fun kk j hj left hleft => by
      have hlt2 : decide ((j : Int) < (before.length : Int)) = true := decide_eq_true (by omega)
      have hx := hpa _ (List.getElem_mem hj)
      have hr := yW (n := B[i].Person) (before.take j) B[i].Units (fun x hx => hpa x (List.mem_of_mem_take hx))
      rw [← hleft, List.length_take] at hr
      simp only [jR, hlt2, cond_true, bR hj, bR hi, Option.bind_some, bJ (show j < 9223372036854775807 by omega)]
      unfold yV
      cases decide (before[j].Person = B[i].Person) with
      | true => rw [cond_true, cond_true, bY (by omega) (by omega)]
      | false => rfl) (fun kk left => by
      have hlt2 : decide ((before.length : Int) < (before.length : Int)) = false := decide_eq_false (by omega)
      simp only [jR, hlt2, cond_false]) BIG (cL (by omega))
    refine Eq.trans m2 ?_
    have hr := yW (n := B[i].Person) before B[i].Units hpa
    show pI _ before B _ (pS before B[i]) s.1 s.2 = _
    have hr' : B[i].Units - 1000000000 * before.length ≤ pS before B[i] ∧ pS before B[i] ≤ B[i].Units := hr
    unfold pI iT aDg
    simp only [List.length_nil] at hsl
    rw [bR hi, Option.bind_some]
    by_cases h1 : 0 < pS before B[i]
    · rw [decide_eq_true h1, cond_true, cond_true, fM (by simp; omega), Option.bind_some, decide_eq_false (show ¬ pS before B[i] < 0 by omega), cond_false, bJ (by omega)]
    · rw [decide_eq_false h1, cond_false, cond_false]
      by_cases h2 : pS before B[i] < 0
      · rw [decide_eq_true h2, cond_true, cond_true, Option.bind_some, bY (n := -pS before B[i]) (by omega) (by omega), fM (by simp; omega), Option.bind_some, bJ (by omega)]
      · rw [decide_eq_false h2, cond_false, cond_false, bJ (by omega)]
  · intro k s
    have hlt : decide ((B.length : Int) < (B.length : Int)) = false := decide_eq_false (by omega)
    simp only [gY, hlt, cond_false]; rfl
theorem bCi (before : List aK) (hl : before.length ≤ 1000) (hp : ¬ (before.length ≤ 200 ∧ before.all (uC p) = true)) : qD p before = some ([], [], 103) := by
  have hpl := sJ p
  have hmem : ∀ n : Int, decide (n ∈ wO p) = jM p n := fun n => by rw [← uO h, ← tJ]
  unfold qD
  rw [aRk hz h, Option.bind_some, decide_eq_true rfl, Bool.not_true, cond_false, zA p hz.teams, Option.bind_some, uO h,
    aRl before _ (fun x => !uC p x) (fun x _ => by
      unfold xB uC wB
      rw [gH _ (by omega), Option.bind_some, wR, Option.bind_some, dQ, Option.bind_some, hmem]
      cases jM p x.Person <;> cases decide (0 ≤ x.Units) <;> cases decide (x.Units ≤ 1000000000) <;> rfl) (by omega), Option.bind_some, dQ, Option.bind_some]
  by_cases h2 : before.length ≤ 200
  · have hany : before.any (fun x => !uC p x) = true := by
      cases ha : before.any (fun x => !uC p x) with
      | true => rfl
      | false =>
        refine absurd ⟨h2, ?_⟩ hp
        rw [List.all_eq_true]
        intro x hx
        have := List.any_eq_false.1 ha x hx
        simpa using this
    rw [hany, Bool.or_true, cond_true]
  · rw [decide_eq_true (show 200 < (before.length : Int) by omega), Bool.true_or, cond_true]
theorem bCb (before : List aK) (hl : before.length ≤ 1000) (hp : ¬ (before.length ≤ 200 ∧ before.all (uC p) = true)) : jO p before = some ([], [], 103) := by
  have ht := uG h.teams
  unfold jO
  rw [aQq hz, Option.bind_some, aCz h, decide_eq_true rfl, Bool.not_true, cond_false]
  by_cases h2 : before.length ≤ 200
  · rw [decide_eq_false (show ¬ 200 < (before.length : Int) by omega), cond_false]
    have m0 := mO (fun k i => gX before p [] [] k i) before (uC p) (some ([], [], 103)) (pH before p [] []) (fun k i hi => by
      have hlt : decide ((i : Int) < (before.length : Int)) = true := decide_eq_true (by omega)
      simp only [gX, hlt, cond_true, bR hi, Option.bind_some, yI ht _ hz.teams, tA, bJ (show i < 9223372036854775807 by omega)]
      rw [dQ, Option.bind_some]
      unfold uC wB
      cases jM p before[i].Person <;> cases (decide (0 ≤ before[i].Units) && decide (before[i].Units ≤ 1000000000)) <;> rfl) (fun k => by
      have hlt : decide ((before.length : Int) < (before.length : Int)) = false := decide_eq_false (by omega)
      simp only [gX, hlt, cond_false]) (by omega)
    refine Eq.trans m0 ?_
    cases ha : before.all (uC p) with
    | true => exact absurd ⟨h2, ha⟩ hp
    | false => rw [cond_false]
  · rw [decide_eq_true (show 200 < (before.length : Int) by omega), cond_true]
end
section
variable {p : aQ} (hz : Sz p)
include hz
theorem bCh (hc : pF p ≠ 0) (before : List aK) : qD p before = some ([], [], pF p) := by
  unfold qD
  rw [bAd hz hc, Option.bind_some, decide_eq_false hc, Bool.not_false, cond_true]
theorem bCa (hc : pF p ≠ 0) (before : List aK) : jO p before = some ([], [], pF p) := by
  unfold jO
  rw [aQq hz, Option.bind_some, decide_eq_false hc, Bool.not_false, cond_true]
end
end Go.Am

end
