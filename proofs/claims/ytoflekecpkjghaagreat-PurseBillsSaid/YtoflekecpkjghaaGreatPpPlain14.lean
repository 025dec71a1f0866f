/- Plain laws, one behind the other. -/
import Derived.Test.YtoflekecpkjghaaGreatPpPlain11
import Derived.KernelRfl
section
namespace Go.Am

def aNc (person : Int) : Option cS → cS
  | some r => r
  | none => ⟨person, 1, 1⟩
theorem aZv (p : aN) (person : Int) : uI p person = ((aNc person (p.Rates.find? fun r => decide (r.Person = person))).Num, (aNc person (p.Rates.find? fun r => decide (r.Person = person))).Den) := by
  unfold uI
  cases p.Rates.find? (fun r => decide (r.Person = person)) <;> rfl
section
variable {p : aN} (hz : Sz p) {d : List Int} (h : GP p d)
include hz
theorem bBs (person : Int) : rZ p person = some (aNc person (p.Rates.find? fun r => decide (r.Person = person))) := by
  have hrt := hz.rates
  unfold rZ
  have key : ∀ (n i k : Nat), p.Rates.length - i = n → n < k → i ≤ p.Rates.length → kK person p k (i : Nat) (cS.mk 0 0 0) = some (aNc person ((p.Rates.drop i).find? fun r => decide (r.Person = person))) := by
    intro n
    induction n with
    | zero =>
      intro i k hd hk hi
      obtain ⟨k, rfl⟩ : ∃ q, k = q + 1 := ⟨k - 1, by omega⟩
      have : i = p.Rates.length := by omega
      subst this
      have hlt : decide ((p.Rates.length : Int) < (p.Rates.length : Int)) = false := decide_eq_false (by omega)
      rw [kK, hlt, cond_false, List.drop_length]; rfl
    | succ n ih =>
      intro i k hd hk hi
      obtain ⟨k, rfl⟩ : ∃ q, k = q + 1 := ⟨k - 1, by omega⟩
      have hil : i < p.Rates.length := by omega
      have hlt : decide ((i : Int) < (p.Rates.length : Int)) = true := decide_eq_true (by omega)
      rw [kK, hlt, cond_true, bQ hil, Option.bind_some, List.drop_eq_getElem_cons hil, List.find?_cons]
      cases decide (p.Rates[i].Person = person) with
      | true => rfl
      | false => rw [cond_false, bK (by omega)]; exact ih (i + 1) k (by omega) (by omega) (by omega)
  exact key p.Rates.length 0 BIG rfl (cN (by omega)) (Nat.zero_le _)
include h
theorem aYo {person : Int} (hp : kZ p person = true) : oX p person = some (vF p d person) := by
  have hg := (aAd h person).1
  have hlv := hz.levies
  have hrt := hz.rates
  have hil := aAw h
  obtain ⟨g, hge⟩ : ∃ g, g = (kU p d person).Low := ⟨_, rfl⟩
  rw [← hge] at hg
  unfold oX
  rw [bAl hz h hp, Option.bind_some]
  show iA person p _ BIG 0 (aQ.mk person (kU p d person).Low 0 0 0 0 0 0 0) = _
  rw [← hge]
  have main := mL (fun k i s => iA person p (aQ.mk 0 0 0 0 0 0 0 0 0) k i (aQ.mk person g s 0 0 0 0 0 0)) p.Levies (fun s l => bif decide (l.Person = person) then (g * l.Mille).tdiv 1000 else s) (fun s => rY person p (aQ.mk 0 0 0 0 0 0 0 0 0) (aQ.mk person g s 0 0 0 0 0 0)) 0 ?_ ?_ BIG (cN (by omega))
  · refine Eq.trans main ?_
    rw [aRs h]
    obtain ⟨tax, htx⟩ : ∃ tax, tax = aDf p person g := ⟨_, rfl⟩
    rw [← htx]
    unfold rY
    rw [aZb p.Items hz.items, Option.bind_some]
    show gF person (dZ p) p _ BIG 0 _ = _
    have main2 := mL (S := Int × Int) (fun k i s => gF person (dZ p) p (aQ.mk 0 0 0 0 0 0 0 0 0) k i (aQ.mk person g tax s.1 s.2 0 0 0 0)) (dZ p) (fun s x => (aBf p.Daily person s.1 x, xB person s.2 x)) (fun s => oP person p (aQ.mk 0 0 0 0 0 0 0 0 0) (aQ.mk person g tax s.1 s.2 0 0 0 0)) (0, 0) ?_ ?_ BIG (cN (by omega))
    · refine Eq.trans main2 ?_
      rw [aDt]
      show oP person p _ (aQ.mk person g tax (xM p person) (uD p person) 0 0 0 0) = _
      have hb := aNn h person
      rw [← hge, ← htx] at hb
      have ha := aLr (person := person) hb
      unfold oP
      rw [bBs hz, Option.bind_some]
      unfold vF
      rw [← hge, ← htx]
      have hd1 := hb.denr
      have hn1 := hb.numr
      rw [aZv] at ha hd1 hn1 ⊢
      generalize aNc person (p.Rates.find? fun r => decide (r.Person = person)) = R at ha hd1 hn1 ⊢
      rw [decide_eq_false (show ¬ R.Den = 0 by omega), decide_eq_false (show ¬ R.Num = 0 by omega)]
      show some _ = _
      rw [← ha]
    · intro k i hi s hs
      have hlt : decide ((i : Int) < ((dZ p).length : Int)) = true := decide_eq_true (by omega)
      have hst := aMi h hs
      have hx : (dZ p)[i] ∈ dZ p := List.getElem_mem hi
      have ha := (mV h) _ hx
      simp only [gF, hlt, cond_true, bQ hi, Option.bind_some, bK (show i < 9223372036854775807 by omega)]
      unfold aBf xB
      cases decide ((dZ p)[i].Person = person) with
      | false => rfl
      | true =>
        by_cases k2 : (dZ p)[i].Kind = 2
        · have hp := aQg h hx k2
          rw [decide_eq_true k2, decide_eq_false (show ¬ (dZ p)[i].Kind = 1 by omega)]
          simp only [Bool.not_true, cond_false, cond_true, Bool.and_true, Bool.and_false]
          rw [cA (show -9223372036854775808 ≤ (dZ p)[i].Amount * p.Daily by omega) (by omega), cA (show -9223372036854775808 ≤ s.1 + (dZ p)[i].Amount * p.Daily by omega) (by omega)]
        · rw [decide_eq_false k2, decide_eq_true (show (dZ p)[i].Kind = 1 by omega)]
          simp only [Bool.not_true, Bool.not_false, cond_false, cond_true, Bool.and_true, Bool.and_false]
          rw [cA (show -9223372036854775808 ≤ s.2 + (dZ p)[i].Amount by omega) (by omega)]
    · intro k s
      have hlt : decide (((dZ p).length : Int) < ((dZ p).length : Int)) = false := decide_eq_false (by omega)
      simp only [gF, hlt, cond_false]
  · intro k i hi s hs
    have hlt : decide ((i : Int) < (p.Levies.length : Int)) = true := decide_eq_true (by omega)
    have hstep := aOl h hg (List.getElem_mem hi)
    simp only [iA, hlt, cond_true, bQ hi, Option.bind_some, bK (show i < 9223372036854775807 by omega), hstep]
    cases decide (p.Levies[i].Person = person) <;> rfl
  · intro k s
    have hlt : decide ((p.Levies.length : Int) < (p.Levies.length : Int)) = false := decide_eq_false (by omega)
    simp only [iA, hlt, cond_false]
def aPj {β : Type} (b : Bool) (s : List β) (y : β) : List β := bif b then s ++ [y] else s
omit hz h in
theorem aEf {α β : Type} (q : α → Bool) (f : α → β) : ∀ (l : List α) (s : List β), l.foldl (fun s x => aPj (q x) s (f x)) s = s ++ (l.filter q).map f
  | [], s => by simp
  | x :: l, s => by
    rw [List.foldl_cons, aEf q f l, List.filter_cons]
    unfold aPj
    cases q x <;> simp
theorem aTh : nW p = some (rK p d) := by
  have ht := wT h.teams
  unfold nW rK zY
  have hN : ((List.range 1000).map fun n : Nat => (n : Int)).length = 1000 := by rw [List.length_map, List.length_range]
  have hg : ∀ (i : Nat) (hi : i < ((List.range 1000).map fun n : Nat => (n : Int)).length), ((List.range 1000).map fun n : Nat => (n : Int))[i] = (i : Int) := fun i hi => by rw [List.getElem_map, List.getElem_range]
  generalize ((List.range 1000).map fun n : Nat => (n : Int)) = R at hN hg ⊢
  have main := mL (fun k i s => iL p k i s) R (fun s n => aPj (kZ p n) s (vF p d n)) (fun s => some s) [] ?_ ?_ BIG (cN (by omega))
  · refine Eq.trans main ?_
    rw [aEf (kZ p) (vF p d)]; rfl
  · intro k i hi s hs
    have hlt : decide ((i : Int) ≤ 999) = true := decide_eq_true (by omega)
    have hsl : s.length ≤ i := by
      rw [hs, aEf (kZ p) (vF p d), List.nil_append, List.length_map]
      refine Nat.le_trans (List.length_filter_le _ _) ?_
      rw [List.length_take]; omega
    rw [iL, hlt, cond_true, aAn ht _ hz.teams, Option.bind_some, hg i hi, bK (by omega)]
    unfold aPj
    cases hp : kZ p (i : Int) with
    | false => rfl
    | true => rw [cond_true, cond_true, aYo hz h hp, Option.bind_some, gW (by simp; omega), Option.bind_some]
  · intro k s
    have hlt : decide ((R.length : Int) ≤ 999) = false := decide_eq_false (by omega)
    rw [iL, hlt, cond_false]; rfl
theorem bAk : kG p = some (rK p d, 0) := by
  unfold kG
  rw [aCn hz, Option.bind_some, zV h, decide_eq_true rfl, Bool.not_true, cond_false, aTh hz h, Option.bind_some]
theorem bAp : kJ p = some (aJm p d, 0) := by
  have hl : (rK p d).length ≤ 1000 := by unfold rK; rw [List.length_map]; exact aAe p
  unfold kJ
  rw [aCn hz, Option.bind_some, zV h, decide_eq_true rfl, Bool.not_true, cond_false, aTh hz h, Option.bind_some]
  have hsum := aLs h
  unfold aJm
  generalize rK p d = B at hl hsum ⊢
  have main := mL (fun k i s => jP B (aQ.mk 0 0 0 0 0 0 0 0 0) k i s) (B) aFd (fun s => some (s, (0 : Int))) ⟨-1, 0, 0, 0, 0, 0, 0, 0, 0⟩ ?_ ?_ BIG (cN (by omega))
  · exact main
  · intro k i hi s hs
    have hlt : decide ((i : Int) < (B.length : Int)) = true := decide_eq_true (by omega)
    have hin : SumIn s 1000 := by
      rw [hs]
      refine (aRp (B.take i) _ 0 (aRw (-1)) fun b hb => hsum b (List.mem_of_mem_take hb)).mono ?_
      rw [List.length_take]; omega
    rw [jP, hlt, cond_true, bQ hi, Option.bind_some, aRq hin (hsum _ (List.getElem_mem hi)), bK (by omega)]
  · intro k s
    have hlt : decide ((B.length : Int) < (B.length : Int)) = false := decide_eq_false (by omega)
    rw [jP, hlt, cond_false]; rfl
theorem bAj (person : Int) : lF p person = some (bif kZ p person then (vF p d person, 0) else (⟨0, 0, 0, 0, 0, 0, 0, 0, 0⟩, 1)) := by
  have ht := wT h.teams
  unfold lF
  rw [aCn hz, Option.bind_some, zV h, decide_eq_true rfl, Bool.not_true, cond_false, aAn ht _ hz.teams, Option.bind_some]
  cases hp : kZ p person with
  | false => rfl
  | true => rw [Bool.not_true, cond_false, cond_true, aYo hz h hp, Option.bind_some]
end
section
variable {p : aN} (hz : Sz p)
include hz
theorem aZa (hc : iU p ≠ 0) : kG p = some ([], iU p) := by
  unfold kG
  rw [aCn hz, Option.bind_some, decide_eq_false hc, Bool.not_false, cond_true]
theorem aZd (hc : iU p ≠ 0) : kJ p = some (⟨0, 0, 0, 0, 0, 0, 0, 0, 0⟩, iU p) := by
  unfold kJ
  rw [aCn hz, Option.bind_some, decide_eq_false hc, Bool.not_false, cond_true]
theorem aYz (hc : iU p ≠ 0) (n : Int) : lF p n = some (⟨0, 0, 0, 0, 0, 0, 0, 0, 0⟩, iU p) := by
  unfold lF
  rw [aCn hz, Option.bind_some, decide_eq_false hc, Bool.not_false, cond_true]
end
end Go.Am

end
section
namespace Go.Am

theorem aCu {α : Type} (g : α → Int) : ∀ (l : List α) (s : Int), l.foldl (fun s x => s + g x) s = s + (l.map g).sum
  | [], s => by simp
  | x :: l, s => by rw [List.foldl_cons, aCu g l, List.map_cons, List.sum_cons, Int.add_assoc]
theorem aJl {α : Type} (g : α → Int) (B : Int) : ∀ (l : List α), (∀ x ∈ l, -B ≤ g x ∧ g x ≤ B) → -(B * l.length) ≤ (l.map g).sum ∧ (l.map g).sum ≤ B * l.length
  | [], _ => by simp
  | x :: l, h => by
    have h1 := aJl g B l fun y hy => h y (List.mem_cons_of_mem _ hy)
    have h2 := h x List.mem_cons_self
    have e : B * (((x :: l).length : Nat) : Int) = B * l.length + B := by rw [List.length_cons, Int.natCast_add, Int.mul_add]; simp
    rw [List.map_cons, List.sum_cons, e]; omega
def wE (p : aN) (i : Nat) : Int := tG p i * 2 ^ (p.Tree.Rounds.toNat - 1 - i)
def aFi (p : aN) (x : Int) : Int := bif decide (x = -1) then -tG p 0 else 0
/-- All prizes of the matches. -/
def aYt (p : aN) : Int := tG p p.Tree.Rounds + ((List.range p.Tree.Rounds.toNat).map (wE p)).sum + (p.Tree.Slots.map (aFi p)).sum
theorem bBy {n : Nat} (h : n ≤ 4) : (1 : Int) ≤ 2 ^ n ∧ (2 : Int) ^ n ≤ 16 := by
  have : n = 0 ∨ n = 1 ∨ n = 2 ∨ n = 3 ∨ n = 4 := by omega
  rcases this with rfl | rfl | rfl | rfl | rfl <;> decide
section
variable {p : aN} (hz : Sz p) {d : List Int} (h : GP p d)
include h
theorem aKo {i : Nat} (hi : i < p.Tree.Rounds.toNat) : 0 ≤ wE p i ∧ wE p i ≤ 160000000 := by
  have h5 := h.good.ht.r5
  have h1 := h.good.ht.r1
  have q := (oS h.prizes (i := (i : Int)) (by omega) (by omega)).2
  have w := bBy (n := p.Tree.Rounds.toNat - 1 - i) (by omega)
  unfold wE
  have m1 := Int.mul_nonneg q.1 (show (0 : Int) ≤ 2 ^ (p.Tree.Rounds.toNat - 1 - i) by omega)
  have m2 : tG p i * 2 ^ (p.Tree.Rounds.toNat - 1 - i) ≤ 10000000 * 16 := Int.mul_le_mul q.2 w.2 (by omega) (by omega)
  omega
theorem aVe (x : Int) : -10000000 ≤ aFi p x ∧ aFi p x ≤ 10000000 := by
  have h1 := h.good.ht.r1
  have q := (oS h.prizes (i := 0) (by omega) (by omega)).2
  unfold aFi
  cases decide (x = -1) <;> simp <;> omega
theorem aKp (i : Nat) : -(160000000 * 5) ≤ (((List.range p.Tree.Rounds.toNat).take i).map (wE p)).sum ∧ (((List.range p.Tree.Rounds.toNat).take i).map (wE p)).sum ≤ 160000000 * 5 := by
  have h5 := h.good.ht.r5
  have := aJl (wE p) 160000000 ((List.range p.Tree.Rounds.toNat).take i) fun x hx => by
    have := List.mem_range.1 (List.mem_of_mem_take hx)
    have := aKo h this
    omega
  have hl : ((List.range p.Tree.Rounds.toNat).take i).length ≤ 5 := by rw [List.length_take, List.length_range]; omega
  omega
theorem aVf (l : List Int) (hl : l.length ≤ 1000) : -(10000000 * 1000) ≤ (l.map (aFi p)).sum ∧ (l.map (aFi p)).sum ≤ 10000000 * 1000 := by
  have := aJl (aFi p) 10000000 l fun x _ => aVe h x
  omega
include hz
theorem bBx : yW p = some (aYt p, 0) := by
  have h5 := h.good.ht.r5
  have h1 := h.good.ht.r1
  have hs := hz.slots
  have qR := oS h.prizes (i := p.Tree.Rounds) (by omega) (by omega)
  have q0 := oS h.prizes (i := 0) (by omega) (by omega)
  unfold yW
  rw [aEw hz, Option.bind_some, zV h, decide_eq_true rfl, Bool.not_true, cond_false, qR.1, Option.bind_some]
  have main := mL (fun k i s => nD p.Tree.Rounds p k s i) (List.range p.Tree.Rounds.toNat) (fun s i => s + wE p i) (fun s => xG s p) (tG p p.Tree.Rounds) ?_ ?_ BIG (cN (by rw [List.length_range]; omega))
  · refine Eq.trans main ?_
    rw [aCu]
    unfold xG
    have rt := aKp h p.Tree.Rounds.toNat
    rw [List.take_of_length_le (by rw [List.length_range]; omega)] at rt
    obtain ⟨A, hA⟩ : ∃ A, A = tG p p.Tree.Rounds + ((List.range p.Tree.Rounds.toNat).map (wE p)).sum := ⟨_, rfl⟩
    rw [← hA]
    have main2 := mL (fun k i s => nE p.Tree.Slots (p.Tree.Slots.length : Int) p k s i) p.Tree.Slots (fun s x => s + aFi p x) (fun s => some (s, (0 : Int))) A ?_ ?_ BIG (cN (by omega))
    · refine Eq.trans main2 ?_
      rw [aCu, hA]; rfl
    · intro k i hi s hs'
      have hlt : decide ((i : Int) < (p.Tree.Slots.length : Int)) = true := decide_eq_true (by omega)
      have bt := aVf h (p.Tree.Slots.take i) (by rw [List.length_take]; omega)
      rw [aCu] at hs'
      simp only [nE, hlt, cond_true, bQ hi, Option.bind_some, bK (show i < 9223372036854775807 by omega)]
      unfold aFi
      cases decide (p.Tree.Slots[i] = -1) with
      | true => rw [cond_true, cond_true, q0.1, Option.bind_some, cA (by omega) (by omega)]; rfl
      | false => rw [cond_false, cond_false, Int.add_zero]
    · intro k s
      have hlt : decide ((p.Tree.Slots.length : Int) < (p.Tree.Slots.length : Int)) = false := decide_eq_false (by omega)
      simp only [nE, hlt, cond_false]; rfl
  · intro k i hi s hs'
    have hi' : i < p.Tree.Rounds.toNat := by simpa using hi
    have hlt : decide ((i : Int) < p.Tree.Rounds) = true := decide_eq_true (by omega)
    have rt := aKp h i
    have rr := aKo h hi'
    rw [aCu] at hs'
    have qi := oS h.prizes (i := (i : Int)) (by omega) (by omega)
    have e1 : w64 ((w64 (p.Tree.Rounds - 1)) - (i : Int)) = ((p.Tree.Rounds.toNat - 1 - i : Nat) : Int) := by rw [cA (show -9223372036854775808 ≤ p.Tree.Rounds - 1 by omega) (by omega), cA (by omega) (by omega)]; omega
    have e2 : min (((p.Tree.Rounds.toNat - 1 - i : Nat) : Int)).toNat 64 = p.Tree.Rounds.toNat - 1 - i := by omega
    simp only [nD, hlt, cond_true, qi.1, Option.bind_some, e1, e2, bK (show i < 9223372036854775807 by omega)]
    rw [decide_eq_true (by omega)]
    show nD p.Tree.Rounds p k (w64 (s + w64 (wE p i))) _ = _
    rw [cA (n := wE p i) (by omega) (by omega), cA (by omega) (by omega), List.getElem_range]
  · intro k s
    have hlt : decide ((((List.range p.Tree.Rounds.toNat).length : Nat) : Int) < p.Tree.Rounds) = false := decide_eq_false (by rw [List.length_range]; omega)
    simp only [nD, hlt, cond_false]
end
section
variable {p : aN} (hz : Sz p)
include hz
end
end Go.Am

end
section
namespace Go.Am

def aFn : aN := (oL).getD ⟨⟨0, []⟩, [], [], 0, [], [], [], []⟩
theorem aZh : oL = some aFn := rfl
theorem aZj : iU aFn = 0 := by kernel_rfl
theorem aVo : (fN aFn.Tree aFn.Slips).map (fun r => r.1.Slots) = some [1, 2, 3, 4] := by kernel_rfl
theorem aVp : aYt aFn = 1501 := by kernel_rfl
theorem aZi : kZ aFn 22 = true := by kernel_rfl
theorem aVn : vF aFn [1, 2, 3, 4] 22 = ⟨22, 50, 0, 0, 0, 0, 16, 48, 2⟩ := by kernel_rfl
theorem aUc : (aJm aFn [1, 2, 3, 4]).Debt = 60 := by kernel_rfl
theorem aNr : Sz aFn := ⟨by decide, by decide, by decide, by decide, by decide, by decide, by decide⟩
theorem aJo : nU = some true := by
  obtain ⟨d, hg⟩ := aPl aZj
  have hd : d = [1, 2, 3, 4] := by
    have h1 := aVo
    rw [(aOn hg.good).1] at h1
    exact Option.some.inj h1
  subst hd
  unfold nU
  rw [aZh, Option.bind_some, bBx aNr hg, Option.bind_some, aWd aNr hg, Option.bind_some, aWh aNr hg, Option.bind_some, aZi, cond_true]
  simp only [aVp, aVn, aUc]
  rfl
end Go.Am

end
section
namespace Go.Am

structure NearP (p : aN) : Prop where
  slots : p.Tree.Slots.length ≤ 8
  slips : p.Slips.length ≤ 20
  prizes : p.Prizes.length ≤ 20
  teams : p.Teams.length ≤ 40
  levies : p.Levies.length ≤ 40
  rates : p.Rates.length ≤ 40
  items : p.Items.length ≤ 60
theorem NearP.sz {p : aN} (h : NearP p) : Sz p := by
  obtain ⟨h1, h2, h3, h4, h5, h6, h7⟩ := h
  exact ⟨by omega, by omega, by omega, by omega, by omega, by omega, by omega⟩
theorem bAx (p : aN) : nT p = some true ∨ (nT p = some false ∧ NearP p) := by
  have hf : nT p = some (decide (8 < (p.Tree.Slots.length : Int)) || decide (20 < (p.Slips.length : Int)) || decide (20 < (p.Prizes.length : Int)) || decide (40 < (p.Teams.length : Int)) || decide (40 < (p.Levies.length : Int)) || decide (40 < (p.Rates.length : Int)) || decide (60 < (p.Items.length : Int))) := by
    unfold nT
    rw [eP, Option.bind_some, eP, Option.bind_some, eP, Option.bind_some, eP, Option.bind_some, eP, Option.bind_some, eP, Option.bind_some]
  cases hb : (decide (8 < (p.Tree.Slots.length : Int)) || decide (20 < (p.Slips.length : Int)) || decide (20 < (p.Prizes.length : Int)) || decide (40 < (p.Teams.length : Int)) || decide (40 < (p.Levies.length : Int)) || decide (40 < (p.Rates.length : Int)) || decide (60 < (p.Items.length : Int))) with
  | true => exact .inl (by rw [hf, hb])
  | false =>
    refine .inr ⟨by rw [hf, hb], ?_⟩
    simp only [Bool.or_eq_false_iff, decide_eq_false_iff_not] at hb
    obtain ⟨⟨⟨⟨⟨⟨a, b⟩, c⟩, d⟩, e⟩, f⟩, g⟩ := hb
    exact ⟨by omega, by omega, by omega, by omega, by omega, by omega, by omega⟩
theorem bBr {p : aN} (h : Sz p) : rX p = some p := by
  obtain ⟨h1, h2, h3, h4, h5, h6, h7⟩ := h
  unfold rX
  rw [gW (by simp; omega), Option.bind_some, gW (by simp; omega), Option.bind_some, gW (by simp; omega), Option.bind_some, gW (by simp; omega), Option.bind_some, gW (by simp; omega), Option.bind_some, gW (by simp; omega), Option.bind_some, gW (by simp; omega), Option.bind_some]
  simp
/-- A loop that compares a row with itself. -/
theorem yE {α T : Type} [DecidableEq α] (F : Nat → Int → T) (l : List α) (bad K : T) (h1 : ∀ k i (hi : i < l.length), F (k + 1) (i : Nat) = bif !decide (l[i] = l[i]) then bad else F k ((i + 1 : Nat) : Int)) (h2 : ∀ k, F (k + 1) (l.length : Nat) = K) (hb : l.length ≤ 1000000) : F BIG 0 = K := by
  have := pB F l (fun _ => true) bad K (fun k i hi => by rw [h1 k i hi, decide_eq_true rfl]; rfl) h2 hb
  rw [this]
  have : l.all (fun _ => true) = true := by simp
  rw [this, cond_true]
theorem aUu (l : List aH) (hl : l.length ≤ 1000) : mS l l = some true := by
  unfold mS
  rw [decide_eq_true rfl, Bool.not_true, cond_false]
  refine yE (fun k i => gX l l k i) l (some false) _ (fun k i hi => ?_) (fun k => ?_) (by omega)
  · have hlt : decide ((i : Int) < (l.length : Int)) = true := decide_eq_true (by omega)
    rw [gX, hlt, cond_true, bQ hi, Option.bind_some, Option.bind_some, bK (by omega)]
  · have hlt : decide ((l.length : Int) < (l.length : Int)) = false := decide_eq_false (by omega)
    rw [gX, hlt, cond_false]; rfl
theorem bCa {p : aN} (h : Sz p) : rM p p = some true := by
  obtain ⟨h1, h2, h3, h4, h5, h6, h7⟩ := h
  have d0 : ∀ n : Int, decide (n = n) = true := fun n => decide_eq_true rfl
  unfold rM
  rw [d0, d0, d0, d0, d0, d0, d0, d0, aUu _ h7]
  show iV p p BIG 0 = _
  have s0 := yE (fun k i => iV p p k i) p.Tree.Slots (some false) (rN p p) (fun k i hi => by
    have hlt : decide ((i : Int) < (p.Tree.Slots.length : Int)) = true := decide_eq_true (by omega)
    rw [iV, hlt, cond_true, bQ hi, Option.bind_some, Option.bind_some, bK (by omega)]) (fun k => by
    have hlt : decide ((p.Tree.Slots.length : Int) < (p.Tree.Slots.length : Int)) = false := decide_eq_false (by omega)
    rw [iV, hlt, cond_false]) (by omega)
  refine Eq.trans s0 ?_
  unfold rN
  have s2 := yE (fun k i => kA p p k i) p.Slips (some false) (rO p p) (fun k i hi => by
    have hlt : decide ((i : Int) < (p.Slips.length : Int)) = true := decide_eq_true (by omega)
    rw [kA, hlt, cond_true, bQ hi, Option.bind_some, Option.bind_some, bK (by omega)]) (fun k => by
    have hlt : decide ((p.Slips.length : Int) < (p.Slips.length : Int)) = false := decide_eq_false (by omega)
    rw [kA, hlt, cond_false]) (by omega)
  refine Eq.trans s2 ?_
  unfold rO
  have s4 := yE (fun k i => kB p p k i) p.Prizes (some false) (rP p p) (fun k i hi => by
    have hlt : decide ((i : Int) < (p.Prizes.length : Int)) = true := decide_eq_true (by omega)
    rw [kB, hlt, cond_true, bQ hi, Option.bind_some, Option.bind_some, bK (by omega)]) (fun k => by
    have hlt : decide ((p.Prizes.length : Int) < (p.Prizes.length : Int)) = false := decide_eq_false (by omega)
    rw [kB, hlt, cond_false]) (by omega)
  refine Eq.trans s4 ?_
  unfold rP
  have s6 := yE (fun k i => kC p p k i) p.Teams (some false) (rQ p p) (fun k i hi => by
    have hlt : decide ((i : Int) < (p.Teams.length : Int)) = true := decide_eq_true (by omega)
    rw [kC, hlt, cond_true, bQ hi, Option.bind_some, Option.bind_some, bK (by omega)]) (fun k => by
    have hlt : decide ((p.Teams.length : Int) < (p.Teams.length : Int)) = false := decide_eq_false (by omega)
    rw [kC, hlt, cond_false]) (by omega)
  refine Eq.trans s6 ?_
  unfold rQ
  have s8 := yE (fun k i => kD p p k i) p.Levies (some false) (rR p p) (fun k i hi => by
    have hlt : decide ((i : Int) < (p.Levies.length : Int)) = true := decide_eq_true (by omega)
    rw [kD, hlt, cond_true, bQ hi, Option.bind_some, Option.bind_some, bK (by omega)]) (fun k => by
    have hlt : decide ((p.Levies.length : Int) < (p.Levies.length : Int)) = false := decide_eq_false (by omega)
    rw [kD, hlt, cond_false]) (by omega)
  refine Eq.trans s8 ?_
  unfold rR
  refine yE (fun k i => jN p p k i) p.Rates (some false) (some true) (fun k i hi => by
    have hlt : decide ((i : Int) < (p.Rates.length : Int)) = true := decide_eq_true (by omega)
    rw [jN, hlt, cond_true, bQ hi, Option.bind_some, Option.bind_some, bK (by omega)]) (fun k => by
    have hlt : decide ((p.Rates.length : Int) < (p.Rates.length : Int)) = false := decide_eq_false (by omega)
    rw [jN, hlt, cond_false]; rfl) (by omega)
end Go.Am

end
