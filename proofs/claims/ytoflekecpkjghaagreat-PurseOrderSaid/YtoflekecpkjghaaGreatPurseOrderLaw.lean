/- The plain law PurseOrder. -/
import Derived.Test.YtoflekecpkjghaaGreatPpPlain16
import Derived.Test.YtoflekecpkjghaaGreatPpWorks
namespace Go.Am

theorem aTo {α : Type} (l : List α) : ∀ m, (List.range m).filterMap (fun q => l[q]?) = l.take m
  | 0 => by simp
  | m + 1 => by
    rw [List.range_succ, List.filterMap_append, aTo l m, List.take_add_one]
    cases h : l[m]? <;> simp [h]
/-- The first rows of a turned list. -/
def qE {α : Type} (l : List α) (t i : Nat) : List α := (List.range i).filterMap fun j => l[(j + t) % l.length]?
theorem aJi {α : Type} {l : List α} {t i : Nat} (h : (i + t) % l.length < l.length) : qE l t (i + 1) = qE l t i ++ [l[(i + t) % l.length]] := by
  unfold qE
  rw [List.range_succ, List.filterMap_append]
  simp [List.getElem?_eq_getElem h]
theorem aJt {n m B : Nat} (hm : m < n) : ((m + (n - B % n)) % n + B) % n = m := by
  have hB := Nat.mod_lt B (show n > 0 by omega)
  rw [Nat.mod_add_mod]
  have e : m + (n - B % n) + B = m + n * (1 + B / n) := by
    have := Nat.div_add_mod B n
    rw [Nat.mul_add, Nat.mul_one]
    omega
  rw [e, Nat.add_mul_mod_self_left, Nat.mod_eq_of_lt hm]
theorem aJh {α : Type} (l : List α) (t : Nat) : (qE l t l.length).Perm l := by
  have e : qE l t l.length = ((List.range l.length).map fun j => (j + t) % l.length).filterMap fun q => l[q]? := by
    unfold qE
    rw [List.filterMap_map]
    rfl
  have hp : ((List.range l.length).map fun j => (j + t) % l.length).Perm (List.range l.length) := by
    by_cases h0 : l.length = 0
    · rw [h0]; exact .refl _
    refine bBa ?_ List.nodup_range fun m => ?_
    · refine List.pairwise_map.2 (List.nodup_range.imp_of_mem fun {a b} ha hb hab he => hab ?_)
      have ha := List.mem_range.1 ha
      have hb := List.mem_range.1 hb
      have h1 := aJt (n := l.length) (B := l.length - t % l.length) ha
      have h2 := aJt (n := l.length) (B := l.length - t % l.length) hb
      have ht := Nat.mod_lt t (show l.length > 0 by omega)
      have key : ∀ x, x < l.length → ((x + t) % l.length + (l.length - t % l.length)) % l.length = x := fun x hx => by
        rw [Nat.mod_add_mod]
        have e : x + t + (l.length - t % l.length) = x + l.length * (1 + t / l.length) := by
          have := Nat.div_add_mod t l.length
          rw [Nat.mul_add, Nat.mul_one]
          omega
        rw [e, Nat.add_mul_mod_self_left, Nat.mod_eq_of_lt hx]
      rw [← key a ha, ← key b hb, he]
    · rw [List.mem_map, List.mem_range]
      constructor
      · rintro ⟨j, _, rfl⟩; exact Nat.mod_lt _ (by omega)
      · intro hm
        exact ⟨(m + (l.length - t % l.length)) % l.length, List.mem_range.2 (Nat.mod_lt _ (by omega)), aJt hm⟩
  rw [e]
  have := hp.filterMap fun q => l[q]?
  rw [aTo, List.take_length] at this
  exact this
/-- The place that comes next. -/
theorem aDa {α : Type} {l : List α} {t i : Nat} (hi : i < l.length) (ht : t ≤ 100) (hl : l.length ≤ 1000) : chk (!decide ((l.length : Int) = 0)) = some () ∧ ∃ h : (i + t) % l.length < l.length, idx l ((w64 ((i : Int) + (t : Int))).tmod (l.length : Int)) = some l[(i + t) % l.length] := by
  have h := Nat.mod_lt (i + t) (show l.length > 0 by omega)
  refine ⟨by rw [decide_eq_false (by omega)]; rfl, h, ?_⟩
  have e1 : w64 ((i : Int) + (t : Int)) = ((i + t : Nat) : Int) := by rw [cC (by omega) (by omega)]; omega
  have e2 : ((i + t : Nat) : Int).tmod (l.length : Int) = (((i + t) % l.length : Nat) : Int) := by
    rw [Int.tmod_eq_emod_of_nonneg (by omega)]; rfl
  rw [e1, e2, bY h]
theorem aWu (B : List bC) (hbl : B.length ≤ 1000) (C : Option Int) (D : Option (List bC × Int)) (hC : C = some 0) (hD : D = some (B, 0)) :
    ((bif !decide ((0 : Int) = 0) then (some true) else (some (!decide ((0 : Int) = 0)))).bind fun b48 =>
    (bif b48 then (some true) else (some (!decide ((0 : Int) = 0)))).bind fun b49 =>
    (bif b49 then (some true) else (C.bind fun r50 =>
    some (!decide (r50 = 0)))).bind fun b51 =>
    bif b51 then (some false)
    else (D.bind fun r52 =>
    (bif !decide (r52.2 = 0) then (some true) else (some (!decide ((B.length : Int) = (B.length : Int))))).bind fun b53 =>
    (bif b53 then (some true) else (some (!decide ((B.length : Int) = (r52.1.length : Int))))).bind fun b54 =>
    bif b54 then (some false)
    else (eC B B r52.1 BIG 0))) = some true := by
  have hloop : eC B B B BIG 0 = some true := by
    refine qK (S := Unit) (fun k i _ => eC B B B k i) B.length (fun o => o = some true) (fun _ _ => True) ?_ ?_ BIG 0 () (cL (by omega)) trivial
    · rintro k i _ hi _ ih
      have hlt : decide ((i : Int) < (B.length : Int)) = true := decide_eq_true (by omega)
      simp only [eC, hlt, cond_true, bY hi, Option.bind_some, bM (show i < 9223372036854775807 by omega), decide_true, Bool.not_true, cond_false]
      exact ih () trivial
    · rintro k i _ hi _
      have hlt : decide ((i : Int) < (B.length : Int)) = false := decide_eq_false (by omega)
      simp only [eC, hlt, cond_false, qA, aDb, Option.bind_some]
  generalize eC B B = F at hloop
  rw [hC, hD]
  simp only [decide_true, Bool.not_true, cond_false, Option.bind_some, hloop]
section
variable {p : aM} (hn : NearP p) {d : List Int} (hg : GP p d)
include hn hg
theorem aYx {o : aM} (hs : aPt o p) {s : List aF} (hos : o.Slips = s ++ p.Slips) {late : Nat} (hp15 : p.Slips.length ≤ 15) (hl : late ≤ 100) : fO late p s o.Items o.Teams o.Levies o.Rates p.Tree p.Prizes p.Daily = some true := by
  have hz := hn.sz
  obtain ⟨n1, n2, n3, n4, n5, n6, n7⟩ := hn
  have hsl := hs.slen
  have hil := hs.ilen
  have ht1 := hs.teams.length_eq
  have ht2 := hs.levies.length_eq
  have ht3 := hs.rates.length_eq
  have hso : Sz o := ⟨by rw [hs.tree]; omega, by omega, by rw [hs.prizes]; omega, by omega, by omega, by omega, by omega⟩
  have hgo := aFf hg hs
  have hb := aNm hg hs
  unfold fO
  have hsl' : s.length + p.Slips.length = o.Slips.length := by rw [hos, List.length_append]
  rw [eJ (by omega), Option.bind_some, aMx hz hg, Option.bind_some]
  have eo : aM.mk p.Tree (s ++ p.Slips) p.Prizes p.Daily o.Teams o.Levies o.Rates o.Items = o := by
    rw [← hos, ← hs.tree, ← hs.prizes, ← hs.daily]
  rw [eo, aMx hso hgo, hb, Option.bind_some, aZw hz, Option.bind_some]
  have hcut : min (late : Int) (p.Items.length : Int) = ((min late p.Items.length : Nat) : Int) := by omega
  have hcl : min late p.Items.length ≤ p.Items.length := by omega
  rw [hcut]
  generalize min late p.Items.length = c at hcl
  have hsub2 : sub p.Items (c : Int) (p.Items.length : Int) = some (p.Items.drop c) := by
    unfold sub
    rw [if_pos ⟨by omega, by omega, by omega⟩]
    simp
  rw [bBg hcl, Option.bind_some, hsub2, Option.bind_some]
  -- the purse before the merge, and behind it
  obtain ⟨i1, i2, i3⟩ := qJ hg
  let now : aM := ⟨p.Tree, p.Slips, p.Prizes, p.Daily, p.Teams, p.Levies, p.Rates, p.Items.take c⟩
  have hmem : ∀ x ∈ p.Items.take c, x ∈ p.Items := fun x hx => List.mem_of_mem_take hx
  have hgn : GP now d := by
    refine ⟨hg.good, hg.prizes, hg.teams, hg.levies, hg.rates, ?_⟩
    unfold sU
    rw [Bool.and_eq_true, decide_eq_true_eq]
    refine ⟨(wD now).2 ⟨fun x hx => i1 x (hmem x hx), ?_⟩, ?_⟩
    · rintro ⟨x, hx, y, hy, hxy⟩
      exact i2 ⟨x, hmem x hx, y, hmem y hy, hxy⟩
    · show (p.Items.take c).length ≤ 40
      rw [List.length_take]; omega
  have hzn : Sz now := ⟨by show p.Tree.Slots.length ≤ 1000; omega, by show p.Slips.length ≤ 1000; omega, by show p.Prizes.length ≤ 1000; omega, by show p.Teams.length ≤ 1000; omega, by show p.Levies.length ≤ 1000; omega, by show p.Rates.length ≤ 1000; omega, by show (p.Items.take c).length ≤ 1000; rw [List.length_take]; omega⟩
  have hms : aPt (uX now p.Slips (p.Items.drop c)) p := by
    refine ⟨rfl, rfl, rfl, fun x => ?_, ?_, fun x => ?_, ?_, .refl _, .refl _, .refl _⟩
    · show x ∈ p.Slips ++ p.Slips ↔ _
      rw [List.mem_append]; exact or_self_iff
    · show (p.Slips ++ p.Slips).length ≤ 60
      rw [List.length_append]; omega
    · show x ∈ p.Items.take c ++ p.Items.drop c ↔ _
      rw [List.take_append_drop]
    · show (p.Items.take c ++ p.Items.drop c).length ≤ 40
      rw [List.take_append_drop]; exact i3
  have hzm : Sz (uX now p.Slips (p.Items.drop c)) := ⟨by show p.Tree.Slots.length ≤ 1000; omega, by have := hms.slen; omega, by show p.Prizes.length ≤ 1000; omega, by show p.Teams.length ≤ 1000; omega, by show p.Levies.length ≤ 1000; omega, by show p.Rates.length ≤ 1000; omega, by have := hms.ilen; omega⟩
  have hgm := aFf hg hms
  obtain ⟨m1, m2, m3⟩ := qJ hgm
  have hos2 : aPt (aPm (uX now p.Slips (p.Items.drop c))) p := by
    refine ⟨rfl, rfl, rfl, hms.slips, hms.slen, fun x => ?_, aAl hgm, .refl _, .refl _, .refl _⟩
    exact (wC (fun x hx => (tH.1 (m1 x hx)).1) m2 x).trans (hms.items x)
  have hzo : Sz (aPm (uX now p.Slips (p.Items.drop c))) := ⟨hzm.slots, hzm.slips, hzm.prizes, hzm.teams, hzm.levies, hzm.rates, by have := hos2.ilen; omega⟩
  have hgc := aFf hg hos2
  have hmer : aIm now p.Slips (p.Items.drop c) = (aPm (uX now p.Slips (p.Items.drop c)), 0) := by
    unfold aIm
    rw [zN hgn, decide_eq_true rfl, cond_true, zN hgm, decide_eq_true rfl, cond_true]
  obtain ⟨q, hq, hzo, hgc, hbc⟩ : ∃ q, aIm now p.Slips (p.Items.drop c) = (q, 0) ∧ Sz q ∧ GP q d ∧ pO q d = pO p d := ⟨_, hmer, hzo, hgc, aNm hg hos2⟩
  rw [show aM.mk p.Tree p.Slips p.Prizes p.Daily p.Teams p.Levies p.Rates (p.Items.take c) = now from rfl, bCf hzn hzm, hq, Option.bind_some]
  dsimp only
  have hbl : (pO p d).length ≤ 1000 := by unfold pO; rw [List.length_map]; exact aEm p
  have hC : kH q = some 0 := by rw [aVu hzo, zN hgc]
  have hD : mO q = some (pO p d, 0) := by rw [aMx hzo hgc, hbc]
  clear hos2 hgm m1 m2 m3 hzm hms hmer hq hb hgo
  revert hbl hC hD
  generalize pO p d = B
  generalize kH q = C
  generalize mO q = D
  intro hbl hC hD
  exact aWu B hbl C D hC hD
end
section
variable {p : aM} (hn : NearP p) {turn late : Nat} (ht : turn ≤ 100)
include hn ht
theorem aSp {s : List aF} {x : List aG} {a : List bE} {b : List cA} (h : fO late p s x a b (qE p.Rates turn p.Rates.length) p.Tree p.Prizes p.Daily = some true) : fS turn late p s x a b BIG 0 [] p.Tree p.Prizes p.Daily = some true := by
  have hl := hn.rates
  refine qK (S := List bT) (fun k i r => fS turn late p s x a b k i r p.Tree p.Prizes p.Daily) p.Rates.length (fun o => o = some true) (fun i r => r = qE p.Rates turn (min i p.Rates.length) ∧ r.length ≤ i) ?_ ?_ BIG 0 [] (cL (by omega)) ⟨by simp [qE], by simp⟩
  · rintro k i r hi ⟨hr, hrl⟩ ih
    have hlt : decide ((i : Int) < (p.Rates.length : Int)) = true := decide_eq_true (by omega)
    obtain ⟨h1, h2, h3⟩ := aDa (t := turn) hi ht (by omega)
    simp only [fS, hlt, cond_true, h1, h3, Option.bind_some, bM (show i < 9223372036854775807 by omega)]
    rw [eJ (by simp; omega), Option.bind_some]
    refine ih _ ⟨?_, by simp; omega⟩
    rw [hr, show min i p.Rates.length = i by omega, show min (i + 1) p.Rates.length = i + 1 by omega, aJi h2]
  · rintro k i r hi ⟨hr, hrl⟩
    have hlt : decide ((i : Int) < (p.Rates.length : Int)) = false := decide_eq_false (by omega)
    simp only [fS, hlt, cond_false]
    rw [hr, show min i p.Rates.length = p.Rates.length by omega]
    exact h
theorem aQx {s : List aF} {x : List aG} {a : List bE} (h : fO late p s x a (qE p.Levies turn p.Levies.length) (qE p.Rates turn p.Rates.length) p.Tree p.Prizes p.Daily = some true) : fR turn late p s x a [] BIG 0 [] p.Tree p.Prizes p.Daily = some true := by
  have hl := hn.levies
  refine qK (S := List cA) (fun k i r => fR turn late p s x a [] k i r p.Tree p.Prizes p.Daily) p.Levies.length (fun o => o = some true) (fun i r => r = qE p.Levies turn (min i p.Levies.length) ∧ r.length ≤ i) ?_ ?_ BIG 0 [] (cL (by omega)) ⟨by simp [qE], by simp⟩
  · rintro k i r hi ⟨hr, hrl⟩ ih
    have hlt : decide ((i : Int) < (p.Levies.length : Int)) = true := decide_eq_true (by omega)
    obtain ⟨h1, h2, h3⟩ := aDa (t := turn) hi ht (by omega)
    simp only [fR, hlt, cond_true, h1, h3, Option.bind_some, bM (show i < 9223372036854775807 by omega)]
    rw [eJ (by simp; omega), Option.bind_some]
    refine ih _ ⟨?_, by simp; omega⟩
    rw [hr, show min i p.Levies.length = i by omega, show min (i + 1) p.Levies.length = i + 1 by omega, aJi h2]
  · rintro k i r hi ⟨hr, hrl⟩
    have hlt : decide ((i : Int) < (p.Levies.length : Int)) = false := decide_eq_false (by omega)
    simp only [fR, hlt, cond_false]
    rw [hr, show min i p.Levies.length = p.Levies.length by omega]
    unfold rC
    exact aSp hn ht h
theorem aSq {s : List aF} {x : List aG} (h : fO late p s x (qE p.Teams turn p.Teams.length) (qE p.Levies turn p.Levies.length) (qE p.Rates turn p.Rates.length) p.Tree p.Prizes p.Daily = some true) : fQ turn late p s x [] [] BIG 0 [] p.Tree p.Prizes p.Daily = some true := by
  have hl := hn.teams
  refine qK (S := List bE) (fun k i r => fQ turn late p s x [] [] k i r p.Tree p.Prizes p.Daily) p.Teams.length (fun o => o = some true) (fun i r => r = qE p.Teams turn (min i p.Teams.length) ∧ r.length ≤ i) ?_ ?_ BIG 0 [] (cL (by omega)) ⟨by simp [qE], by simp⟩
  · rintro k i r hi ⟨hr, hrl⟩ ih
    have hlt : decide ((i : Int) < (p.Teams.length : Int)) = true := decide_eq_true (by omega)
    obtain ⟨h1, h2, h3⟩ := aDa (t := turn) hi ht (by omega)
    simp only [fQ, hlt, cond_true, h1, h3, Option.bind_some, bM (show i < 9223372036854775807 by omega)]
    rw [eJ (by simp; omega), Option.bind_some]
    refine ih _ ⟨?_, by simp; omega⟩
    rw [hr, show min i p.Teams.length = i by omega, show min (i + 1) p.Teams.length = i + 1 by omega, aJi h2]
  · rintro k i r hi ⟨hr, hrl⟩
    have hlt : decide ((i : Int) < (p.Teams.length : Int)) = false := decide_eq_false (by omega)
    simp only [fQ, hlt, cond_false]
    rw [hr, show min i p.Teams.length = p.Teams.length by omega]
    unfold rB
    exact aQx hn ht h
theorem aSo {s : List aF} (h18 : p.Items.length ≤ 18) (h : ∀ x : List aG, (∀ y, y ∈ x ↔ y ∈ p.Items) → x.length ≤ 40 → fO late p s x (qE p.Teams turn p.Teams.length) (qE p.Levies turn p.Levies.length) (qE p.Rates turn p.Rates.length) p.Tree p.Prizes p.Daily = some true) : fP turn late p s [] [] [] BIG 0 [] p.Tree p.Prizes p.Daily = some true := by
  refine qK (S := List aG) (fun k i r => fP turn late p s [] [] [] k i r p.Tree p.Prizes p.Daily) p.Items.length (fun o => o = some true) (fun i r => (∀ y ∈ r, y ∈ p.Items) ∧ (∀ j (hj : j < p.Items.length), j < i → p.Items[j] ∈ r) ∧ r.length ≤ 2 * min i p.Items.length) ?_ ?_ BIG 0 [] (cL (by omega)) ⟨by simp, by simp, by simp⟩
  · rintro k i r hi ⟨h1, h2, h3⟩ ih
    have hlt : decide ((i : Int) < (p.Items.length : Int)) = true := decide_eq_true (by omega)
    obtain ⟨g1, g2, g3⟩ := aDa (t := turn) hi ht (by omega)
    simp only [fP, hlt, cond_true, g1, g3, bY hi, Option.bind_some, bM (show i < 9223372036854775807 by omega)]
    rw [eJ (by simp; omega), Option.bind_some]
    refine ih _ ⟨fun y hy => ?_, fun j hj hji => ?_, by simp; omega⟩
    · rcases List.mem_append.1 hy with hy | hy
      · exact h1 y hy
      · rcases List.mem_cons.1 hy with rfl | hy
        · exact List.getElem_mem g2
        · rw [List.mem_singleton.1 hy]; exact List.getElem_mem hi
    · by_cases e : j = i
      · subst e; exact List.mem_append.2 (.inr (List.mem_cons_of_mem _ List.mem_cons_self))
      · exact List.mem_append.2 (.inl (h2 j hj (by omega)))
  · rintro k i r hi ⟨h1, h2, h3⟩
    have hlt : decide ((i : Int) < (p.Items.length : Int)) = false := decide_eq_false (by omega)
    simp only [fP, hlt, cond_false]
    unfold rA
    refine aSq hn ht (h r (fun y => ⟨h1 y, fun hy => ?_⟩) (by omega))
    obtain ⟨j, hj, rfl⟩ := List.getElem_of_mem hy
    exact h2 j hj (by omega)
end
theorem aAw (p : aM) (turn late : Int) (_ : aMt p) (_ : okI turn) (_ : okI late) : oV p turn late = some true := by
  unfold oV
  rcases aZr p with h | ⟨h, hn, d, hg⟩
  · rw [h, Option.bind_some, Bool.not_false, cond_true, Option.bind_some, cond_true, Option.bind_some, cond_true, Option.bind_some, cond_true, Option.bind_some, cond_true, Option.bind_some, cond_true, Option.bind_some, cond_true, aDb, Option.bind_some]
  · have hz := hn.sz
    rw [h, Option.bind_some, Bool.not_true, cond_false, Option.bind_some, dP, Option.bind_some, dP, Option.bind_some, dP, Option.bind_some, dP, Option.bind_some, dP, Option.bind_some]
    cases hb : (decide (turn < 0) || decide (100 < turn) || decide (late < 0) || decide (100 < late) || decide (15 < (p.Slips.length : Int)) || decide (18 < (p.Items.length : Int))) with
    | true => rw [cond_true, aDb, Option.bind_some]
    | false =>
      simp only [Bool.or_eq_false_iff, decide_eq_false_iff_not] at hb
      obtain ⟨⟨⟨⟨⟨b1, b2⟩, b3⟩, b4⟩, b5⟩, b6⟩ := hb
      obtain ⟨turn, rfl⟩ : ∃ n : Nat, turn = n := ⟨turn.toNat, by omega⟩
      obtain ⟨late, rfl⟩ : ∃ n : Nat, late = n := ⟨late.toNat, by omega⟩
      have ht : turn ≤ 100 := by omega
      have hp15 : p.Slips.length ≤ 15 := by omega
      rw [cond_false, aZw hz, Option.bind_some]
      refine qK (S := List aF) (fun k i r => gV turn late p [] [] [] [] k i r p.Tree p.Prizes p.Daily) p.Slips.length (fun o => o = some true) (fun i r => (∀ y ∈ r, y ∈ p.Slips) ∧ r.length ≤ min i p.Slips.length) ?_ ?_ BIG 0 [] (cL (by omega)) ⟨by simp, by simp⟩
      · rintro k i r hi ⟨h1, h3⟩ ih
        have hlt : decide ((i : Int) < (p.Slips.length : Int)) = true := decide_eq_true (by omega)
        obtain ⟨g1, g2, g3⟩ := aDa (t := turn) hi ht (by omega)
        simp only [gV, hlt, cond_true, g1, g3, Option.bind_some, bM (show i < 9223372036854775807 by omega)]
        rw [eJ (by simp; omega), Option.bind_some]
        refine ih _ ⟨fun y hy => ?_, by simp; omega⟩
        rcases List.mem_append.1 hy with hy | hy
        · exact h1 y hy
        · rw [List.mem_singleton.1 hy]; exact List.getElem_mem g2
      · rintro k i r hi ⟨h1, h3⟩
        have hlt : decide ((i : Int) < (p.Slips.length : Int)) = false := decide_eq_false (by omega)
        simp only [gV, hlt, cond_false]
        unfold qZ
        refine aSo hn ht (by omega) fun x hx hxl => ?_
        have hs : aPt ⟨p.Tree, r ++ p.Slips, p.Prizes, p.Daily, qE p.Teams turn p.Teams.length, qE p.Levies turn p.Levies.length, qE p.Rates turn p.Rates.length, x⟩ p := by
          refine ⟨rfl, rfl, rfl, fun y => ?_, ?_, hx, hxl, aJh _ _, aJh _ _, aJh _ _⟩
          · show y ∈ r ++ p.Slips ↔ _
            rw [List.mem_append]
            exact ⟨fun h => h.elim (h1 y) id, .inr⟩
          · show (r ++ p.Slips).length ≤ 60
            rw [List.length_append]; omega
        exact aYx hn hg hs rfl hp15 (by omega)
end Go.Am
