/- The plain law PurseMore. -/
import Derived.Test.YtoflekecpkjghaaPpPlain18
import Derived.Test.YtoflekecpkjghaaPpWorks
import Derived.Test.YtoflekecpkjghaaPuSh
namespace Go.Am

def yS (p : aN) (s : List aF) : aN := ⟨p.Tree, s, p.Prizes, p.Daily, p.Teams, p.Levies, p.Rates, p.Items⟩
theorem aPq {p : aN} (h : NearP p) {s : List aF} (hs : s.length ≤ 20) : Sz (yS p s) := by
  obtain ⟨n1, n2, n3, n4, n5, n6, n7⟩ := h
  exact ⟨by show p.Tree.Slots.length ≤ 1000; omega, by show s.length ≤ 1000; omega, by show p.Prizes.length ≤ 1000; omega, by show p.Teams.length ≤ 1000; omega, by show p.Levies.length ≤ 1000; omega, by show p.Rates.length ≤ 1000; omega, by show p.Items.length ≤ 1000; omega⟩
section
variable {p : aN} (hn : NearP p) {d : List Int} (hg : GP p d) {person : Int} (hp : mB p person = true)
include hn hg hp
theorem aWc {s : List aF} (h1 : ∀ x ∈ s, x ∈ p.Slips) (h2 : ∀ x ∈ p.Slips, x.Kind = 5 → x ∈ s) (h3 : s.length ≤ 20) : mF person p s p.Tree p.Prizes p.Daily p.Teams p.Levies p.Rates p.Items = some true := by
  unfold mF
  have hz := hn.sz
  have hzo := aPq hn h3
  have e : aN.mk p.Tree s p.Prizes p.Daily p.Teams p.Levies p.Rates p.Items = yS p s := rfl
  rw [e, aTj hzo, Option.bind_some]
  by_cases hc : tG (yS p s) = 0
  · rw [decide_eq_true hc, Bool.not_true, cond_false]
    obtain ⟨d', ho⟩ := aRx hc
    have hf : aRl (yS p s) p := ⟨rfl, rfl, rfl, h1, h2⟩
    have hd := aKa hf hg ho
    subst hd
    have hpo : mB (yS p s) person = true := hp
    have hgm := aRy hf hg ho (person := person) rfl
    have hbm := aTb hg ho (person := person) hgm.1 rfl rfl rfl rfl
    rw [aLs hzo ho, Option.bind_some, aLs hz hg, Option.bind_some, aOt hzo ho, Option.bind_some, aOt hz hg, Option.bind_some, hpo, hp, cond_true, cond_true, cond_true, cond_true]
    dsimp only
    rw [decide_eq_true hgm.1, decide_eq_true hgm.2, decide_eq_true hbm, uG]
    rfl
  · rw [decide_eq_false hc, Bool.not_false, cond_true, uG]
    rfl
theorem aUd {later : List Int} (hl : later.length ≤ 20) : dH later person p BIG 0 [] p.Tree p.Prizes p.Daily p.Teams p.Levies p.Rates p.Items = some true := by
  have hsl := hn.slips
  refine wA (S := List aF) (fun k i s => dH later person p k i s p.Tree p.Prizes p.Daily p.Teams p.Levies p.Rates p.Items) p.Slips.length (fun o => o = some true)
    (fun i s => (∀ x ∈ s, x ∈ p.Slips) ∧ (∀ j (hj : j < p.Slips.length), j < i → p.Slips[j].Kind = 5 → p.Slips[j] ∈ s) ∧ s.length ≤ min i p.Slips.length) ?_ ?_ BIG 0 [] (cJ (by omega)) ⟨by simp, by simp, by simp⟩
  · rintro k i s hi ⟨h1, h2, h3⟩ ih
    have hlt : decide ((i : Int) < (p.Slips.length : Int)) = true := decide_eq_true (by omega)
    simp only [dH, hlt, cond_true]
    refine wA (S := Bool) (fun q n now => gM (dH later person p k) later person i p s p.Tree p.Prizes p.Daily p.Teams p.Levies p.Rates p.Items q now n) later.length (fun o => o = some true) (fun _ _ => True) ?_ ?_ BIG 0 true (cJ (by omega)) trivial
    · rintro q n now hn' _ ih2
      have hlt2 : decide ((n : Int) < (later.length : Int)) = true := decide_eq_true (by omega)
      simp only [gM, hlt2, cond_true, bP hn', Option.bind_some, bK (show n < 9223372036854775807 by omega)]
      cases now with
      | true => exact ih2 _ trivial
      | false => exact ih2 _ trivial
    · rintro q n now hn' _
      have hlt2 : decide ((n : Int) < (later.length : Int)) = false := decide_eq_false (by omega)
      simp only [gM, hlt2, cond_false, pP, bP hi, Option.bind_some, jV, bK (show i < 9223372036854775807 by omega)]
      have hadd : (dH later person p k) ((i + 1 : Nat) : Int) (s ++ [p.Slips[i]]) p.Tree p.Prizes p.Daily p.Teams p.Levies p.Rates p.Items = some true := by
        refine ih _ ⟨fun x hx => ?_, fun j hj hji hk => ?_, by simp; omega⟩
        · rcases List.mem_append.1 hx with hx | hx
          · exact h1 x hx
          · rw [List.mem_singleton.1 hx]; exact List.getElem_mem hi
        · by_cases e : j = i
          · subst e; exact List.mem_append.2 (.inr (List.mem_singleton.2 rfl))
          · exact List.mem_append.2 (.inl (h2 j hj (by omega) hk))
      have hskip : p.Slips[i].Kind ≠ 5 → (dH later person p k) ((i + 1 : Nat) : Int) s p.Tree p.Prizes p.Daily p.Teams p.Levies p.Rates p.Items = some true := fun hk => by
        refine ih _ ⟨h1, fun j hj hji hk' => ?_, by omega⟩
        by_cases e : j = i
        · subst e; exact absurd hk' hk
        · exact h2 j hj (by omega) hk'
      rw [gQ (by simp; omega)]
      cases now with
      | true => exact hadd
      | false =>
        by_cases hk : p.Slips[i].Kind = 5
        · rw [decide_eq_true hk]; exact hadd
        · rw [decide_eq_false hk]; exact hskip hk
  · rintro k i s hi ⟨h1, h2, h3⟩
    have hlt : decide ((i : Int) < (p.Slips.length : Int)) = false := decide_eq_false (by omega)
    simp only [dH, hlt, cond_false]
    refine aWc hn hg hp h1 (fun x hx hk => ?_) (by omega)
    obtain ⟨j, hj, rfl⟩ := List.getElem_of_mem hx
    exact h2 j hj (by omega) hk
end
theorem zG (p : aN) (later : List Int) (person : Int) (_ : aKn p) (_ : okL okI later) (_ : okI person) : oO p later person = some true := by
  unfold oO
  rcases aWw p with h | ⟨h, hn, d, hg⟩
  · rw [h, Option.bind_some, Bool.not_false, cond_true, Option.bind_some, cond_true, Option.bind_some, cond_true, uG, Option.bind_some]
  · have hz := hn.sz
    have ht := zQ hg.teams
    rw [h, Option.bind_some, Bool.not_true, cond_false, aBg ht _ hz.teams, Option.bind_some, Option.bind_some]
    cases hp : mB p person with
    | false => rw [Bool.not_false, cond_true, Option.bind_some, cond_true, uG, Option.bind_some]
    | true =>
      rw [Bool.not_true, cond_false, Option.bind_some]
      by_cases hl : 20 < (later.length : Int)
      · rw [decide_eq_true hl, cond_true, uG, Option.bind_some]
      · rw [decide_eq_false hl, cond_false, aZs hz, Option.bind_some]
        exact aUd hn hg hp (by omega)
end Go.Am
