/- Layer 6, plain: the reference's list of draws comes to an end. -/
import Derived.Test.YtiohgpipanopaaaGreatDrPlain7
namespace Go.Am
theorem bFh (l : List Int) (hl : l.length ≤ 1000) (n : Int) : ∃ m, sJ l n = some m := by
 unfold sJ
 have := pK (S := Int) (fun k i s => iU l n k s i) l.length (fun o => ∃ m, o = some m) (fun i _ => i ≤ l.length) (fun k i s hi _ ih => ?_) (fun k i s h5 h6 => ?_) BIG 0 0 (cG (by omega)) (Nat.zero_le _)
 ·exact this
 ·simp only [iU, Int.ofNat_lt, hi, decide_true, cond_true, bU (show i < 9223372036854775807 by omega)]
  rw [bW (bN hi)]
  cases decide (l[i] = n) with
  | true => exact ih _ (by omega)
  | false => exact ih _ (by omega)
 ·have : i = l.length := by omega
  subst this
  simp only [iU, Int.lt_irrefl, decide_false, cond_false, wL]
  exact ⟨_, rfl⟩
section
variable {p : bA} (hp : mI p = true)
include hp
omit hp in
theorem aPq {i : Nat} (hi : i < p.Persons.length) : IsP p (pp p i).Player := .inr (aXv ⟨i, hi, rfl⟩)
theorem aZb : ∃ r, pC p = some r ∧ r.length ≤ 8 ∧ ∀ x ∈ r, IsP p x := by
 have hsz := fY (shp hp)
 unfold pC
 have main := pK (S := List Int) (fun k i o => dZ p k o i) p.Persons.length (fun r => ∃ q, r = some q ∧ q.length ≤ 8 ∧ ∀ x ∈ q, IsP p x) (fun i o => i ≤ p.Persons.length ∧ o.length = i ∧ ∀ x ∈ o, IsP p x) (fun k i o hi hI ih => ?_) (fun k i o h5 h6 => ?_) BIG 0 [] (cG (by omega)) ⟨Nat.zero_le _, rfl, by simp⟩
 ·exact main
 ·obtain ⟨h1, h2, h3⟩ := hI
  simp only [dZ, Int.ofNat_lt, hi, decide_true, cond_true]
  rw [bW (bN hi)]
  have inner := pK (S := Unit) (fun k2 j _ => iL (dZ p k) o i p.Persons[i].Player p k2 j) o.length (fun r => ∃ q, r = some q ∧ q.length ≤ 8 ∧ ∀ x ∈ q, IsP p x) (fun j _ => j ≤ o.length) ?_ ?_ BIG 0 () (cG (by omega)) (Nat.zero_le _)
  ·exact inner
  all_goals
   intro k2 j _ hj hJ
  ·intro ih2
   have hK : ∃ q, kF (dZ p k) o i p.Persons[i].Player j p = some q ∧ q.length ≤ 8 ∧ ∀ x ∈ q, IsP p x := by
    have hs1 : sub o (j : Int) (o.length : Int) = some (o.drop j) := by
     unfold sub
     rw [if_pos ⟨by omega, by omega, Int.le_refl _⟩]
     simp
    unfold kF
    rw [bW hs1, bW (eN (by simp; omega)), bW (aRp hJ), bW (eN (by simp; omega)), bW (eN (by simp; omega))]
    unfold pR
    rw [bU (show i < 9223372036854775807 by omega)]
    refine ih _ ⟨by omega, by simp; omega, fun x hx => ?_⟩
    simp only [List.nil_append, List.mem_append, List.mem_singleton] at hx
    rcases hx with hx | hx | hx
    ·exact h3 x (List.mem_of_mem_take hx)
    ·rw [hx, ← kU hi]; exact aPq hi
    ·exact h3 x (List.mem_of_mem_drop hx)
   simp only [iL, Int.ofNat_lt, hj, decide_true, cond_true, bN hj, Option.bind_some, bU (show j < 9223372036854775807 by omega)]
   cases decide (o[j] < p.Persons[i].Player) with
   | true => exact ih2 () (by omega)
   | false => exact hK
  ·have hje : j = o.length := by omega
   have hK : ∃ q, kF (dZ p k) o i p.Persons[i].Player j p = some q ∧ q.length ≤ 8 ∧ ∀ x ∈ q, IsP p x := by
    have hs1 : sub o (j : Int) (o.length : Int) = some (o.drop j) := by
     unfold sub
     rw [if_pos ⟨by omega, by omega, Int.le_refl _⟩]
     simp
    unfold kF
    rw [bW hs1, bW (eN (by simp; omega)), bW (aRp hJ), bW (eN (by simp; omega)), bW (eN (by simp; omega))]
    unfold pR
    rw [bU (show i < 9223372036854775807 by omega)]
    refine ih _ ⟨by omega, by simp; omega, fun x hx => ?_⟩
    simp only [List.nil_append, List.mem_append, List.mem_singleton] at hx
    rcases hx with hx | hx | hx
    ·exact h3 x (List.mem_of_mem_take hx)
    ·rw [hx, ← kU hi]; exact aPq hi
    ·exact h3 x (List.mem_of_mem_drop hx)
   subst hje
   simp only [iL, Int.lt_irrefl, decide_false, cond_false, Option.bind_some]
   exact hK
 ·obtain ⟨h1, h2, h3⟩ := h6
  have : i = p.Persons.length := by omega
  subst this
  simp only [dZ, Int.lt_irrefl, decide_false, cond_false, tR]
  exact ⟨_, rfl, by omega, h3⟩
theorem bFc {now : List Int} (h0 : 0 < now.length) (h8 : now.length ≤ 8) (hn : ∀ x ∈ now, IsP p x) : ∃ b, sI p now = some b := by
 have hsz := fY (shp hp)
 have e1 : w64 ((now.length : Int) - 1) = ((now.length - 1 : Nat) : Int) := zE h0 (by omega)
 have hlt : now.length - 1 < now.length := by omega
 have hL : ∃ b, fH now ((now.length - 1 : Nat) : Int) p BIG 0 = some b := by
  refine aXt (fun k i => fH now ((now.length - 1 : Nat) : Int) p k i) p.Seeds.toNat (fun k i hi b hb => ?_) (fun k => ?_) BIG (cG (by omega))
  ·have hin : i < p.Persons.length := by omega
   have hlt2 : decide ((i : Int) < p.Seeds) = true := decide_eq_true (by omega)
   simp only [fH, hlt2, cond_true, bU (show i < 9223372036854775807 by omega)]
   rw [bW (bN hlt), bW (bN hin)]
   simp only [dG, Option.bind_some]
   cases decide ((i : Int) = 0) with
   | true =>
    simp only [cond_true]
    cases !decide (decide (now[now.length - 1] = p.Persons[i].Player) = decide (((now.length - 1 : Nat) : Int) = 0)) with
    | true => exact ⟨_, rfl⟩
    | false => exact ⟨b, hb⟩
   | false =>
    simp only [cond_false]
    cases decide ((i : Int) = 1) with
    | true =>
     simp only [cond_true]
     cases !decide (decide (now[now.length - 1] = p.Persons[i].Player) = decide (((now.length - 1 : Nat) : Int) = w64 (p.Size - 1))) with
     | true => exact ⟨_, rfl⟩
     | false => exact ⟨b, hb⟩
    | false =>
     simp only [cond_false]
     cases decide (now[now.length - 1] = p.Persons[i].Player) && !decide (((now.length - 1 : Nat) : Int) = w64 (p.Size.tdiv 4)) && !decide (((now.length - 1 : Nat) : Int) = w64 (w64 (p.Size - 1) - w64 (p.Size.tdiv 4))) with
     | true => exact ⟨_, rfl⟩
     | false => exact ⟨b, hb⟩
  ·have hlt2 : decide (((p.Seeds.toNat : Nat) : Int) < p.Seeds) = false := decide_eq_false (by omega)
   exact ⟨true, by simp only [fH, hlt2, cond_false, wK]⟩
 have hF : ∃ c, ((bif decide (((w64 ((now.length : Int) - 1)).tmod 2) = 1) then ((idx now (w64 ((w64 ((now.length : Int) - 1)) - 1))).bind fun x2 => (idx now (w64 ((now.length : Int) - 1))).bind fun x3 => (kI p x2 x3).bind fun r4 => some (!r4)) else (some false)) : Option Bool) = some c := by
  rw [e1]
  cases ho : decide ((((now.length - 1 : Nat) : Int).tmod 2) = 1) with
  | false => exact ⟨_, rfl⟩
  | true =>
   have h2 : 0 < now.length - 1 := by
    have := of_decide_eq_true ho
    refine Nat.pos_of_ne_zero fun hz => ?_
    rw [hz] at this
    exact absurd this (by decide)
   have h3 : now.length - 1 - 1 < now.length := by omega
   rw [cond_true, zE h2 (by omega), bW (bN h3), bW (bN hlt), bW (aPv (by omega) (hn _ (List.getElem_mem h3)) (hn _ (List.getElem_mem hlt)))]
   exact ⟨_, rfl⟩
 obtain ⟨c, hc⟩ := hF
 unfold sI
 rw [bW hc]
 cases c with
 | true => exact ⟨_, rfl⟩
 | false => rw [cond_false, e1]; exact hL
theorem bAd : ∀ (k fuel : Nat) (first : List Int) (most : Nat), k < fuel → ((first.length + k : Nat) : Int) = p.Size → (∀ x ∈ first, IsP p x) → most ≤ 300 → ∃ r, fV fuel p first most = some r ∧ r.length ≤ most + 1 := by
 have hsz := fY (shp hp)
 intro k
 induction k with
 | zero =>
  intro fuel first most hf hl hn _
  obtain ⟨fuel, rfl⟩ : ∃ q, fuel = q + 1 := ⟨fuel - 1, by omega⟩
  have hc : decide ((first.length : Int) = p.Size) = true := decide_eq_true (by omega)
  obtain ⟨b, hb, _⟩ := aYi hp (S := first) (by omega) hn
  rw [fV, hc, cond_true, bW hb]
  cases b with
  | true => exact ⟨_, rfl, by simp⟩
  | false => exact ⟨_, rfl, by simp⟩
 | succ k ih =>
  intro fuel first most hf hl hn hm
  obtain ⟨fuel, rfl⟩ : ∃ q, fuel = q + 1 := ⟨fuel - 1, by omega⟩
  have hc : decide ((first.length : Int) = p.Size) = false := decide_eq_false (by omega)
  obtain ⟨os, ho, ho8, hoP⟩ := aZb hp
  rw [fV, hc, cond_false, bW ho, bW (eN (xs := [-1]) (ys := os) (by simp; omega))]
  have hch : ∀ x ∈ [-1] ++ os, IsP p x := fun x hx => by
   rcases List.mem_append.1 hx with h | h
   ·exact .inl (List.mem_singleton.1 h)
   ·exact hoP x h
  have hcl : ([-1] ++ os).length ≤ 9 := by simp; omega
  generalize [-1] ++ os = ch at hch hcl
  have main := pK (S := List (List Int)) (fun q i o => fG (fV fuel) first most ch p q i o) ch.length (fun r => ∃ q, r = some q ∧ q.length ≤ most + 1) (fun i o => i ≤ ch.length ∧ o.length ≤ most + 1) (fun q i o hi hI ih2 => ?_) (fun q i o h5 h6 => ?_) BIG 0 [] (cG (by omega)) ⟨Nat.zero_le _, by simp⟩
  ·exact main
  ·obtain ⟨_, h2⟩ := hI
   simp only [fG, Int.ofNat_lt, hi, decide_true, cond_true, Option.bind_some, bU (show i < 9223372036854775807 by omega)]
   by_cases hle : (o.length : Int) ≤ (most : Int)
   ·rw [decide_eq_true hle, cond_true]
    obtain ⟨m, hm2⟩ := bFh first (by omega) (-1)
    have hx := hch _ (List.getElem_mem hi)
    have hin : qA first ch[i] = some (decide (ch[i] ∈ first)) := aQm first (by omega) _
    simp only [bN hi, Option.bind_some, hm2, dG, hin, eL]
    cases (decide (ch[i] = -1) && decide (m = w64 (p.Size - (p.Persons.length : Int))) || !decide (ch[i] = -1) && decide (ch[i] ∈ first)) with
    | true => exact ih2 o ⟨by omega, h2⟩
    | false =>
     rw [cond_false, bW (eN (bytes := 8) (xs := ([] : List Int)) (ys := first) (by simp; omega)), bW (eN (bytes := 8) (xs := [] ++ first) (ys := [ch[i]]) (by simp; omega))]
     have hnow : ∀ x ∈ ([] ++ first) ++ [ch[i]], IsP p x := fun x h => by
      rcases List.mem_append.1 h with h | h
      ·exact hn x (by simpa using h)
      ·rw [List.mem_singleton.1 h]; exact hx
     have hnl : (([] ++ first) ++ [ch[i]]).length = first.length + 1 := by simp
     obtain ⟨b, hb⟩ := bFc hp (now := ([] ++ first) ++ [ch[i]]) (by omega) (by omega) hnow
     rw [bW hb]
     cases b with
     | false => exact ih2 o ⟨by omega, h2⟩
     | true =>
      have e : w64 ((most : Int) - (o.length : Int)) = ((most - o.length : Nat) : Int) := by rw [dF (by omega) (by omega)]; omega
      obtain ⟨r, hr, hrl⟩ := ih fuel (([] ++ first) ++ [ch[i]]) (most - o.length) (by omega) (by omega) hnow (by omega)
      rw [cond_true, e, bW hr, bW (eN (by omega))]
      exact ih2 _ ⟨by omega, by rw [List.length_append]; omega⟩
   ·rw [decide_eq_false hle, cond_false]
    exact ⟨_, rfl, h2⟩
  ·obtain ⟨_, h2⟩ := h6
   have : i = ch.length := by omega
   subst this
   simp only [fG, Int.lt_irrefl, decide_false, cond_false, Option.bind_some]
   exact ⟨_, rfl, h2⟩
end
theorem bEq (p : bA) : ∃ b, tQ p = some b ∧ (b = false → p.Persons.length ≤ 40 ∧ p.Lots.length ≤ 40) := by
 unfold tQ
 simp only [eL, Option.bind_some]
 cases hg : decide (40 < (p.Persons.length : Int)) || decide (40 < (p.Lots.length : Int)) with
 | true => exact ⟨true, rfl, fun h => by cases h⟩
 | false =>
  simp only [Bool.or_eq_false_iff, decide_eq_false_iff_not] at hg
  rw [cond_false, bW (aJr p)]
  cases hp : mI p with
  | false => exact ⟨false, rfl, fun _ => by omega⟩
  | true =>
   have hsz := fY (shp hp)
   obtain ⟨r, hr, _⟩ := bAd hp p.Size.toNat BIG [] 300 (cG (by omega)) (by simp; omega) (by simp) (by omega)
   have hr' : xS p [] 300 = some r := hr
   simp only [if_true, decide_true, cond_true]
   rw [bW hr']
   exact ⟨_, rfl, fun _ => by omega⟩
end Go.Am
