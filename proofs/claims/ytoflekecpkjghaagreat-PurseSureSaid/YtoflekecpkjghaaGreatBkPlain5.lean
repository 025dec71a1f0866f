/- Plain laws, one behind the other. -/
import Derived.Test.YtoflekecpkjghaaGreatPpWorks
import Derived.Test.YtoflekecpkjghaaGreatBkDet
import Derived.KernelRfl
section
namespace Go.Am
structure NearP (p : aP) : Prop where
 slots : p.Tree.Slots.length ≤ 8
 slips : p.Slips.length ≤ 20
 prizes : p.Prizes.length ≤ 20
 teams : p.Teams.length ≤ 40
 levies : p.Levies.length ≤ 40
 rates : p.Rates.length ≤ 40
 items : p.Items.length ≤ 60
theorem NearP.sz {p : aP} (h : NearP p) : Sz p := by
 obtain ⟨h1, h2, h3, h4, h5, h6, h7⟩ := h
 exact ⟨by omega, by omega, by omega, by omega, by omega, by omega, by omega⟩
theorem bAd (p : aP) : nD p = some true ∨ (nD p = some false ∧ NearP p) := by
 have hf : nD p = some (decide (8 < (p.Tree.Slots.length : Int)) || decide (20 < (p.Slips.length : Int)) || decide (20 < (p.Prizes.length : Int)) || decide (40 < (p.Teams.length : Int)) || decide (40 < (p.Levies.length : Int)) || decide (40 < (p.Rates.length : Int)) || decide (60 < (p.Items.length : Int))) := by
  unfold nD
  rw [eC, Option.bind_some, eC, Option.bind_some, eC, Option.bind_some, eC, Option.bind_some, eC, Option.bind_some, eC, Option.bind_some]
 cases hb : (decide (8 < (p.Tree.Slots.length : Int)) || decide (20 < (p.Slips.length : Int)) || decide (20 < (p.Prizes.length : Int)) || decide (40 < (p.Teams.length : Int)) || decide (40 < (p.Levies.length : Int)) || decide (40 < (p.Rates.length : Int)) || decide (60 < (p.Items.length : Int))) with
 | true => exact .inl (by rw [hf, hb])
 | false =>
  refine .inr ⟨by rw [hf, hb], ?_⟩
  simp only [Bool.or_eq_false_iff, decide_eq_false_iff_not] at hb
  obtain ⟨⟨⟨⟨⟨⟨a, b⟩, c⟩, d⟩, e⟩, f⟩, g⟩ := hb
  exact ⟨by omega, by omega, by omega, by omega, by omega, by omega, by omega⟩
end Go.Am
end
section
namespace Go.Am
theorem aXy (p : aP) : nE p = some false ∨ (nE p = some true ∧ NearP p ∧ ∃ d, GP p d) := by
 unfold nE
 rcases bAd p with h | ⟨h, hn⟩
 ·exact .inl (by rw [h]; rfl)
 ·rw [h, Option.bind_some, Bool.not_false, cond_true, aZu hn.sz, Option.bind_some, Option.bind_some]
  by_cases hc : vQ p = 0
  ·exact .inr ⟨by rw [decide_eq_true hc], hn, aYh hc⟩
  ·exact .inl (by rw [decide_eq_false hc])
def Bal (b : aY) : Prop := b.Gross + b.Daily + b.Debt = b.Tax + b.Fines + b.Used + b.Rest
theorem Bal.add {s b : aY} (hs : Bal s) (hb : Bal b) : Bal (aCl s b) := by
 unfold Bal aCl at *
 simp only
 omega
end Go.Am
end
section
namespace Go.Am
section
variable {t : aR} {l l' : List aE} {d : List Int} (h : Good t l d) (h' : Good t l' d) (hsub : ∀ s ∈ l', s ∈ l) {must must' : List (List Int)} (hM : MustIs t must (jE d (Res l))) (hM' : MustIs t must' (jE d (Res l')))
include h h' hsub hM hM'
end
structure aYc (o p : aP) : Prop where
 tree : o.Tree = p.Tree
 prizes : o.Prizes = p.Prizes
 daily : o.Daily = p.Daily
 sub : ∀ s ∈ o.Slips, s ∈ p.Slips
 lucky : ∀ s ∈ p.Slips, s.Kind = 5 → s ∈ o.Slips
section
variable {p o : aP} (hf : aYc o p) {d d' : List Int} (h : GP p d) (ho : GP o d')
include hf h ho
end
theorem aLr {p : aP} (h : qG p = true) {i j : Int} (h0 : 0 ≤ i) (h1 : i ≤ j) (h2 : j ≤ p.Tree.Rounds) : jY p i ≤ jY p j := by
 obtain ⟨⟨_, a2⟩, a3, _⟩ := uX h
 have hi : i.toNat < p.Prizes.length := by omega
 have hj : j.toNat < p.Prizes.length := by omega
 have e1 : jY p i = p.Prizes[i.toNat] := by unfold jY; simp [List.getD, List.getElem?_eq_getElem hi]
 have e2 : jY p j = p.Prizes[j.toNat] := by unfold jY; simp [List.getD, List.getElem?_eq_getElem hj]
 have := aCj a2 (j.toNat - i.toNat) i.toNat (by omega)
 rw [e1, e2]
 have e : i.toNat + (j.toNat - i.toNat) = j.toNat := by omega
 simp only [e] at this
 exact this
theorem aMc {t : bR} {person a b : Int} (h0 : 0 ≤ a) (h : a ≤ b) : qA t person a ≤ qA t person b := by
 unfold qA
 have e1 : (a + 1).tdiv 2 = (a + 1) / 2 := Int.tdiv_eq_ediv_of_nonneg (by omega)
 have e2 : a.tdiv 2 = a / 2 := Int.tdiv_eq_ediv_of_nonneg (by omega)
 have e3 : (b + 1).tdiv 2 = (b + 1) / 2 := Int.tdiv_eq_ediv_of_nonneg (by omega)
 have e4 : b.tdiv 2 = b / 2 := Int.tdiv_eq_ediv_of_nonneg (by omega)
 rw [e1, e2, e3, e4]
 split
 ·exact h
 ·split <;> omega
section
variable {p o : aP} (hf : aYc o p) {d : List Int} (h : GP p d) (ho : GP o d)
include hf h ho
end
end Go.Am
end
section
namespace Go.Am
theorem aVg {α : Type} {R : α → α → Prop} : ∀ {l : List α}, l.Pairwise R → ∀ a ∈ l, ∀ b ∈ l, a = b ∨ R a b ∨ R b a
 | [], _, _, h, _, _ => by cases h
 | x :: l, hp, a, ha, b, hb => by
  obtain ⟨h1, h2⟩ := List.pairwise_cons.1 hp
  rcases List.mem_cons.1 ha with e | ha
  ·rcases List.mem_cons.1 hb with e' | hb
   ·exact .inl (e.trans e'.symm)
   ·rw [e]; exact .inr (.inl (h1 b hb))
  ·rcases List.mem_cons.1 hb with e' | hb
   ·rw [e']; exact .inr (.inr (h1 a ha))
   ·exact aVg h2 a ha b hb
structure bBk (o p : aP) : Prop where
 tree : o.Tree = p.Tree
 prizes : o.Prizes = p.Prizes
 daily : o.Daily = p.Daily
 slips : ∀ s, s ∈ o.Slips ↔ s ∈ p.Slips
 slen : o.Slips.length ≤ 60
 items : ∀ x, x ∈ o.Items ↔ x ∈ p.Items
 ilen : o.Items.length ≤ 40
 teams : o.Teams.Perm p.Teams
 levies : o.Levies.Perm p.Levies
 rates : o.Rates.Perm p.Rates
section
variable {p o : aP} {d : List Int} (h : GP p d)
include h
theorem aXu : p.Teams.Pairwise fun a b => ∀ x ∈ fM a, ∀ y ∈ fM b, x ≠ y := by
 have hn : (cW p).Nodup := by
  have := h.teams
  unfold oC at this
  simp only [Bool.and_eq_true, decide_eq_true_eq] at this
  exact this.1.1.2
 have hpp : (p.Teams.flatMap fM).Nodup ↔ (∀ t ∈ p.Teams, (fM t).Nodup) ∧ p.Teams.Pairwise fun a b => ∀ x ∈ fM a, ∀ y ∈ fM b, x ≠ y := List.pairwise_flatMap
 exact (hpp.1 hn).2
theorem aQk {t : bR} (ht : t ∈ p.Teams) {n : Int} (hs : (decide (t.One = n) || (decide (t.Two = n) && decide (0 ≤ n))) = true) : n ∈ fM t := by
 have htb := oB.1 (qP h.teams t ht)
 simp only [Bool.or_eq_true, Bool.and_eq_true, decide_eq_true_eq] at hs
 rw [kY]
 rcases hs with hs | hs
 ·exact .inl hs.symm
 ·exact .inr ⟨hs.1.symm, by omega⟩
theorem aXs (n : Int) : ∀ x ∈ p.Teams, ∀ y ∈ p.Teams, (decide (x.One = n) || (decide (x.Two = n) && decide (0 ≤ n))) = true → (decide (y.One = n) || (decide (y.Two = n) && decide (0 ≤ n))) = true → x = y := by
 intro x hx y hy h1 h2
 have m1 := aQk h hx h1
 have m2 := aQk h hy h2
 rcases aVg (aXu h) x hx y hy with e | e | e
 ·exact e
 ·exact absurd rfl (e n m1 n m2)
 ·exact absurd rfl (e n m2 n m1)
variable (hs : bBk o p)
include hs
end
end Go.Am
end
section
namespace Go.Am
section
variable {p : aP} {d : List Int} (h : GP p d)
include h
theorem aQj {t : bR} (ht : t ∈ p.Teams) {n : Int} (hn : n ∈ fM t) : tH p n = some t := by
 have hsat : (decide (t.One = n) || (decide (t.Two = n) && decide (0 ≤ n))) = true := by
  have htb := oB.1 (qP h.teams t ht)
  rw [kY] at hn
  simp only [Bool.or_eq_true, Bool.and_eq_true, decide_eq_true_eq]
  rcases hn with rfl | ⟨rfl, h2⟩
  ·exact .inl rfl
  ·exact .inr ⟨rfl, by omega⟩
 unfold tH
 cases e : p.Teams.find? fun t => decide (t.One = n) || (decide (t.Two = n) && decide (0 ≤ n)) with
 | none => exact absurd hsat (List.find?_eq_none.1 e t ht)
 | some x =>
  have hx := List.find?_some e
  rw [aXs h n x (List.mem_of_find?_eq_some e) t ht hx hsat]
theorem aHu (x : Int) : (0 ≤ (iP p d x).1.Low ∧ (iP p d x).1.Low ≤ p.Tree.Rounds) ∧ (0 ≤ (iP p d x).1.High ∧ (iP p d x).1.High ≤ p.Tree.Rounds) := by
 have := h.good.ht.r1
 exact aCv p d x (by omega)
theorem aRv {a : Nat} (ha : a < d.length) (hn : d.getD a 0 ≠ -1) : d.getD a 0 ∈ dP p := by
 have ht := h.teams
 unfold oC at ht
 simp only [Bool.and_eq_true, decide_eq_true_eq] at ht
 obtain ⟨⟨_, h5⟩, h6⟩ := ht
 have hlen := h.good.dok.len
 rcases h.good.home.home a ha with e | ⟨u, hu, _, e⟩
 ·have ha' : a < p.Tree.Slots.length := by omega
  rw [bO ha'] at e
  unfold xW at h5
  have := List.all_eq_true.1 h5 _ (List.getElem_mem ha')
  rw [← e] at this
  simp only [Bool.or_eq_true, decide_eq_true_eq] at this
  exact this.resolve_left hn
 ·have hm := aEo.1 hu
  unfold uT at h6
  have := List.all_eq_true.1 h6 u hm.1
  simp only [Bool.or_eq_true, Bool.not_eq_true', decide_eq_true_eq, decide_eq_false_iff_not] at this
  rw [← e]
  exact this.resolve_left fun hk => hk hm.2
theorem aPv {a : Nat} (ha : a < d.length) (hn : d.getD a 0 ≠ -1) : iP p d (d.getD a 0) = (⟨rS d (yQ p) a p.Tree, xK d (yQ p) a p.Tree⟩, 0) := by
 have hD := h.good.dok
 have hr := hD.rng a ha
 have h999 : d.getD a 0 ≤ 999 := by
  obtain ⟨t, ht, e⟩ := List.mem_map.1 (aRv h ha hn)
  have := (oB.1 (qP h.teams t ht)).1
  omega
 unfold iP oQ
 rw [mK.2 ⟨by omega, h999⟩, if_pos rfl, aXo hD ha hn, if_neg (by omega), Int.toNat_natCast]
 rfl
end
end Go.Am
end
section
namespace Go.Am
end Go.Am
end
section
namespace Go.Am
end Go.Am
end
section
namespace Go.Am
end Go.Am
end
