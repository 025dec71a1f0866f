/- Plain laws, one behind the other. -/
import Derived.Test.YtoflekecpkjghaaGreatPpWorks
section
namespace Go.Am

structure NearP (p : aK) : Prop where
  slots : p.Tree.Slots.length ≤ 8
  slips : p.Slips.length ≤ 20
  prizes : p.Prizes.length ≤ 20
  teams : p.Teams.length ≤ 40
  levies : p.Levies.length ≤ 40
  rates : p.Rates.length ≤ 40
  items : p.Items.length ≤ 60
theorem NearP.sz {p : aK} (h : NearP p) : Sz p := by
  obtain ⟨h1, h2, h3, h4, h5, h6, h7⟩ := h
  exact ⟨by omega, by omega, by omega, by omega, by omega, by omega, by omega⟩
theorem bCi (p : aK) : nK p = some true ∨ (nK p = some false ∧ NearP p) := by
  have hf : nK p = some (decide (8 < (p.Tree.Slots.length : Int)) || decide (20 < (p.Slips.length : Int)) || decide (20 < (p.Prizes.length : Int)) || decide (40 < (p.Teams.length : Int)) || decide (40 < (p.Levies.length : Int)) || decide (40 < (p.Rates.length : Int)) || decide (60 < (p.Items.length : Int))) := by
    unfold nK
    rw [eL, Option.bind_some, eL, Option.bind_some, eL, Option.bind_some, eL, Option.bind_some, eL, Option.bind_some, eL, Option.bind_some]
  cases hb : (decide (8 < (p.Tree.Slots.length : Int)) || decide (20 < (p.Slips.length : Int)) || decide (20 < (p.Prizes.length : Int)) || decide (40 < (p.Teams.length : Int)) || decide (40 < (p.Levies.length : Int)) || decide (40 < (p.Rates.length : Int)) || decide (60 < (p.Items.length : Int))) with
  | true => exact .inl (by rw [hf, hb])
  | false =>
    refine .inr ⟨by rw [hf, hb], ?_⟩
    simp only [Bool.or_eq_false_iff, decide_eq_false_iff_not] at hb
    obtain ⟨⟨⟨⟨⟨⟨a, b⟩, c⟩, d⟩, e⟩, f⟩, g⟩ := hb
    exact ⟨by omega, by omega, by omega, by omega, by omega, by omega, by omega⟩
theorem bDf {p : aK} (h : Sz p) : rE p = some p := by
  obtain ⟨h1, h2, h3, h4, h5, h6, h7⟩ := h
  unfold rE
  rw [fP (by simp; omega), Option.bind_some, fP (by simp; omega), Option.bind_some, fP (by simp; omega), Option.bind_some, fP (by simp; omega), Option.bind_some, fP (by simp; omega), Option.bind_some, fP (by simp; omega), Option.bind_some, fP (by simp; omega), Option.bind_some]
  simp
end Go.Am

end
section
namespace Go.Am

theorem aZf (l : List aR) (f : aR → Option Bool) (q : aR → Bool) (h : ∀ x ∈ l, f x = some (q x)) (hb : l.length ≤ 1000000) : gZ l f = some (l.any q) := by
  have key : ∀ (d i k : Nat), l.length - i = d → d < k → i ≤ l.length → ∃ r : Int, eB l f (l.length : Int) k (i : Nat) = some r ∧ decide (0 ≤ r) = (l.drop i).any q := by
    intro d
    induction d with
    | zero =>
      intro i k hd hk hi
      obtain ⟨k, rfl⟩ : ∃ q, k = q + 1 := ⟨k - 1, by omega⟩
      have : i = l.length := by omega
      subst this
      have hlt : decide ((l.length : Int) < (l.length : Int)) = false := decide_eq_false (by omega)
      exact ⟨-1, by rw [eB, hlt, cond_false]; rfl, by simp⟩
    | succ d ih =>
      intro i k hd hk hi
      obtain ⟨k, rfl⟩ : ∃ q, k = q + 1 := ⟨k - 1, by omega⟩
      have hil : i < l.length := by omega
      have hlt : decide ((i : Int) < (l.length : Int)) = true := decide_eq_true (by omega)
      rw [eB, hlt, cond_true, bN hil, Option.bind_some, h _ (List.getElem_mem hil), Option.bind_some, List.drop_eq_getElem_cons hil, List.any_cons]
      cases q l[i] with
      | true => exact ⟨i, by rw [cond_true], by rw [decide_eq_true (show (0 : Int) ≤ (i : Int) by omega), Bool.true_or]⟩
      | false => rw [cond_false, bK (by omega), Bool.false_or]; exact ih (i + 1) k (by omega) (by omega) (by omega)
  obtain ⟨r, h1, h2⟩ := key l.length 0 BIG rfl (cH (by omega)) (Nat.zero_le _)
  unfold gZ kJ
  have h1' : eB l f (l.length : Int) BIG 0 = some r := h1
  rw [h1', Option.bind_some, h2, List.drop_zero]
def aDz (p : aK) (x : aR) : Bool := jI p x.Person && wB x.Units 0 1000000000
def yG (n : Int) (s : Int) (x : aR) : Int := bif decide (x.Person = n) then s - x.Units else s
/-- What is left of a bill. -/
def iP (before : List aR) (b : aY) : Int := before.foldl (yG b.Person) b.Units
def aCl (before : List aR) (s : List aR × List aR) (b : aY) : List aR × List aR :=
  bif decide (0 < iP before b) then (s.1 ++ [⟨b.Person, iP before b⟩], s.2) else bif decide (iP before b < 0) then (s.1, s.2 ++ [⟨b.Person, -iP before b⟩]) else s
def aIo (before : List aR) (B : List aY) : List aR × List aR := B.foldl (aCl before) ([], [])
theorem aFq {n : Int} : ∀ (l : List aR) (s : Int), (∀ x ∈ l, 0 ≤ x.Units ∧ x.Units ≤ 1000000000) → s - 1000000000 * l.length ≤ l.foldl (yG n) s ∧ l.foldl (yG n) s ≤ s
  | [], s, _ => by simp
  | x :: l, s, h => by
    have hx := h x List.mem_cons_self
    have ih := aFq (n := n) l (yG n s x) fun y hy => h y (List.mem_cons_of_mem _ hy)
    have hs : s - 1000000000 ≤ yG n s x ∧ yG n s x ≤ s := by unfold yG; cases decide (x.Person = n) <;> simp <;> omega
    rw [List.foldl_cons, List.length_cons]
    omega
theorem aTs (before : List aR) : ∀ (l : List aY) (s : List aR × List aR), (l.foldl (aCl before) s).1.length ≤ s.1.length + l.length ∧ (l.foldl (aCl before) s).2.length ≤ s.2.length + l.length
  | [], s => by simp
  | b :: l, s => by
    have ih := aTs before l (aCl before s b)
    have hs : (aCl before s b).1.length ≤ s.1.length + 1 ∧ (aCl before s b).2.length ≤ s.2.length + 1 := by
      unfold aCl
      cases decide (0 < iP before b) <;> cases decide (iP before b < 0) <;> simp
    rw [List.foldl_cons, List.length_cons]
    omega
theorem bBl {p : aK} {l : List aR} (h : l.all (aDz p) = true) : ∀ x ∈ l, 0 ≤ x.Units ∧ x.Units ≤ 1000000000 := fun x hx => by
  have := List.all_eq_true.1 h x hx
  unfold aDz at this
  rw [Bool.and_eq_true, sU] at this
  exact this.2
section
variable {p : aK} (hz : Sz p) {d : List Int} (h : GP p d)
include hz h
omit hz in
theorem aSd : ∀ b ∈ dS p d, 0 ≤ b.Units ∧ b.Units ≤ 1300000000000 := fun b hb => by
  have := (aLq h b hb).a6
  omega
theorem bCt (before : List aR) (hl : before.length ≤ 200) (hp : before.all (aDz p) = true) : sZ p before = some ((aIo before (dS p d)).1, (aIo before (dS p d)).2, 0) := by
  have hbl : (dS p d).length ≤ 1000 := by unfold dS; rw [List.length_map]; exact wM p
  have hu := aSd h
  have hpa := bBl hp
  have hpl := wM p
  have hmem : ∀ n : Int, decide (n ∈ sJ p) = jI p n := fun n => by rw [← wT h, ← vI]
  unfold sZ
  rw [aRc hz h, Option.bind_some, decide_eq_true rfl, Bool.not_true, cond_false, aBd p hz.teams, Option.bind_some, wT h, decide_eq_false (show ¬ 200 < (before.length : Int) by omega), cond_false,
    aZf before _ (fun x => !aDz p x) (fun x _ => by
      unfold zQ aDz wB
      rw [hY _ (by omega), Option.bind_some, xT, Option.bind_some, eL, Option.bind_some, hmem]
      cases jI p x.Person <;> cases decide (0 ≤ x.Units) <;> cases decide (x.Units ≤ 1000000000) <;> rfl) (by omega), Option.bind_some, Option.bind_some]
  have hany : before.any (fun x => !aDz p x) = false := by
    rw [List.any_eq_false]
    intro x hx
    rw [List.all_eq_true.1 hp x hx]; simp
  rw [hany, cond_false]
  unfold aIo
  generalize dS p d = B at hbl hu ⊢
  have main := pQ (S := List aR × List aR) (fun k i s => lC before B (B.length : Int) k i s.1 s.2) B (aCl before) (fun s => some (s.1, s.2, (0 : Int))) ([], []) ?_ ?_ BIG (cH (by omega))
  · dsimp only at main
    exact main
  · intro k i hi s hs
    have hlt : decide ((i : Int) < (B.length : Int)) = true := decide_eq_true (by omega)
    have hsl := aTs before (B.take i) ([], [])
    rw [← hs, List.length_take] at hsl
    have hb := hu _ (List.getElem_mem hi)
    simp only [lC, hlt, cond_true, bN hi, Option.bind_some]
    have m2 := pQ (fun kk j left => oL (lC before B (B.length : Int) k) before B (B.length : Int) (i : Int) before (before.length : Int) s.1 s.2 B[i] kk left j) before (yG B[i].Person) (fun left => vO (lC before B (B.length : Int) k) before left B (B.length : Int) (i : Int) s.1 s.2 B[i]) B[i].Units (fun kk j hj left hleft => by
      have hlt2 : decide ((j : Int) < (before.length : Int)) = true := decide_eq_true (by omega)
      have hx := hpa _ (List.getElem_mem hj)
      have hr := aFq (n := B[i].Person) (before.take j) B[i].Units (fun x hx => hpa x (List.mem_of_mem_take hx))
      rw [← hleft, List.length_take] at hr
      simp only [oL, hlt2, cond_true, bN hj, Option.bind_some, bK (show j < 9223372036854775807 by omega)]
      unfold yG
      cases decide (before[j].Person = B[i].Person) with
      | true => rw [cond_true, cond_true, bY (by omega) (by omega)]
      | false => rfl) (fun kk left => by
      have hlt2 : decide ((before.length : Int) < (before.length : Int)) = false := decide_eq_false (by omega)
      simp only [oL, hlt2, cond_false]) BIG (cH (by omega))
    refine Eq.trans m2 ?_
    have hr := aFq (n := B[i].Person) before B[i].Units hpa
    show vO _ before (iP before B[i]) B _ _ s.1 s.2 B[i] = _
    have hr' : B[i].Units - 1000000000 * before.length ≤ iP before B[i] ∧ iP before B[i] ≤ B[i].Units := hr
    unfold vO qT aCl
    simp only [List.length_nil] at hsl
    by_cases h1 : 0 < iP before B[i]
    · rw [decide_eq_true h1, cond_true, cond_true, fP (by simp; omega), Option.bind_some, bK (by omega)]
    · rw [decide_eq_false h1, cond_false, cond_false]
      by_cases h2 : iP before B[i] < 0
      · rw [decide_eq_true h2, cond_true, cond_true, bY (n := -iP before B[i]) (by omega) (by omega), fP (by simp; omega), Option.bind_some, bK (by omega)]
      · rw [decide_eq_false h2, cond_false, cond_false, bK (by omega)]
  · intro k s
    have hlt : decide ((B.length : Int) < (B.length : Int)) = false := decide_eq_false (by omega)
    simp only [lC, hlt, cond_false]; rfl
end
section
variable {p : aK} (hz : Sz p)
include hz
end
end Go.Am

end
section
namespace Go.Am

theorem aZz (p : aK) : nL p = some false ∨ (nL p = some true ∧ NearP p ∧ ∃ d, GP p d) := by
  unfold nL
  rcases bCi p with h | ⟨h, hn⟩
  · exact .inl (by rw [h]; rfl)
  · rw [h, Option.bind_some, Bool.not_false, cond_true, aWb hn.sz, Option.bind_some, Option.bind_some]
    by_cases hc : uV p = 0
    · exact .inr ⟨by rw [decide_eq_true hc], hn, aUn hc⟩
    · exact .inl (by rw [decide_eq_false hc])
/-- What comes is what goes. -/
def Bal (b : aY) : Prop := b.Gross + b.Daily + b.Debt = b.Tax + b.Fines + b.Used + b.Rest
theorem Bal.add {s b : aY} (hs : Bal s) (hb : Bal b) : Bal (aDs s b) := by
  unfold Bal aDs at *
  simp only
  omega
theorem aSu {p : aK} {d : List Int} (h : GP p d) : (sJ p).length ≤ 2 * p.Teams.length := by
  rw [← wT h, (lH _).length_eq]
  exact tL p.Teams
theorem aQd (p : aK) (d : List Int) : (dS p d).Pairwise fun a b => a.Person < b.Person := by
  unfold dS
  have : (sJ p).Pairwise fun a b : Int => a < b := (aRk 1000).sublist List.filter_sublist
  exact List.Pairwise.map _ (fun a b hab => hab) this
theorem aJk {p : aK} {d : List Int} (h : GP p d) : ∀ b ∈ dS p d, ∃ n, jI p n = true ∧ b = qW p d n ∧ b.Person = n := fun b hb => by
  obtain ⟨n, hn, rfl⟩ := List.mem_map.1 hb
  exact ⟨n, (aEa (tP h.teams) n).1 hn, rfl, rfl⟩
end Go.Am

end
section
namespace Go.Am

theorem aOe {d : List Int} {D D' : aE → Prop} (h : ∀ x, D x → D' x) (m : aG) (v : Int) : jK d D m v → jK d D' m v := by
  rintro (hb | ⟨x, hx, hc⟩)
  · exact .inl hb
  · exact .inr ⟨x, h x hx, hc⟩
theorem aWr {n m k : Nat} (hn : n ≤ k) (h : ∀ r, r < k → r < n → r < m) : n ≤ m := by
  refine Nat.le_of_not_lt fun hlt => ?_
  have := h m (by omega) hlt
  omega
theorem aWj {t : aU} {l l' : List aE} {d d' : List Int} (h : Good t l d) (h' : Good t l' d') (hlk : ∀ x : aE, x.Kind = 5 → (x ∈ l ↔ x ∈ l')) : d' = d := by
  have h1 := h.agr.1
  have h2 := h'.agr.1
  rw [aFy hlk, h2] at h1
  exact Option.some.inj h1
section
variable {t : aU} {l l' : List aE} {d : List Int} (h : Good t l d) (h' : Good t l' d) (hsub : ∀ s ∈ l', s ∈ l) {must must' : List (List Int)} (hM : MustIs t must (jK d (Res l))) (hM' : MustIs t must' (jK d (Res l')))
include h h' hsub hM hM'
theorem aUs {a : Nat} (ha : a < d.length) : aAd d must' a t ≤ aAd d must a t := by
  refine aWr (zO _ _) fun r hr hlt => (aQt h.ht h.dok hM ha hr).2 fun q hq => ?_
  exact aOe (fun x hx => ⟨hsub x hx.1, hx.2⟩) _ _ ((aQt h'.ht h'.dok hM' ha hr).1 hlt q hq)
theorem aWv {a : Nat} (ha : a < d.length) : aDf d must a t ≤ aDf d must' a t := by
  refine aWr (zO _ _) fun r hr hlt => (aTq h'.ht h'.dok hM' ha hr).2 fun m v w hP hc => ?_
  exact (aTq h.ht h.dok hM ha hr).1 hlt m v w (aOe (fun x hx => ⟨hsub x hx.1, hx.2⟩) _ _ hP) hc
theorem aRl (n : Int) : (kQ t d must' n).2 = (kQ t d must n).2 ∧ (kQ t d must' n).1.Low ≤ (kQ t d must n).1.Low ∧ (kQ t d must n).1.High ≤ (kQ t d must' n).1.High := by
  unfold kQ
  by_cases hw : wi n 0 999 = true
  · rw [if_pos hw, if_pos hw]
    rcases aEc d n with ⟨h1, _⟩ | ⟨a, h1, ha, he⟩
    · rw [h1]; exact ⟨rfl, Int.le_refl _, Int.le_refl _⟩
    · have hneg : ¬ ((a : Int) < 0) := by omega
      rw [h1, if_neg hneg, if_neg hneg, Int.toNat_natCast]
      have h2 := aUs h h' hsub hM hM' ha
      have h3 := aWv h h' hsub hM hM' ha
      unfold kQ.leftFrom kQ.mostFrom
      simp only
      exact ⟨trivial, by omega, by omega⟩
  · rw [if_neg hw, if_neg hw]
    exact ⟨rfl, Int.le_refl _, Int.le_refl _⟩
end
/-- The same purse with other slips, which name the same lucky losers. -/
structure aJg (o p : aK) : Prop where
  tree : o.Tree = p.Tree
  prizes : o.Prizes = p.Prizes
  daily : o.Daily = p.Daily
  sub : ∀ s ∈ o.Slips, s ∈ p.Slips
  lucky : ∀ s ∈ p.Slips, s.Kind = 5 → s ∈ o.Slips
section
variable {p o : aK} (hf : aJg o p) {d d' : List Int} (h : GP p d) (ho : GP o d')
include hf h ho
theorem aMa : d' = d := by
  have hg := ho.good
  rw [hf.tree] at hg
  exact aWj h.good hg fun x hk => ⟨fun hx => hf.lucky x hx hk, hf.sub x⟩
theorem aVa (n : Int) : (nG o d n).2 = (nG p d n).2 ∧ (nG o d n).1.Low ≤ (nG p d n).1.Low ∧ (nG p d n).1.High ≤ (nG o d n).1.High := by
  have hd := aMa hf h ho
  subst hd
  have hg := ho.good
  have h2 := (aDg hg).2
  unfold nG
  rw [hf.tree] at hg h2 ⊢
  exact aRl h.good hg hf.sub (aDg h.good).2 h2 n
end
theorem aMy {p : aK} (h : pZ p = true) {i j : Int} (h0 : 0 ≤ i) (h1 : i ≤ j) (h2 : j ≤ p.Tree.Rounds) : kM p i ≤ kM p j := by
  obtain ⟨⟨_, a2⟩, a3, _⟩ := vN h
  have hi : i.toNat < p.Prizes.length := by omega
  have hj : j.toNat < p.Prizes.length := by omega
  have e1 : kM p i = p.Prizes[i.toNat] := by unfold kM; simp [List.getD, List.getElem?_eq_getElem hi]
  have e2 : kM p j = p.Prizes[j.toNat] := by unfold kM; simp [List.getD, List.getElem?_eq_getElem hj]
  have := aDp a2 (j.toNat - i.toNat) i.toNat (by omega)
  rw [e1, e2]
  have e : i.toNat + (j.toNat - i.toNat) = j.toNat := by omega
  simp only [e] at this
  exact this
theorem aNl {t : bX} {person a b : Int} (h0 : 0 ≤ a) (h : a ≤ b) : wP t person a ≤ wP t person b := by
  unfold wP
  have e1 : (a + 1).tdiv 2 = (a + 1) / 2 := Int.tdiv_eq_ediv_of_nonneg (by omega)
  have e2 : a.tdiv 2 = a / 2 := Int.tdiv_eq_ediv_of_nonneg (by omega)
  have e3 : (b + 1).tdiv 2 = (b + 1) / 2 := Int.tdiv_eq_ediv_of_nonneg (by omega)
  have e4 : b.tdiv 2 = b / 2 := Int.tdiv_eq_ediv_of_nonneg (by omega)
  rw [e1, e2, e3, e4]
  split
  · exact h
  · split <;> omega
section
variable {p o : aK} (hf : aJg o p) {d : List Int} (h : GP p d) (ho : GP o d)
include hf h ho
theorem aXx (person : Int) (t : bX) : (aDq o d person t).Low ≤ (aDq p d person t).Low ∧ (aDq p d person t).High ≤ (aDq o d person t).High := by
  have h1 := h.good.ht.r1
  have h2 := ho.good.ht.r1
  obtain ⟨r1, r2, r3⟩ := aVa hf h ho t.Player
  have ra := zS p d t.Player (by omega)
  have rb := zS o d t.Player (by omega)
  have ep : ∀ i, kM o i = kM p i := fun i => by unfold kM; rw [hf.prizes]
  unfold aDq
  rw [r1, hf.tree] at *
  by_cases h0 : (nG p d t.Player).2 = 0
  · rw [if_pos h0, if_pos h0, ep, ep]
    have q1 := oK h.prizes rb.1.1 rb.1.2
    have q2 := oK h.prizes ra.2.1 ra.2.2
    exact ⟨aNl q1.2.1 (aMy h.prizes rb.1.1 r2 ra.1.2), aNl q2.2.1 (aMy h.prizes ra.2.1 r3 rb.2.2)⟩
  · rw [if_neg h0, if_neg h0]
    exact ⟨Int.le_refl _, Int.le_refl _⟩
theorem aFn {person : Int} (ht : sT o person = sT p person) : (iW o d person).Low ≤ (iW p d person).Low ∧ (iW p d person).High ≤ (iW o d person).High := by
  unfold iW
  rw [ht]
  cases sT p person with
  | none => exact ⟨Int.le_refl _, Int.le_refl _⟩
  | some t => exact aXx hf h ho person t
end
/-- More gross, no fewer units. -/
theorem aZs {p : aK} {d : List Int} (h : GP p d) {person g g' : Int} (h0 : 0 ≤ g) (hg : g ≤ g') : tO p person g' ≤ tO p person g + (g' - g) := by
  unfold tO
  split
  · rename_i l hl
    have hm := ((sI h).1 l (List.mem_of_find?_eq_some hl)).2
    have m1 := Int.mul_nonneg h0 hm.1
    have m2 := Int.mul_nonneg (show 0 ≤ g' - g by omega) hm.1
    have m3 : (g' - g) * l.Mille ≤ (g' - g) * 500 := Int.mul_le_mul_of_nonneg_left hm.2 (by omega)
    have e : g' * l.Mille = g * l.Mille + (g' - g) * l.Mille := by rw [← Int.add_mul]; congr 1; omega
    rw [Int.tdiv_eq_ediv_of_nonneg m1, Int.tdiv_eq_ediv_of_nonneg (show 0 ≤ g' * l.Mille by omega), e]
    omega
  · omega
theorem aVt {p o : aK} {d : List Int} (h : GP p d) (ho : GP o d) {person : Int} (hg : (iW o d person).Low ≤ (iW p d person).Low) (h1 : o.Levies = p.Levies) (h2 : o.Rates = p.Rates) (h3 : uX o person = uX p person) (h4 : rG o person = rG p person) : (qW o d person).Units ≤ (qW p d person).Units := by
  have ha := aJj h person
  have hb := aJj ho person
  have f1 := (aEz (person := person) ha).2.2.2.2.2.1
  have f2 := (aEz (person := person) hb).2.2.2.2.2.1
  have g2 := (zP ho person).1
  have hnr := ha.numr
  have hdr := ha.denr
  have t1 : ∀ g, tO o person g = tO p person g := fun g => by unfold tO; rw [h1]
  have r1 : pM o person = pM p person := by unfold pM; rw [h2]
  have t2 := aZs h (person := person) g2.1 hg
  unfold qW
  rw [f1, f2, t1, r1, h3, h4]
  exact Int.ediv_le_ediv (by omega) (Int.mul_le_mul_of_nonneg_right (by omega) (by omega))
end Go.Am

end
section
namespace Go.Am

theorem aNb {α : Type} {R : α → α → Prop} : ∀ {l : List α}, l.Pairwise R → ∀ a ∈ l, ∀ b ∈ l, a = b ∨ R a b ∨ R b a
  | [], _, _, h, _, _ => by cases h
  | x :: l, hp, a, ha, b, hb => by
    obtain ⟨h1, h2⟩ := List.pairwise_cons.1 hp
    rcases List.mem_cons.1 ha with e | ha
    · rcases List.mem_cons.1 hb with e' | hb
      · exact .inl (e.trans e'.symm)
      · rw [e]; exact .inr (.inl (h1 b hb))
    · rcases List.mem_cons.1 hb with e' | hb
      · rw [e']; exact .inr (.inr (h1 a ha))
      · exact aNb h2 a ha b hb
theorem aHn {α : Type} {q : α → Bool} {l l' : List α} (hm : ∀ x, x ∈ l ↔ x ∈ l') (hu : ∀ x ∈ l, ∀ y ∈ l, q x = true → q y = true → x = y) : l.find? q = l'.find? q := by
  cases e : l.find? q with
  | none =>
    cases e' : l'.find? q with
    | none => rfl
    | some y => exact absurd (List.find?_some e') (List.find?_eq_none.1 e y ((hm y).2 (List.mem_of_find?_eq_some e')))
  | some x =>
    have hx := List.mem_of_find?_eq_some e
    have hqx := List.find?_some e
    cases e' : l'.find? q with
    | none => exact absurd hqx (List.find?_eq_none.1 e' x ((hm x).1 hx))
    | some y => rw [hu x hx y ((hm y).2 (List.mem_of_find?_eq_some e')) hqx (List.find?_some e')]
/-- The same purse in another order. -/
structure bBw (o p : aK) : Prop where
  tree : o.Tree = p.Tree
  prizes : o.Prizes = p.Prizes
  daily : o.Daily = p.Daily
  slips : ∀ s, s ∈ o.Slips ↔ s ∈ p.Slips
  slen : o.Slips.length ≤ 60
  items : ∀ x, x ∈ o.Items ↔ x ∈ p.Items
  ilen : o.Items.length ≤ 40
  teams : o.Teams.Perm p.Teams
  levies : o.Levies.Perm p.Levies
  rates : o.Rates.Perm p.Rates
section
variable {p o : aK} {d : List Int} (h : GP p d)
include h
theorem aZv : p.Teams.Pairwise fun a b => ∀ x ∈ jW a, ∀ y ∈ jW b, x ≠ y := by
  have hn : (dI p).Nodup := by
    have := h.teams
    unfold pD at this
    simp only [Bool.and_eq_true, decide_eq_true_eq] at this
    exact this.1.1.2
  have hpp : (p.Teams.flatMap jW).Nodup ↔ (∀ t ∈ p.Teams, (jW t).Nodup) ∧ p.Teams.Pairwise fun a b => ∀ x ∈ jW a, ∀ y ∈ jW b, x ≠ y := List.pairwise_flatMap
  exact (hpp.1 hn).2
theorem aRz {t : bX} (ht : t ∈ p.Teams) {n : Int} (hs : (decide (t.One = n) || (decide (t.Two = n) && decide (0 ≤ n))) = true) : n ∈ jW t := by
  have htb := tA.1 (tP h.teams t ht)
  simp only [Bool.or_eq_true, Bool.and_eq_true, decide_eq_true_eq] at hs
  rw [mK]
  rcases hs with hs | hs
  · exact .inl hs.symm
  · exact .inr ⟨hs.1.symm, by omega⟩
theorem aZt (n : Int) : ∀ x ∈ p.Teams, ∀ y ∈ p.Teams, (decide (x.One = n) || (decide (x.Two = n) && decide (0 ≤ n))) = true → (decide (y.One = n) || (decide (y.Two = n) && decide (0 ≤ n))) = true → x = y := by
  intro x hx y hy h1 h2
  have m1 := aRz h hx h1
  have m2 := aRz h hy h2
  rcases aNb (aZv h) x hx y hy with e | e | e
  · exact e
  · exact absurd rfl (e n m1 n m2)
  · exact absurd rfl (e n m2 n m1)
variable (hs : bBw o p)
include hs
omit h in
theorem aNz (n : Int) : jI o n = jI p n := by
  unfold jI dI
  rw [decide_eq_decide]
  exact (hs.teams.flatMap_right _).mem_iff
omit h in
theorem aXq (x : aI) : uP o x = uP p x := by unfold uP; rw [aNz hs]
theorem aTw : GP o d where
  good := by
    have hg := h.good
    rw [hs.tree]
    exact ⟨hg.tree, hs.slen, fun s hm => hg.slips s ((hs.slips s).1 hm), bAp (fun x => (hs.slips x).symm) hg.agr⟩
  prizes := by
    have := h.prizes
    unfold pZ at this ⊢
    rw [hs.prizes, hs.daily, hs.tree]; exact this
  teams := by
    have := h.teams
    unfold pD at this ⊢
    simp only [Bool.and_eq_true, decide_eq_true_eq, List.all_eq_true] at this ⊢
    obtain ⟨⟨⟨⟨⟨a1, a2⟩, a3⟩, a4⟩, a5⟩, a6⟩ := this
    have hpl : (dM o).Perm (dM p) := hs.teams.map _
    refine ⟨⟨⟨⟨⟨?_, ?_⟩, ?_⟩, ?_⟩, ?_⟩, ?_⟩
    · rw [hs.teams.length_eq]; exact a1
    · exact fun t ht => a2 t (hs.teams.mem_iff.1 ht)
    · exact hpl.nodup_iff.2 a3
    · exact (hs.teams.flatMap_right jW).nodup_iff.2 a4
    · unfold yT at a5 ⊢
      rw [hs.tree]
      rw [List.all_eq_true] at a5 ⊢
      intro x hx
      have := a5 x hx
      simp only [Bool.or_eq_true, decide_eq_true_eq] at this ⊢
      exact this.imp id fun hm => hpl.mem_iff.2 hm
    · unfold vK at a6 ⊢
      rw [List.all_eq_true] at a6 ⊢
      intro x hx
      have := a6 x ((hs.slips x).1 hx)
      simp only [Bool.or_eq_true, Bool.not_eq_true', decide_eq_true_eq] at this ⊢
      exact this.imp id fun hm => hpl.mem_iff.2 hm
  levies := by
    have hl := sI h
    refine (aEr o.Levies (aBb o) (fun x => jI o x.Person = true ∧ 0 ≤ x.Mille ∧ x.Mille ≤ 500) (fun y x => y.Person ≠ x.Person) (fun pre x => by
      unfold aBb
      rw [Bool.and_eq_true, Bool.and_eq_true, sU, Bool.not_eq_true', decide_eq_false_iff_not, List.mem_map, and_assoc]
      constructor
      · rintro ⟨a, b, c⟩; exact ⟨⟨a, b⟩, fun y hy he => c ⟨y, hy, he⟩⟩
      · rintro ⟨⟨a, b⟩, c⟩; exact ⟨a, b, fun ⟨y, hy, he⟩ => c y hy he⟩)).2 ⟨fun x hx => ?_, ?_⟩
    · rw [aNz hs]; exact hl.1 x (hs.levies.mem_iff.1 hx)
    · exact (hs.levies.pairwise_iff (fun {a b} hab => Ne.symm hab)).2 hl.2
  rates := by
    have hl := zR h
    refine (aEr o.Rates (aBf o) (fun x => (jI o x.Person = true ∧ 1 ≤ x.Num ∧ x.Num ≤ 10000) ∧ 1 ≤ x.Den ∧ x.Den ≤ 10000) (fun y x => y.Person ≠ x.Person) (fun pre x => by
      unfold aBf
      rw [Bool.and_eq_true, Bool.and_eq_true, Bool.and_eq_true, sU, sU, Bool.not_eq_true', decide_eq_false_iff_not, List.mem_map]
      constructor
      · rintro ⟨⟨⟨a, b⟩, e⟩, c⟩; exact ⟨⟨⟨a, b⟩, e⟩, fun y hy he => c ⟨y, hy, he⟩⟩
      · rintro ⟨⟨⟨a, b⟩, e⟩, c⟩; exact ⟨⟨⟨a, b⟩, e⟩, fun ⟨y, hy, he⟩ => c y hy he⟩)).2 ⟨fun x hx => ?_, ?_⟩
    · rw [aNz hs]; exact hl.1 x (hs.rates.mem_iff.1 hx)
    · exact (hs.rates.pairwise_iff (fun {a b} hab => Ne.symm hab)).2 hl.2
  items := by
    obtain ⟨i1, i2, i3⟩ := rW h
    unfold tV
    rw [Bool.and_eq_true, decide_eq_true_eq]
    refine ⟨(yF o).2 ⟨fun x hx => by rw [aXq hs]; exact i1 x ((hs.items x).1 hx), ?_⟩, hs.ilen⟩
    rintro ⟨x, hx, y, hy, hxy⟩
    exact i2 ⟨x, (hs.items x).1 hx, y, (hs.items y).1 hy, hxy⟩
theorem aXs (n : Int) : sT o n = sT p n :=
  (aHn (fun x => hs.teams.mem_iff.symm) (aZt h n)).symm
theorem aZn (n g : Int) : tO o n g = tO p n g := by
  unfold tO
  rw [aHn (l := p.Levies) (l' := o.Levies) (fun x => hs.levies.mem_iff.symm) fun x hx y hy h1 h2 => by
    simp only [decide_eq_true_eq] at h1 h2
    rcases aNb (sI h).2 x hx y hy with e | e | e
    · exact e
    · exact absurd (h1.trans h2.symm) e
    · exact absurd (h2.trans h1.symm) e]
theorem aXr (n : Int) : pM o n = pM p n := by
  unfold pM
  rw [aHn (l := p.Rates) (l' := o.Rates) (fun x => hs.rates.mem_iff.symm) fun x hx y hy h1 h2 => by
    simp only [decide_eq_true_eq] at h1 h2
    rcases aNb (zR h).2 x hx y hy with e | e | e
    · exact e
    · exact absurd (h1.trans h2.symm) e
    · exact absurd (h2.trans h1.symm) e]
theorem aVi : gK o = gK p := by
  obtain ⟨h1, h2, h3⟩ := rW h
  obtain ⟨k1, k2, k3⟩ := rW (aTw h hs)
  refine wX (key := fun x : aI => x.Id) (aDc o) (aDc p) fun x => ?_
  rw [yE (fun x hx => (vJ.1 (h1 x hx)).1) h2, yE (fun x hx => (vJ.1 (k1 x hx)).1) k2]
  exact hs.items x
theorem aVh (n : Int) : iW o d n = iW p d n := by
  have ho := aTw h hs
  have f1 : aJg o p := ⟨hs.tree, hs.prizes, hs.daily, fun s hm => (hs.slips s).1 hm, fun s hm _ => (hs.slips s).2 hm⟩
  have f2 : aJg p o := ⟨hs.tree.symm, hs.prizes.symm, hs.daily.symm, fun s hm => (hs.slips s).2 hm, fun s hm _ => (hs.slips s).1 hm⟩
  have ht := aXs h hs n
  have a := aFn f1 h ho ht
  have b := aFn f2 ho h ht.symm
  have e : ∀ x y : cK, x.Low = y.Low → x.High = y.High → x = y := fun x y e1 e2 => by cases x; cases y; simp only at e1 e2; rw [e1, e2]
  exact e _ _ (Int.le_antisymm a.1 b.1) (Int.le_antisymm b.2 a.2)
theorem aXp (n : Int) : qW o d n = qW p d n := by
  unfold qW uX rG
  rw [aVh h hs, aZn h hs, aVi h hs, aXr h hs, hs.daily]
end
end Go.Am

end
