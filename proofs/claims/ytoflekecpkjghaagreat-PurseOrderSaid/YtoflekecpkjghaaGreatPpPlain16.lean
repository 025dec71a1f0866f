/- Plain laws, one behind the other. -/
import Derived.Test.YtoflekecpkjghaaGreatPpWorks
section
namespace Go.Am

structure NearP (p : aM) : Prop where
  slots : p.Tree.Slots.length ≤ 8
  slips : p.Slips.length ≤ 20
  prizes : p.Prizes.length ≤ 20
  teams : p.Teams.length ≤ 40
  levies : p.Levies.length ≤ 40
  rates : p.Rates.length ≤ 40
  items : p.Items.length ≤ 60
theorem NearP.sz {p : aM} (h : NearP p) : Sz p := by
  obtain ⟨h1, h2, h3, h4, h5, h6, h7⟩ := h
  exact ⟨by omega, by omega, by omega, by omega, by omega, by omega, by omega⟩
theorem bBv (p : aM) : nT p = some true ∨ (nT p = some false ∧ NearP p) := by
  have hf : nT p = some (decide (8 < (p.Tree.Slots.length : Int)) || decide (20 < (p.Slips.length : Int)) || decide (20 < (p.Prizes.length : Int)) || decide (40 < (p.Teams.length : Int)) || decide (40 < (p.Levies.length : Int)) || decide (40 < (p.Rates.length : Int)) || decide (60 < (p.Items.length : Int))) := by
    unfold nT
    rw [dP, Option.bind_some, dP, Option.bind_some, dP, Option.bind_some, dP, Option.bind_some, dP, Option.bind_some, dP, Option.bind_some]
  cases hb : (decide (8 < (p.Tree.Slots.length : Int)) || decide (20 < (p.Slips.length : Int)) || decide (20 < (p.Prizes.length : Int)) || decide (40 < (p.Teams.length : Int)) || decide (40 < (p.Levies.length : Int)) || decide (40 < (p.Rates.length : Int)) || decide (60 < (p.Items.length : Int))) with
  | true => exact .inl (by rw [hf, hb])
  | false =>
    refine .inr ⟨by rw [hf, hb], ?_⟩
    simp only [Bool.or_eq_false_iff, decide_eq_false_iff_not] at hb
    obtain ⟨⟨⟨⟨⟨⟨a, b⟩, c⟩, d⟩, e⟩, f⟩, g⟩ := hb
    exact ⟨by omega, by omega, by omega, by omega, by omega, by omega, by omega⟩
theorem aZw {p : aM} (h : Sz p) : oY p = some p := by
  obtain ⟨h1, h2, h3, h4, h5, h6, h7⟩ := h
  unfold oY
  rw [eJ (by simp; omega), Option.bind_some, eJ (by simp; omega), Option.bind_some, eJ (by simp; omega), Option.bind_some, eJ (by simp; omega), Option.bind_some, eJ (by simp; omega), Option.bind_some, eJ (by simp; omega), Option.bind_some, eJ (by simp; omega), Option.bind_some]
  simp
end Go.Am

end
section
namespace Go.Am

theorem aZr (p : aM) : nU p = some false ∨ (nU p = some true ∧ NearP p ∧ ∃ d, GP p d) := by
  unfold nU
  rcases bBv p with h | ⟨h, hn⟩
  · exact .inl (by rw [h]; rfl)
  · rw [h, Option.bind_some, Bool.not_false, cond_true, aVu hn.sz, Option.bind_some, Option.bind_some]
    by_cases hc : oK p = 0
    · exact .inr ⟨by rw [decide_eq_true hc], hn, aUl hc⟩
    · exact .inl (by rw [decide_eq_false hc])
/-- What comes is what goes. -/
def Bal (b : bC) : Prop := b.Gross + b.Daily + b.Debt = b.Tax + b.Fines + b.Used + b.Rest
theorem Bal.add {s b : bC} (hs : Bal s) (hb : Bal b) : Bal (aEe s b) := by
  unfold Bal aEe at *
  simp only
  omega
end Go.Am

end
section
namespace Go.Am

theorem aOd {d : List Int} {D D' : aF → Prop} (h : ∀ x, D x → D' x) (m : aH) (v : Int) : jN d D m v → jN d D' m v := by
  rintro (hb | ⟨x, hx, hc⟩)
  · exact .inl hb
  · exact .inr ⟨x, h x hx, hc⟩
theorem aWm {n m k : Nat} (hn : n ≤ k) (h : ∀ r, r < k → r < n → r < m) : n ≤ m := by
  refine Nat.le_of_not_lt fun hlt => ?_
  have := h m (by omega) hlt
  omega
theorem aWc {t : aQ} {l l' : List aF} {d d' : List Int} (h : Good t l d) (h' : Good t l' d') (hlk : ∀ x : aF, x.Kind = 5 → (x ∈ l ↔ x ∈ l')) : d' = d := by
  have h1 := h.agr.1
  have h2 := h'.agr.1
  rw [aGj hlk, h2] at h1
  exact Option.some.inj h1
section
variable {t : aQ} {l l' : List aF} {d : List Int} (h : Good t l d) (h' : Good t l' d) (hsub : ∀ s ∈ l', s ∈ l) {must must' : List (List Int)} (hM : MustIs t must (jN d (Res l))) (hM' : MustIs t must' (jN d (Res l')))
include h h' hsub hM hM'
theorem aUq {a : Nat} (ha : a < d.length) : aAm d must' a t ≤ aAm d must a t := by
  refine aWm (zW _ _) fun r hr hlt => (aQp h.ht h.dok hM ha hr).2 fun q hq => ?_
  exact aOd (fun x hx => ⟨hsub x hx.1, hx.2⟩) _ _ ((aQp h'.ht h'.dok hM' ha hr).1 hlt q hq)
theorem aWq {a : Nat} (ha : a < d.length) : aDr d must a t ≤ aDr d must' a t := by
  refine aWm (zW _ _) fun r hr hlt => (aTq h'.ht h'.dok hM' ha hr).2 fun m v w hP hc => ?_
  exact (aTq h.ht h.dok hM ha hr).1 hlt m v w (aOd (fun x hx => ⟨hsub x hx.1, hx.2⟩) _ _ hP) hc
theorem aRd (n : Int) : (kW t d must' n).2 = (kW t d must n).2 ∧ (kW t d must' n).1.Low ≤ (kW t d must n).1.Low ∧ (kW t d must n).1.High ≤ (kW t d must' n).1.High := by
  unfold kW
  by_cases hw : wi n 0 999 = true
  · rw [if_pos hw, if_pos hw]
    rcases aEo d n with ⟨h1, _⟩ | ⟨a, h1, ha, he⟩
    · rw [h1]; exact ⟨rfl, Int.le_refl _, Int.le_refl _⟩
    · have hneg : ¬ ((a : Int) < 0) := by omega
      rw [h1, if_neg hneg, if_neg hneg, Int.toNat_natCast]
      have h2 := aUq h h' hsub hM hM' ha
      have h3 := aWq h h' hsub hM hM' ha
      unfold kW.leftFrom kW.mostFrom
      simp only
      exact ⟨trivial, by omega, by omega⟩
  · rw [if_neg hw, if_neg hw]
    exact ⟨rfl, Int.le_refl _, Int.le_refl _⟩
end
/-- The same purse with other slips, which name the same lucky losers. -/
structure aPj (o p : aM) : Prop where
  tree : o.Tree = p.Tree
  prizes : o.Prizes = p.Prizes
  daily : o.Daily = p.Daily
  sub : ∀ s ∈ o.Slips, s ∈ p.Slips
  lucky : ∀ s ∈ p.Slips, s.Kind = 5 → s ∈ o.Slips
section
variable {p o : aM} (hf : aPj o p) {d d' : List Int} (h : GP p d) (ho : GP o d')
include hf h ho
theorem aUk : d' = d := by
  have hg := ho.good
  rw [hf.tree] at hg
  exact aWc h.good hg fun x hk => ⟨fun hx => hf.lucky x hx hk, hf.sub x⟩
theorem aUx (n : Int) : (nN o d n).2 = (nN p d n).2 ∧ (nN o d n).1.Low ≤ (nN p d n).1.Low ∧ (nN p d n).1.High ≤ (nN o d n).1.High := by
  have hd := aUk hf h ho
  subst hd
  have hg := ho.good
  have h2 := (aDs hg).2
  unfold nN
  rw [hf.tree] at hg h2 ⊢
  exact aRd h.good hg hf.sub (aDs h.good).2 h2 n
end
theorem aNc {p : aM} (h : qS p = true) {i j : Int} (h0 : 0 ≤ i) (h1 : i ≤ j) (h2 : j ≤ p.Tree.Rounds) : kR p i ≤ kR p j := by
  obtain ⟨⟨_, a2⟩, a3, _⟩ := vQ h
  have hi : i.toNat < p.Prizes.length := by omega
  have hj : j.toNat < p.Prizes.length := by omega
  have e1 : kR p i = p.Prizes[i.toNat] := by unfold kR; simp [List.getD, List.getElem?_eq_getElem hi]
  have e2 : kR p j = p.Prizes[j.toNat] := by unfold kR; simp [List.getD, List.getElem?_eq_getElem hj]
  have := aEb a2 (j.toNat - i.toNat) i.toNat (by omega)
  rw [e1, e2]
  have e : i.toNat + (j.toNat - i.toNat) = j.toNat := by omega
  simp only [e] at this
  exact this
theorem aNl {t : bE} {person a b : Int} (h0 : 0 ≤ a) (h : a ≤ b) : wS t person a ≤ wS t person b := by
  unfold wS
  have e1 : (a + 1).tdiv 2 = (a + 1) / 2 := Int.tdiv_eq_ediv_of_nonneg (by omega)
  have e2 : a.tdiv 2 = a / 2 := Int.tdiv_eq_ediv_of_nonneg (by omega)
  have e3 : (b + 1).tdiv 2 = (b + 1) / 2 := Int.tdiv_eq_ediv_of_nonneg (by omega)
  have e4 : b.tdiv 2 = b / 2 := Int.tdiv_eq_ediv_of_nonneg (by omega)
  rw [e1, e2, e3, e4]
  split
  · exact h
  · split <;> omega
section
variable {p o : aM} (hf : aPj o p) {d : List Int} (h : GP p d) (ho : GP o d)
include hf h ho
theorem aXq (person : Int) (t : bE) : (aEc o d person t).Low ≤ (aEc p d person t).Low ∧ (aEc p d person t).High ≤ (aEc o d person t).High := by
  have h1 := h.good.ht.r1
  have h2 := ho.good.ht.r1
  obtain ⟨r1, r2, r3⟩ := aUx hf h ho t.Player
  have ra := zY p d t.Player (by omega)
  have rb := zY o d t.Player (by omega)
  have ep : ∀ i, kR o i = kR p i := fun i => by unfold kR; rw [hf.prizes]
  unfold aEc
  rw [r1, hf.tree] at *
  by_cases h0 : (nN p d t.Player).2 = 0
  · rw [if_pos h0, if_pos h0, ep, ep]
    have q1 := oU h.prizes rb.1.1 rb.1.2
    have q2 := oU h.prizes ra.2.1 ra.2.2
    exact ⟨aNl q1.2.1 (aNc h.prizes rb.1.1 r2 ra.1.2), aNl q2.2.1 (aNc h.prizes ra.2.1 r3 rb.2.2)⟩
  · rw [if_neg h0, if_neg h0]
    exact ⟨Int.le_refl _, Int.le_refl _⟩
theorem aMl {person : Int} (ht : tF o person = tF p person) : (jO o d person).Low ≤ (jO p d person).Low ∧ (jO p d person).High ≤ (jO o d person).High := by
  unfold jO
  rw [ht]
  cases tF p person with
  | none => exact ⟨Int.le_refl _, Int.le_refl _⟩
  | some t => exact aXq hf h ho person t
end
end Go.Am

end
section
namespace Go.Am

theorem aNf {α : Type} {R : α → α → Prop} : ∀ {l : List α}, l.Pairwise R → ∀ a ∈ l, ∀ b ∈ l, a = b ∨ R a b ∨ R b a
  | [], _, _, h, _, _ => by cases h
  | x :: l, hp, a, ha, b, hb => by
    obtain ⟨h1, h2⟩ := List.pairwise_cons.1 hp
    rcases List.mem_cons.1 ha with e | ha
    · rcases List.mem_cons.1 hb with e' | hb
      · exact .inl (e.trans e'.symm)
      · rw [e]; exact .inr (.inl (h1 b hb))
    · rcases List.mem_cons.1 hb with e' | hb
      · rw [e']; exact .inr (.inr (h1 a ha))
      · exact aNf h2 a ha b hb
theorem aIc {α : Type} {q : α → Bool} {l l' : List α} (hm : ∀ x, x ∈ l ↔ x ∈ l') (hu : ∀ x ∈ l, ∀ y ∈ l, q x = true → q y = true → x = y) : l.find? q = l'.find? q := by
  cases e : l.find? q with
  | none =>
    cases e' : l'.find? q with
    | none => rfl
    | some y => exact absurd (List.find?_some e') (List.find?_eq_none.1 e y ((hm y).2 (List.mem_of_find?_eq_some e')))
  | some x =>
    have hx := List.mem_of_find?_eq_some e
    have hqx := List.find?_some e
    cases e' : l'.find? q with
    | none => exact absurd hqx (List.find?_eq_none.1 e' x ((hm x).1 hx))
    | some y => rw [hu x hx y ((hm y).2 (List.mem_of_find?_eq_some e')) hqx (List.find?_some e')]
/-- The same purse in another order. -/
structure aPt (o p : aM) : Prop where
  tree : o.Tree = p.Tree
  prizes : o.Prizes = p.Prizes
  daily : o.Daily = p.Daily
  slips : ∀ s, s ∈ o.Slips ↔ s ∈ p.Slips
  slen : o.Slips.length ≤ 60
  items : ∀ x, x ∈ o.Items ↔ x ∈ p.Items
  ilen : o.Items.length ≤ 40
  teams : o.Teams.Perm p.Teams
  levies : o.Levies.Perm p.Levies
  rates : o.Rates.Perm p.Rates
section
variable {p o : aM} {d : List Int} (h : GP p d)
include h
theorem aZn : p.Teams.Pairwise fun a b => ∀ x ∈ kB a, ∀ y ∈ kB b, x ≠ y := by
  have hn : (dF p).Nodup := by
    have := h.teams
    unfold pT at this
    simp only [Bool.and_eq_true, decide_eq_true_eq] at this
    exact this.1.1.2
  have hpp : (p.Teams.flatMap kB).Nodup ↔ (∀ t ∈ p.Teams, (kB t).Nodup) ∧ p.Teams.Pairwise fun a b => ∀ x ∈ kB a, ∀ y ∈ kB b, x ≠ y := List.pairwise_flatMap
  exact (hpp.1 hn).2
theorem aRt {t : bE} (ht : t ∈ p.Teams) {n : Int} (hs : (decide (t.One = n) || (decide (t.Two = n) && decide (0 ≤ n))) = true) : n ∈ kB t := by
  have htb := tL.1 (aBq h.teams t ht)
  simp only [Bool.or_eq_true, Bool.and_eq_true, decide_eq_true_eq] at hs
  rw [mQ]
  rcases hs with hs | hs
  · exact .inl hs.symm
  · exact .inr ⟨hs.1.symm, by omega⟩
theorem aZl (n : Int) : ∀ x ∈ p.Teams, ∀ y ∈ p.Teams, (decide (x.One = n) || (decide (x.Two = n) && decide (0 ≤ n))) = true → (decide (y.One = n) || (decide (y.Two = n) && decide (0 ≤ n))) = true → x = y := by
  intro x hx y hy h1 h2
  have m1 := aRt h hx h1
  have m2 := aRt h hy h2
  rcases aNf (aZn h) x hx y hy with e | e | e
  · exact e
  · exact absurd rfl (e n m1 n m2)
  · exact absurd rfl (e n m2 n m1)
variable (hs : aPt o p)
include hs
omit h in
theorem aKa (n : Int) : mN o n = mN p n := by
  unfold mN dF
  rw [decide_eq_decide]
  exact (hs.teams.flatMap_right _).mem_iff
omit h in
theorem aXj (x : aG) : uW o x = uW p x := by unfold uW; rw [aKa hs]
theorem aFf : GP o d where
  good := by
    have hg := h.good
    rw [hs.tree]
    exact ⟨hg.tree, hs.slen, fun s hm => hg.slips s ((hs.slips s).1 hm), bAf (fun x => (hs.slips x).symm) hg.agr⟩
  prizes := by
    have := h.prizes
    unfold qS at this ⊢
    rw [hs.prizes, hs.daily, hs.tree]; exact this
  teams := by
    have := h.teams
    unfold pT at this ⊢
    simp only [Bool.and_eq_true, decide_eq_true_eq, List.all_eq_true] at this ⊢
    obtain ⟨⟨⟨⟨⟨a1, a2⟩, a3⟩, a4⟩, a5⟩, a6⟩ := this
    have hpl : (dM o).Perm (dM p) := hs.teams.map _
    refine ⟨⟨⟨⟨⟨?_, ?_⟩, ?_⟩, ?_⟩, ?_⟩, ?_⟩
    · rw [hs.teams.length_eq]; exact a1
    · exact fun t ht => a2 t (hs.teams.mem_iff.1 ht)
    · exact hpl.nodup_iff.2 a3
    · exact (hs.teams.flatMap_right kB).nodup_iff.2 a4
    · unfold yX at a5 ⊢
      rw [hs.tree]
      rw [List.all_eq_true] at a5 ⊢
      intro x hx
      have := a5 x hx
      simp only [Bool.or_eq_true, decide_eq_true_eq] at this ⊢
      exact this.imp id fun hm => hpl.mem_iff.2 hm
    · unfold vN at a6 ⊢
      rw [List.all_eq_true] at a6 ⊢
      intro x hx
      have := a6 x ((hs.slips x).1 hx)
      simp only [Bool.or_eq_true, Bool.not_eq_true', decide_eq_true_eq] at this ⊢
      exact this.imp id fun hm => hpl.mem_iff.2 hm
  levies := by
    have hl := vM h
    refine (aFe o.Levies (aBi o) (fun x => mN o x.Person = true ∧ 0 ≤ x.Mille ∧ x.Mille ≤ 500) (fun y x => y.Person ≠ x.Person) (fun pre x => by
      unfold aBi
      rw [Bool.and_eq_true, Bool.and_eq_true, wU, Bool.not_eq_true', decide_eq_false_iff_not, List.mem_map, and_assoc]
      constructor
      · rintro ⟨a, b, c⟩; exact ⟨⟨a, b⟩, fun y hy he => c ⟨y, hy, he⟩⟩
      · rintro ⟨⟨a, b⟩, c⟩; exact ⟨a, b, fun ⟨y, hy, he⟩ => c y hy he⟩)).2 ⟨fun x hx => ?_, ?_⟩
    · rw [aKa hs]; exact hl.1 x (hs.levies.mem_iff.1 hx)
    · exact (hs.levies.pairwise_iff (fun {a b} hab => Ne.symm hab)).2 hl.2
  rates := by
    have hl := zX h
    refine (aFe o.Rates (aBk o) (fun x => (mN o x.Person = true ∧ 1 ≤ x.Num ∧ x.Num ≤ 10000) ∧ 1 ≤ x.Den ∧ x.Den ≤ 10000) (fun y x => y.Person ≠ x.Person) (fun pre x => by
      unfold aBk
      rw [Bool.and_eq_true, Bool.and_eq_true, Bool.and_eq_true, wU, wU, Bool.not_eq_true', decide_eq_false_iff_not, List.mem_map]
      constructor
      · rintro ⟨⟨⟨a, b⟩, e⟩, c⟩; exact ⟨⟨⟨a, b⟩, e⟩, fun y hy he => c ⟨y, hy, he⟩⟩
      · rintro ⟨⟨⟨a, b⟩, e⟩, c⟩; exact ⟨⟨⟨a, b⟩, e⟩, fun ⟨y, hy, he⟩ => c y hy he⟩)).2 ⟨fun x hx => ?_, ?_⟩
    · rw [aKa hs]; exact hl.1 x (hs.rates.mem_iff.1 hx)
    · exact (hs.rates.pairwise_iff (fun {a b} hab => Ne.symm hab)).2 hl.2
  items := by
    obtain ⟨i1, i2, i3⟩ := qJ h
    unfold sU
    rw [Bool.and_eq_true, decide_eq_true_eq]
    refine ⟨(wD o).2 ⟨fun x hx => by rw [aXj hs]; exact i1 x ((hs.items x).1 hx), ?_⟩, hs.ilen⟩
    rintro ⟨x, hx, y, hy, hxy⟩
    exact i2 ⟨x, (hs.items x).1 hx, y, (hs.items y).1 hy, hxy⟩
theorem aXl (n : Int) : tF o n = tF p n :=
  (aIc (fun x => hs.teams.mem_iff.symm) (aZl h n)).symm
theorem aZg (n g : Int) : zU o n g = zU p n g := by
  unfold zU
  rw [aIc (l := p.Levies) (l' := o.Levies) (fun x => hs.levies.mem_iff.symm) fun x hx y hy h1 h2 => by
    simp only [decide_eq_true_eq] at h1 h2
    rcases aNf (vM h).2 x hx y hy with e | e | e
    · exact e
    · exact absurd (h1.trans h2.symm) e
    · exact absurd (h2.trans h1.symm) e]
theorem aXk (n : Int) : sO o n = sO p n := by
  unfold sO
  rw [aIc (l := p.Rates) (l' := o.Rates) (fun x => hs.rates.mem_iff.symm) fun x hx y hy h1 h2 => by
    simp only [decide_eq_true_eq] at h1 h2
    rcases aNf (zX h).2 x hx y hy with e | e | e
    · exact e
    · exact absurd (h1.trans h2.symm) e
    · exact absurd (h2.trans h1.symm) e]
theorem aVf : gA o = gA p := by
  obtain ⟨h1, h2, h3⟩ := qJ h
  obtain ⟨k1, k2, k3⟩ := qJ (aFf h hs)
  refine xB (key := fun x : aG => x.Id) (aDo o) (aDo p) fun x => ?_
  rw [wC (fun x hx => (tH.1 (h1 x hx)).1) h2, wC (fun x hx => (tH.1 (k1 x hx)).1) k2]
  exact hs.items x
theorem aVe (n : Int) : jO o d n = jO p d n := by
  have ho := aFf h hs
  have f1 : aPj o p := ⟨hs.tree, hs.prizes, hs.daily, fun s hm => (hs.slips s).1 hm, fun s hm _ => (hs.slips s).2 hm⟩
  have f2 : aPj p o := ⟨hs.tree.symm, hs.prizes.symm, hs.daily.symm, fun s hm => (hs.slips s).2 hm, fun s hm _ => (hs.slips s).1 hm⟩
  have ht := aXl h hs n
  have a := aMl f1 h ho ht
  have b := aMl f2 ho h ht.symm
  have e : ∀ x y : cN, x.Low = y.Low → x.High = y.High → x = y := fun x y e1 e2 => by cases x; cases y; simp only at e1 e2; rw [e1, e2]
  exact e _ _ (Int.le_antisymm a.1 b.1) (Int.le_antisymm b.2 a.2)
theorem aXi (n : Int) : yD o d n = yD p d n := by
  unfold yD xF tU
  rw [aVe h hs, aZg h hs, aVf h hs, aXk h hs, hs.daily]
theorem aNm : pO o d = pO p d := by
  have e : wE o = wE p := by
    unfold wE
    congr 1
    exact funext fun n => aKa hs n
  unfold pO
  rw [e]
  exact List.map_congr_left fun n _ => aXi h hs n
end
end Go.Am

end
section
namespace Go.Am

theorem bBa {α : Type} [DecidableEq α] {l m : List α} (hl : l.Nodup) (hm : m.Nodup) (h : ∀ x, x ∈ l ↔ x ∈ m) : l.Perm m := by
  rw [List.perm_iff_count]
  intro a
  rw [hl.count, hm.count]
  simp only [h a]
section
variable {p : aM} {d : List Int} (h : GP p d)
include h
end
end Go.Am

end
section
namespace Go.Am

theorem aWe (n : Int) (h0 : 0 ≤ n) (h1 : n ≤ 100000) : mT n = some [] := by
  unfold mT
  have w0 : w64 (0 - 0) = 0 := by decide
  have w1 : w64 (n - 0) = n := by rw [Int.sub_zero, cC (by omega) (by omega)]
  rw [decide_eq_false (by omega), cond_false, w0, w1]
  by_cases h : 0 < n
  · rw [decide_eq_true h, cond_true, decide_eq_true (show n * ((40 : Nat) : Int) ≤ 140737488355328 by omega)]; rfl
  · rw [decide_eq_false h]; rfl
theorem aWd (n : Int) (h0 : 0 ≤ n) (h1 : n ≤ 100000) : mS n = some [] := by
  unfold mS
  have w0 : w64 (0 - 0) = 0 := by decide
  have w1 : w64 (n - 0) = n := by rw [Int.sub_zero, cC (by omega) (by omega)]
  rw [decide_eq_false (by omega), cond_false, w0, w1]
  by_cases h : 0 < n
  · rw [decide_eq_true h, cond_true, decide_eq_true (show n * ((32 : Nat) : Int) ≤ 140737488355328 by omega)]; rfl
  · rw [decide_eq_false h]; rfl
theorem aSf (a b : List aF) (ha : a.length ≤ 1000) (hb : b.length ≤ 1000) : lJ [a, b] = some (a ++ b) := by
  have i0 : idx [a, b] 0 = some a := rfl
  have i1 : idx [a, b] 1 = some b := rfl
  have w1 : w64 ((0 : Int) + 1) = 1 := by decide
  have w2 : w64 ((1 : Int) + 1) = 2 := by decide
  have wa : w64 ((0 : Int) + (a.length : Int)) = a.length := by rw [Int.zero_add]; exact cC (by omega) (by omega)
  have wb : w64 ((a.length : Int) + (b.length : Int)) = (a.length : Int) + b.length := cC (by omega) (by omega)
  have d0 : decide ((0 : Int) < (([a, b].length : Nat) : Int)) = true := rfl
  have d1 : decide ((1 : Int) < (([a, b].length : Nat) : Int)) = true := rfl
  have d2 : decide ((2 : Int) < (([a, b].length : Nat) : Int)) = false := rfl
  obtain ⟨k, hk⟩ : ∃ k, BIG = k + 1 + 1 + 1 := ⟨BIG - 3, rfl⟩
  unfold lJ
  rw [hk, gG, d0, cond_true, i0, Option.bind_some, wa, decide_eq_false (by omega), cond_false, w1, gG, d1, cond_true, i1, Option.bind_some, wb, decide_eq_false (by omega), cond_false, w2, gG, d2, cond_false]
  unfold qH
  rw [aWe _ (by omega) (by omega), Option.bind_some, hk, gH, d0, cond_true, i0, Option.bind_some, eJ (by simp; omega), Option.bind_some, w1, gH, d1, cond_true, i1, Option.bind_some, eJ (by simp; omega), Option.bind_some, w2, gH, d2, cond_false]
  rfl
theorem aSe (a b : List aG) (ha : a.length ≤ 1000) (hb : b.length ≤ 1000) : lI [a, b] = some (a ++ b) := by
  have i0 : idx [a, b] 0 = some a := rfl
  have i1 : idx [a, b] 1 = some b := rfl
  have w1 : w64 ((0 : Int) + 1) = 1 := by decide
  have w2 : w64 ((1 : Int) + 1) = 2 := by decide
  have wa : w64 ((0 : Int) + (a.length : Int)) = a.length := by rw [Int.zero_add]; exact cC (by omega) (by omega)
  have wb : w64 ((a.length : Int) + (b.length : Int)) = (a.length : Int) + b.length := cC (by omega) (by omega)
  have d0 : decide ((0 : Int) < (([a, b].length : Nat) : Int)) = true := rfl
  have d1 : decide ((1 : Int) < (([a, b].length : Nat) : Int)) = true := rfl
  have d2 : decide ((2 : Int) < (([a, b].length : Nat) : Int)) = false := rfl
  obtain ⟨k, hk⟩ : ∃ k, BIG = k + 1 + 1 + 1 := ⟨BIG - 3, rfl⟩
  unfold lI
  rw [hk, gE, d0, cond_true, i0, Option.bind_some, wa, decide_eq_false (by omega), cond_false, w1, gE, d1, cond_true, i1, Option.bind_some, wb, decide_eq_false (by omega), cond_false, w2, gE, d2, cond_false]
  unfold qG
  rw [aWd _ (by omega) (by omega), Option.bind_some, hk, gF, d0, cond_true, i0, Option.bind_some, eJ (by simp; omega), Option.bind_some, w1, gF, d1, cond_true, i1, Option.bind_some, eJ (by simp; omega), Option.bind_some, w2, gF, d2, cond_false]
  rfl
/-- A purse with more slips and items. -/
def uX (p : aM) (s : List aF) (x : List aG) : aM := ⟨p.Tree, p.Slips ++ s, p.Prizes, p.Daily, p.Teams, p.Levies, p.Rates, p.Items ++ x⟩
def aPm (p : aM) : aM := ⟨p.Tree, p.Slips, p.Prizes, p.Daily, p.Teams, p.Levies, p.Rates, gA p⟩
def noP : aM := ⟨⟨0, []⟩, [], [], 0, [], [], [], []⟩
def aIm (p : aM) (s : List aF) (x : List aG) : aM × Int :=
  bif decide (oK p = 0) then bif decide (oK (uX p s x) = 0) then (aPm (uX p s x), 0) else (noP, oK (uX p s x)) else (noP, oK p)
section
variable {p : aM} (hz : Sz p) {s : List aF} {x : List aG} (hm : Sz (uX p s x))
include hz hm
theorem bCf : wQ p s x = some (aIm p s x) := by
  have b1 := hz.slots
  have b2 := hz.slips
  have b3 := hz.prizes
  have b4 := hz.teams
  have b5 := hz.levies
  have b6 := hz.rates
  have b7 := hz.items
  have c2 := hm.slips
  have c7 := hm.items
  simp only [uX, List.length_append] at c2 c7
  unfold wQ aIm
  rw [aJc hz, Option.bind_some]
  by_cases h0 : oK p = 0
  · rw [decide_eq_true h0, Bool.not_true, cond_false, cond_true]
    unfold slices_Clone_int pF pD pE
    rw [eJ (by simp; omega), Option.bind_some, Option.bind_some, aSf _ _ (by omega) (by omega), Option.bind_some, aSe _ _ (by omega) (by omega), Option.bind_some, eJ (by simp; omega), Option.bind_some, Option.bind_some, eJ (by simp; omega), Option.bind_some, Option.bind_some, eJ (by simp; omega), Option.bind_some, Option.bind_some, eJ (by simp; omega), Option.bind_some, Option.bind_some]
    simp only [List.nil_append]
    have hck := aJc hm
    unfold uX at hck
    rw [hck, Option.bind_some]
    show (bif !decide (oK (uX p s x) = 0) then _ else _) = _
    by_cases h1 : oK (uX p s x) = 0
    · rw [decide_eq_true h1, Bool.not_true, cond_false, cond_true]
      obtain ⟨d, hg⟩ := aUl h1
      have ho := bAa hg
      unfold uX at ho
      rw [ho, Option.bind_some]; rfl
    · rw [decide_eq_false h1, Bool.not_false, cond_true, cond_false]; rfl
  · rw [decide_eq_false h0, Bool.not_false, cond_true, cond_false]; rfl
end
end Go.Am

end
