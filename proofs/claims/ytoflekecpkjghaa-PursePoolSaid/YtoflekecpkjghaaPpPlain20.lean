/- Plain laws, one behind the other. -/
import Derived.Test.YtoflekecpkjghaaPpPlain18
section
namespace Go.Am

theorem aVl {α : Type} {R : α → α → Prop} : ∀ {l : List α}, l.Pairwise R → ∀ a ∈ l, ∀ b ∈ l, a = b ∨ R a b ∨ R b a
  | [], _, _, h, _, _ => by cases h
  | x :: l, hp, a, ha, b, hb => by
    obtain ⟨h1, h2⟩ := List.pairwise_cons.1 hp
    rcases List.mem_cons.1 ha with e | ha
    · rcases List.mem_cons.1 hb with e' | hb
      · exact .inl (e.trans e'.symm)
      · rw [e]; exact .inr (.inl (h1 b hb))
    · rcases List.mem_cons.1 hb with e' | hb
      · rw [e']; exact .inr (.inr (h1 a ha))
      · exact aVl h2 a ha b hb
/-- The same purse in another order. -/
structure bBr (o p : aN) : Prop where
  tree : o.Tree = p.Tree
  prizes : o.Prizes = p.Prizes
  daily : o.Daily = p.Daily
  slips : ∀ s, s ∈ o.Slips ↔ s ∈ p.Slips
  slen : o.Slips.length ≤ 60
  items : ∀ x, x ∈ o.Items ↔ x ∈ p.Items
  ilen : o.Items.length ≤ 40
  teams : o.Teams.Perm p.Teams
  levies : o.Levies.Perm p.Levies
  rates : o.Rates.Perm p.Rates
section
variable {p o : aN} {d : List Int} (h : GP p d)
include h
theorem aYa : p.Teams.Pairwise fun a b => ∀ x ∈ fJ a, ∀ y ∈ fJ b, x ≠ y := by
  have hn : (dC p).Nodup := by
    have := h.teams
    unfold mT at this
    simp only [Bool.and_eq_true, decide_eq_true_eq] at this
    exact this.1.1.2
  have hpp : (p.Teams.flatMap fJ).Nodup ↔ (∀ t ∈ p.Teams, (fJ t).Nodup) ∧ p.Teams.Pairwise fun a b => ∀ x ∈ fJ a, ∀ y ∈ fJ b, x ≠ y := List.pairwise_flatMap
  exact (hpp.1 hn).2
theorem aQi {t : bP} (ht : t ∈ p.Teams) {n : Int} (hs : (decide (t.One = n) || (decide (t.Two = n) && decide (0 ≤ n))) = true) : n ∈ fJ t := by
  have htb := mH.1 (qH h.teams t ht)
  simp only [Bool.or_eq_true, Bool.and_eq_true, decide_eq_true_eq] at hs
  rw [kM]
  rcases hs with hs | hs
  · exact .inl hs.symm
  · exact .inr ⟨hs.1.symm, by omega⟩
theorem aXy (n : Int) : ∀ x ∈ p.Teams, ∀ y ∈ p.Teams, (decide (x.One = n) || (decide (x.Two = n) && decide (0 ≤ n))) = true → (decide (y.One = n) || (decide (y.Two = n) && decide (0 ≤ n))) = true → x = y := by
  intro x hx y hy h1 h2
  have m1 := aQi h hx h1
  have m2 := aQi h hy h2
  rcases aVl (aYa h) x hx y hy with e | e | e
  · exact e
  · exact absurd rfl (e n m1 n m2)
  · exact absurd rfl (e n m2 n m1)
variable (hs : bBr o p)
include hs
end
end Go.Am

end
section
namespace Go.Am

theorem aNm {l m : List Int} (h : l.Perm m) : l.sum = m.sum := by
  induction h with
  | nil => rfl
  | cons x _ ih => rw [List.sum_cons, List.sum_cons, ih]
  | swap x y l => simp only [List.sum_cons]; omega
  | trans _ _ ih1 ih2 => exact ih1.trans ih2
theorem aZq {α : Type} [DecidableEq α] {l m : List α} (hl : l.Nodup) (hm : m.Nodup) (h : ∀ x, x ∈ l ↔ x ∈ m) : l.Perm m := by
  rw [List.perm_iff_count]
  intro a
  rw [hl.count, hm.count]
  simp only [h a]
theorem aQe {α : Type} (f : α → List Int) (g : Int → Int) : ∀ l : List α, ((l.flatMap f).map g).sum = (l.map fun x => ((f x).map g).sum).sum
  | [] => rfl
  | x :: l => by rw [List.flatMap_cons, List.map_append, List.sum_append, aQe f g l, List.map_cons, List.sum_cons]
theorem aIy {α : Type} (q : α → Bool) (g : α → Int) : ∀ l : List α, (∀ x ∈ l, q x = false → g x = 0) → (l.map g).sum = ((l.filter q).map g).sum
  | [], _ => rfl
  | x :: l, h => by
    have ih := aIy q g l fun y hy => h y (List.mem_cons_of_mem _ hy)
    cases hq : q x with
    | true => rw [List.filter_cons_of_pos hq, List.map_cons, List.map_cons, List.sum_cons, List.sum_cons, ih]
    | false =>
      have h0 := h x List.mem_cons_self hq
      rw [List.filter_cons_of_neg (by rw [hq]; decide), List.map_cons, List.sum_cons, h0, ih, Int.zero_add]
theorem aMm {α : Type} (f g : α → Int) : ∀ l : List α, (l.map fun x => f x + g x).sum = (l.map f).sum + (l.map g).sum
  | [] => rfl
  | x :: l => by simp only [List.map_cons, List.sum_cons, aMm f g l]; omega
theorem aHt {α : Type} (c : Int) : ∀ l : List α, (l.map fun _ => c).sum = c * l.length
  | [] => by simp
  | x :: l => by rw [List.map_cons, List.sum_cons, aHt c l, List.length_cons, Int.natCast_add, Int.mul_add]; omega
theorem aQf {α : Type} (q : α → Bool) (c : Int) : ∀ l : List α, (l.map fun x => bif q x then c else 0).sum = c * (l.filter q).length
  | [] => by simp
  | x :: l => by
    rw [List.map_cons, List.sum_cons, aQf q c l]
    cases hq : q x with
    | true => rw [List.filter_cons_of_pos hq, List.length_cons, cond_true, Int.natCast_add, Int.mul_add]; omega
    | false => rw [List.filter_cons_of_neg (by rw [hq]; decide), cond_false, Int.zero_add]
theorem aWc {α : Type} (f g : α → Int) : ∀ l : List α, (∀ x ∈ l, f x ≤ g x) → (l.map f).sum ≤ (l.map g).sum
  | [], _ => Int.le_refl _
  | x :: l, h => by
    have := aWc f g l fun y hy => h y (List.mem_cons_of_mem _ hy)
    have := h x List.mem_cons_self
    simp only [List.map_cons, List.sum_cons]
    omega
theorem aQg {α : Type} (f : α → Nat → Int) (n : Nat) : ∀ l : List α, (l.map fun x => ((List.range n).map (f x)).sum).sum = ((List.range n).map fun j => (l.map fun x => f x j).sum).sum
  | [] => by
    have := aHt (α := Nat) 0 (List.range n)
    simp only [List.map_nil, List.sum_nil]
    rw [this]; simp
  | x :: l => by
    rw [List.map_cons, List.sum_cons, aQg f n l, ← aMm]
    simp only [List.map_cons, List.sum_cons]
theorem aKx : ∀ (l : List aY) (s : aY), (l.foldl aAg s).Gross = s.Gross + (l.map fun b => b.Gross).sum
  | [], s => by simp
  | b :: l, s => by rw [List.foldl_cons, aKx l, List.map_cons, List.sum_cons]; show s.Gross + b.Gross + _ = _; omega
/-- A sum of steps. -/
theorem aNl (P : Nat → Int) (k : Nat) : ∀ n, ((List.range n).map fun j => bif decide (j < k) then P (j + 1) - P j else 0).sum = P (min n k) - P 0
  | 0 => by simp
  | n + 1 => by
    rw [List.range_succ, List.map_append, List.sum_append, aNl P k n, List.map_singleton, List.sum_singleton]
    by_cases h : n < k
    · rw [decide_eq_true h, cond_true, show min n k = n by omega, show min (n + 1) k = n + 1 by omega]; omega
    · rw [decide_eq_false h, cond_false, show min n k = k by omega, show min (n + 1) k = k by omega]; omega
theorem aTi (P : Nat → Int) (R : Nat) (h1 : 1 ≤ R) (h5 : R ≤ 5) : P R + ((List.range R).map fun i => P i * 2 ^ (R - 1 - i)).sum = P 0 * 2 ^ R + ((List.range R).map fun j => (P (j + 1) - P j) * 2 ^ (R - 1 - j)).sum := by
  have : R = 1 ∨ R = 2 ∨ R = 3 ∨ R = 4 ∨ R = 5 := by omega
  rcases this with rfl | rfl | rfl | rfl | rfl <;> simp [List.range_succ] <;> omega
section
variable {p : aN} {d : List Int} (h : GP p d)
include h
/-- What a player has won so far, and its prize. -/
def aCr (p : aN) (d : List Int) (x : Int) : Int := if (jX p d x).2 = 0 then dK p (jX p d x).1.Low else 0
theorem aXx {t : bP} (ht : t ∈ p.Teams) {n : Int} (hn : n ∈ fJ t) : vC p n = some t := by
  have hsat : (decide (t.One = n) || (decide (t.Two = n) && decide (0 ≤ n))) = true := by
    have htb := mH.1 (qH h.teams t ht)
    rw [kM] at hn
    simp only [Bool.or_eq_true, Bool.and_eq_true, decide_eq_true_eq]
    rcases hn with rfl | ⟨rfl, h2⟩
    · exact .inl rfl
    · exact .inr ⟨rfl, by omega⟩
  unfold vC
  cases e : p.Teams.find? fun t => decide (t.One = n) || (decide (t.Two = n) && decide (0 ≤ n)) with
  | none => exact absurd hsat (List.find?_eq_none.1 e t ht)
  | some x =>
    have hx := List.find?_some e
    rw [aXy h n x (List.mem_of_find?_eq_some e) t ht hx hsat]
theorem aPq (x : Int) : (0 ≤ (jX p d x).1.Low ∧ (jX p d x).1.Low ≤ p.Tree.Rounds) ∧ (0 ≤ (jX p d x).1.High ∧ (jX p d x).1.High ≤ p.Tree.Rounds) := by
  have := h.good.ht.r1
  exact aCn p d x (by omega)
theorem aTv {t : bP} (ht : t ∈ p.Teams) : ((fJ t).map fun n => (jP p d n).Low).sum = aCr p d t.Player := by
  have hg : ∀ n ∈ fJ t, (jP p d n).Low = (aIb p d n t).Low := fun n hn => by unfold jP; rw [aXx h ht hn]
  have hs : ∀ n, (aIb p d n t).Low = if (jX p d t.Player).2 = 0 then vA t n (dK p (jX p d t.Player).1.Low) else 0 := fun n => by
    unfold aIb; split <;> rfl
  have hr := aPq h t.Player
  have hp := (oY h.prizes hr.1.1 hr.1.2).2.1
  unfold aCr
  generalize dK p (jX p d t.Player).1.Low = q at hs hp ⊢
  by_cases h2 : t.Two = -1
  · have e : fJ t = [t.One] := by unfold fJ; rw [if_pos h2]
    rw [e] at hg ⊢
    rw [List.map_singleton, List.sum_singleton, hg _ List.mem_cons_self, hs]
    unfold vA
    rw [if_pos h2]
  · have e : fJ t = [t.One, t.Two] := by unfold fJ; rw [if_neg h2]
    have hne := aZz h ht h2
    rw [e] at hg ⊢
    rw [List.map_cons, List.sum_cons, List.map_singleton, List.sum_singleton, hg _ List.mem_cons_self, hg _ (List.mem_cons_of_mem _ List.mem_cons_self), hs, hs]
    unfold vA
    rw [if_neg h2, if_neg h2, if_pos rfl, if_neg hne]
    rw [Int.tdiv_eq_ediv_of_nonneg (by omega), Int.tdiv_eq_ediv_of_nonneg hp]
    split <;> omega
theorem aIz : (aBf p d).Gross = ((cY p).map (aCr p d)).sum := by
  unfold aBf
  rw [aKx]
  unfold yM
  rw [List.map_map]
  have e1 : ((xY p).map ((fun b : aY => b.Gross) ∘ zL p d)).sum = ((dC p).map fun n => (jP p d n).Low).sum := by
    rw [← aFc h]
    exact aNm ((kR _).map _)
  rw [e1]
  unfold dC cY
  rw [aQe, List.map_map]
  have e2 : (p.Teams.map fun t => ((fJ t).map fun n => (jP p d n).Low).sum) = p.Teams.map (aCr p d ∘ fun t => t.Player) := List.map_congr_left fun t ht => aTv h ht
  rw [e2]
  exact Int.zero_add _
/-- The slots of those who play. -/
def mS (d : List Int) : List Nat := (List.range d.length).filter fun a => !decide (d.getD a 0 = -1)
omit h in
theorem kL {d : List Int} {a : Nat} : a ∈ mS d ↔ a < d.length ∧ d.getD a 0 ≠ -1 := by unfold mS; simp
theorem aIx {a : Nat} (ha : a < d.length) (hn : d.getD a 0 ≠ -1) : d.getD a 0 ∈ cY p := by
  have ht := h.teams
  unfold mT at ht
  simp only [Bool.and_eq_true, decide_eq_true_eq] at ht
  obtain ⟨⟨_, h5⟩, h6⟩ := ht
  have hlen := h.good.dok.len
  rcases h.good.home.home a ha with e | ⟨u, hu, _, e⟩
  · have ha' : a < p.Tree.Slots.length := by omega
    rw [cA ha'] at e
    unfold xD at h5
    have := List.all_eq_true.1 h5 _ (List.getElem_mem ha')
    rw [← e] at this
    simp only [Bool.or_eq_true, decide_eq_true_eq] at this
    exact this.resolve_left hn
  · have hm := aEh.1 hu
    unfold uA at h6
    have := List.all_eq_true.1 h6 u hm.1
    simp only [Bool.or_eq_true, Bool.not_eq_true', decide_eq_true_eq, decide_eq_false_iff_not] at this
    rw [← e]
    exact this.resolve_left fun hk => hk hm.2
theorem aPr {a : Nat} (ha : a < d.length) (hn : d.getD a 0 ≠ -1) : jX p d (d.getD a 0) = (⟨lL d (kE p) a p.Tree, aLd d (kE p) a p.Tree⟩, 0) := by
  have hD := h.good.dok
  have hr := hD.rng a ha
  have h999 : d.getD a 0 ≤ 999 := by
    obtain ⟨t, ht, e⟩ := List.mem_map.1 (aIx h ha hn)
    have := (mH.1 (qH h.teams t ht)).1
    omega
  unfold jX sF
  rw [mU.2 ⟨by omega, h999⟩, if_pos rfl, aXt hD ha hn, if_neg (by omega), Int.toNat_natCast]
  rfl
theorem aYj {a : Nat} (ha : a < d.length) (hn : d.getD a 0 ≠ -1) : aCr p d (d.getD a 0) = dK p (lL d (kE p) a p.Tree : Int) := by
  unfold aCr
  rw [aPr h ha hn, if_pos rfl]
theorem aYi {x : Int} (hx : x ∈ cY p) (hn : ∀ a, a < d.length → d.getD a 0 ≠ x) : aCr p d x = 0 := by
  obtain ⟨t, ht, e⟩ := List.mem_map.1 hx
  have := (mH.1 (qH h.teams t ht)).1
  unfold aCr jX sF
  rw [mU.2 ⟨by omega, by omega⟩, if_pos rfl]
  rcases yI d x with ⟨h1, _⟩ | ⟨a, h1, ha, he⟩
  · have e : ((-1 : Int) < 0) := by decide
    rw [h1]
    simp only [if_pos e]
    exact if_neg (by decide)
  · exact absurd he (hn a ha)
theorem aIr : ((cY p).map (aCr p d)).sum = ((mS d).map fun a => dK p (lL d (kE p) a p.Tree : Int)).sum := by
  have ht := h.teams
  unfold mT at ht
  simp only [Bool.and_eq_true, decide_eq_true_eq] at ht
  have hnd : (cY p).Nodup := ht.1.1.1.2
  have hD := h.good.dok
  rw [aIy (fun x => decide (x ∈ (mS d).map (d.getD · 0))) (aCr p d) (cY p) fun x hx hq => by
    simp only [decide_eq_false_iff_not] at hq
    refine aYi h hx fun a ha he => ?_
    have hx1 : -1 < x := by
      obtain ⟨t, ht, e⟩ := List.mem_map.1 hx
      have := (mH.1 (qH h.teams t ht)).1
      omega
    exact hq (List.mem_map.2 ⟨a, kL.2 ⟨ha, by omega⟩, he⟩)]
  have hp : ((cY p).filter fun x => decide (x ∈ (mS d).map (d.getD · 0))).Perm ((mS d).map (d.getD · 0)) := by
    refine aZq (hnd.filter _) ?_ fun x => ?_
    · refine List.pairwise_map.2 ((List.nodup_range.filter _ : (mS d).Nodup).imp_of_mem fun {a b} ha hb hab he => ?_)
      exact hab (hD.uni (kL.1 ha).1 (kL.1 hb).1 he (kL.1 ha).2)
    · rw [List.mem_filter, decide_eq_true_eq]
      refine ⟨fun hx => hx.2, fun hx => ⟨?_, hx⟩⟩
      obtain ⟨a, ha, rfl⟩ := List.mem_map.1 hx
      exact aIx h (kL.1 ha).1 (kL.1 ha).2
  rw [aNm (hp.map _), List.map_map]
  congr 1
  exact List.map_congr_left fun a ha => aYj h (kL.1 ha).1 (kL.1 ha).2
/-- How many have won more than j matches for sure. -/
def aSr (p : aN) (d : List Int) (j : Nat) : Nat := ((mS d).filter fun a => decide (j < lL d (kE p) a p.Tree)).length
omit h in
theorem aNb : ((mS d).map fun a => dK p (lL d (kE p) a p.Tree : Int)).sum = dK p 0 * (mS d).length + ((List.range p.Tree.Rounds.toNat).map fun j => (dK p (j + 1 : Nat) - dK p (j : Nat)) * (aSr p d j : Int)).sum := by
  have e1 : ∀ a, dK p (lL d (kE p) a p.Tree : Int) = dK p 0 + ((List.range p.Tree.Rounds.toNat).map fun j => bif decide (j < lL d (kE p) a p.Tree) then dK p (j + 1 : Nat) - dK p (j : Nat) else 0).sum := fun a => by
    rw [aNl (fun n => dK p (n : Nat)) (lL d (kE p) a p.Tree) p.Tree.Rounds.toNat]
    have : lL d (kE p) a p.Tree ≤ p.Tree.Rounds.toNat := aCh _ _
    rw [show min p.Tree.Rounds.toNat (lL d (kE p) a p.Tree) = lL d (kE p) a p.Tree by omega]
    show _ = dK p 0 + (_ - dK p 0)
    omega
  simp only [e1]
  rw [aMm, aHt, aQg]
  congr 2
  exact List.map_congr_left fun j _ => aQf _ _ _
theorem aYy (j : Nat) (hj : j < p.Tree.Rounds.toNat) : (((mS d).filter fun a => decide (j < lL d (kE p) a p.Tree)).map fun a => a / 2 ^ (j + 1)).Nodup ∧ ∀ q ∈ ((mS d).filter fun a => decide (j < lL d (kE p) a p.Tree)).map (fun a => a / 2 ^ (j + 1)), q ∈ List.range (dF p.Tree j) := by
  have hD := h.good.dok
  have ht := h.good.ht
  have hM := (yT h.good).2
  have hlen := hD.len
  constructor
  · refine List.pairwise_map.2 (((List.nodup_range.filter _ : (mS d).Nodup).filter _).imp_of_mem fun {a b} ha hb hab he => hab ?_)
    obtain ⟨a1, a2⟩ := List.mem_filter.1 ha
    obtain ⟨b1, b2⟩ := List.mem_filter.1 hb
    have ha' := kL.1 a1
    have hb' := kL.1 b1
    have ca := (aJs ht hD hM ha'.1 hj).1 (of_decide_eq_true a2) j (Nat.le_refl _)
    have cb := (aJs ht hD hM hb'.1 hj).1 (of_decide_eq_true b2) j (Nat.le_refl _)
    have ec : cell a j = cell b j := by unfold cell; rw [he]
    rw [ec] at ca
    exact hD.uni ha'.1 hb'.1 (h.good.fn _ _ _ ca cb) ha'.2
  · intro q hq
    obtain ⟨a, ha, rfl⟩ := List.mem_map.1 hq
    have ha' := kL.1 (List.mem_filter.1 ha).1
    exact List.mem_range.2 (rD ht (hlen ▸ ha'.1) hj)
theorem aUi (j : Nat) (hj : j < p.Tree.Rounds.toNat) : aSr p d j ≤ dF p.Tree j := by
  obtain ⟨h1, h2⟩ := aYy h j hj
  have := lW h1 h2
  rw [List.length_map, List.length_range] at this
  exact this
theorem aYx (h0 : aBq p.Tree (kE p) = 0) (j : Nat) (hj : j < p.Tree.Rounds.toNat) : aSr p d j = dF p.Tree j := by
  have hD := h.good.dok
  have ht := h.good.ht
  have hM := (yT h.good).2
  refine Nat.le_antisymm (aUi h j hj) ?_
  have := lW (l := List.range (dF p.Tree j)) (m := ((mS d).filter fun a => decide (j < lL d (kE p) a p.Tree)).map fun a => a / 2 ^ (j + 1)) List.nodup_range fun q hq => ?_
  · rw [List.length_map, List.length_range] at this
    exact this
  · have hq' := List.mem_range.1 hq
    have hno : mat (kE p) j q ≠ -2 := fun he => by
      unfold aBq at h0
      have hmem : (j, q) ∈ (aCj p.Tree).filter (aEj (kE p)) := List.mem_filter.2 ⟨aJv.2 ⟨hj, hq'⟩, decide_eq_true he⟩
      rw [List.length_eq_zero_iff.1 h0] at hmem
      cases hmem
    have hc := (hM.mem j q _ hj hq').1 ⟨rfl, hno⟩
    obtain ⟨a, ha, hv, hn, hcell, _, hall⟩ := h.good.down hc
    refine List.mem_map.2 ⟨a, List.mem_filter.2 ⟨kL.2 ⟨ha, hn⟩, decide_eq_true ((aJs ht hD hM ha hj).2 fun q' hq'' => ?_)⟩, ?_⟩
    · rw [← hv]; exact hall q' hq''
    · simp only [cell, aF.mk.injEq] at hcell; omega
theorem aWn : (p.Tree.Slots.map (xK p)).sum = dK p 0 * (mS d).length - dK p 0 * 2 ^ p.Tree.Rounds.toNat := by
  have hD := h.good.dok
  have hlen := hD.len
  have ht := h.good.ht
  have e0 : p.Tree.Slots = (List.range d.length).map fun a => p.Tree.Slots.getD a 0 := by
    refine List.ext_getElem (by simp; omega) fun i h1 h2 => ?_
    rw [List.getElem_map, List.getElem_range, cA h1]
  have e1 : (p.Tree.Slots.map (xK p)).sum = ((List.range d.length).map fun a => bif decide (d.getD a 0 = -1) then -dK p 0 else 0).sum := by
    rw [e0, List.map_map]
    congr 1
    refine List.map_congr_left fun a ha => ?_
    have hb := hD.bye a (List.mem_range.1 ha)
    show xK p (p.Tree.Slots.getD a 0) = _
    unfold xK
    by_cases h1 : d.getD a 0 = -1
    · rw [decide_eq_true h1, decide_eq_true (hb.1 h1)]
    · rw [decide_eq_false h1, decide_eq_false fun e => h1 (hb.2 e)]
  have e2 : ((List.range d.length).filter fun a => decide (d.getD a 0 = -1)).length + (mS d).length = d.length := by
    have := aDt (fun a => decide (d.getD a 0 = -1)) (List.range d.length)
    rw [List.length_range] at this
    exact this
  have e5 : d.length = 2 ^ p.Tree.Rounds.toNat := hlen.trans ht.len
  rw [e1, aQf]
  generalize ((List.range d.length).filter fun a => decide (d.getD a 0 = -1)).length = x at e2 ⊢
  generalize (mS d).length = y at e2 ⊢
  have e4 : (2 : Int) ^ p.Tree.Rounds.toNat = (x : Int) + y := by
    have : ((2 ^ p.Tree.Rounds.toNat : Nat) : Int) = (2 : Int) ^ p.Tree.Rounds.toNat := by simp
    rw [← this, ← e5, ← e2]; exact Int.natCast_add x y
  rw [e4, Int.mul_add, Int.neg_mul]
  omega
theorem aSc : wT p = dK p 0 * (mS d).length + ((List.range p.Tree.Rounds.toNat).map fun j => (dK p (j + 1 : Nat) - dK p (j : Nat)) * (dF p.Tree j : Int)).sum := by
  have ht := h.good.ht
  have h1 := ht.r1
  have h5 := ht.r5
  have hs := aTi (fun n => dK p (n : Nat)) p.Tree.Rounds.toNat (by omega) (by omega)
  have hpl : ∀ j : Nat, (dF p.Tree j : Int) = 2 ^ (p.Tree.Rounds.toNat - 1 - j) := fun j => by
    unfold dF; rw [Int.toNat_natCast]; simp
  simp only [hpl]
  unfold wT
  rw [aWn h]
  unfold sR
  have e : ((p.Tree.Rounds.toNat : Nat) : Int) = p.Tree.Rounds := by omega
  rw [e] at hs
  have e0 : dK p ((0 : Nat) : Int) = dK p 0 := rfl
  rw [e0] at hs
  omega
theorem aYc : (aBf p d).Gross ≤ wT p := by
  rw [aIz h, aIr h, aNb, aSc h]
  have := aWc (fun j : Nat => (dK p (j + 1 : Nat) - dK p (j : Nat)) * (aSr p d j : Int)) (fun j : Nat => (dK p (j + 1 : Nat) - dK p (j : Nat)) * (dF p.Tree j : Int)) (List.range p.Tree.Rounds.toNat) fun j hj => by
    have hj' := List.mem_range.1 hj
    have hm := aTk h.prizes (i := (j : Nat)) (j := ((j + 1 : Nat) : Int)) (by omega) (by omega) (by omega)
    have hc := aUi h j hj'
    exact Int.mul_le_mul_of_nonneg_left (by omega) (by omega)
  omega
theorem aYb (h0 : aBq p.Tree (kE p) = 0) : (aBf p d).Gross = wT p := by
  rw [aIz h, aIr h, aNb, aSc h]
  congr 2
  exact List.map_congr_left fun j hj => by rw [aYx h h0 j (List.mem_range.1 hj)]
end
end Go.Am

end
