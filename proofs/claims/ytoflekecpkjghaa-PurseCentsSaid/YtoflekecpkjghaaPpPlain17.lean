/- Plain laws, one behind the other. -/
import Derived.Test.YtoflekecpkjghaaPpWorks
section
namespace Go.Am

structure NearP (p : aQ) : Prop where
  slots : p.Tree.Slots.length ≤ 8
  slips : p.Slips.length ≤ 20
  prizes : p.Prizes.length ≤ 20
  teams : p.Teams.length ≤ 40
  levies : p.Levies.length ≤ 40
  rates : p.Rates.length ≤ 40
  items : p.Items.length ≤ 60
theorem NearP.sz {p : aQ} (h : NearP p) : Sz p := by
  obtain ⟨h1, h2, h3, h4, h5, h6, h7⟩ := h
  exact ⟨by omega, by omega, by omega, by omega, by omega, by omega, by omega⟩
theorem aXz (p : aQ) : mI p = some true ∨ (mI p = some false ∧ NearP p) := by
  have hf : mI p = some (decide (8 < (p.Tree.Slots.length : Int)) || decide (20 < (p.Slips.length : Int)) || decide (20 < (p.Prizes.length : Int)) || decide (40 < (p.Teams.length : Int)) || decide (40 < (p.Levies.length : Int)) || decide (40 < (p.Rates.length : Int)) || decide (60 < (p.Items.length : Int))) := by
    unfold mI
    rw [eK, Option.bind_some, eK, Option.bind_some, eK, Option.bind_some, eK, Option.bind_some, eK, Option.bind_some, eK, Option.bind_some]
  cases hb : (decide (8 < (p.Tree.Slots.length : Int)) || decide (20 < (p.Slips.length : Int)) || decide (20 < (p.Prizes.length : Int)) || decide (40 < (p.Teams.length : Int)) || decide (40 < (p.Levies.length : Int)) || decide (40 < (p.Rates.length : Int)) || decide (60 < (p.Items.length : Int))) with
  | true => exact .inl (by rw [hf, hb])
  | false =>
    refine .inr ⟨by rw [hf, hb], ?_⟩
    simp only [Bool.or_eq_false_iff, decide_eq_false_iff_not] at hb
    obtain ⟨⟨⟨⟨⟨⟨a, b⟩, c⟩, d⟩, e⟩, f⟩, g⟩ := hb
    exact ⟨by omega, by omega, by omega, by omega, by omega, by omega, by omega⟩
end Go.Am

end
section
namespace Go.Am

theorem aVz (p : aQ) : mJ p = some false ∨ (mJ p = some true ∧ NearP p ∧ ∃ d, GP p d) := by
  unfold mJ
  rcases aXz p with h | ⟨h, hn⟩
  · exact .inl (by rw [h]; rfl)
  · rw [h, Option.bind_some, Bool.not_false, cond_true, aXr hn.sz, Option.bind_some, Option.bind_some]
    by_cases hc : uO p = 0
    · exact .inr ⟨by rw [decide_eq_true hc], hn, aWf hc⟩
    · exact .inl (by rw [decide_eq_false hc])
/-- What comes is what goes. -/
def Bal (b : aV) : Prop := b.Gross + b.Daily + b.Debt = b.Tax + b.Fines + b.Used + b.Rest
theorem aUp {p : aQ} {d : List Int} (h : GP p d) (n : Int) : Bal (rQ p d n) := by
  have hb := aGy h n
  obtain ⟨_, _, _, _, f5, _⟩ := aCl (person := n) hb
  unfold Bal rQ
  show (iZ p d n).Low + tI p n + max 0 (-((iZ p d n).Low + tI p n - xO p n (iZ p d n).Low - pR p n)) = xO p n (iZ p d n).Low + pR p n + (lK _ _ _ _ _ _ _).Used + (lK _ _ _ _ _ _ _).Rest
  omega
theorem Bal.add {s b : aV} (hs : Bal s) (hb : Bal b) : Bal (vA s b) := by
  unfold Bal vA at *
  simp only
  omega
theorem aNl : ∀ (l : List aV) (s : aV), Bal s → (∀ b ∈ l, Bal b) → Bal (l.foldl vA s)
  | [], s, hs, _ => hs
  | b :: l, s, hs, hb => aNl l (vA s b) (hs.add (hb b List.mem_cons_self)) fun c hc => hb c (List.mem_cons_of_mem _ hc)
theorem aZe {a b c d e f g h : Int} (h1 : 0 ≤ a) (h2 : 0 ≤ b) (h3 : 0 ≤ c) (h4 : 0 ≤ d) (h5 : 0 ≤ e) (h6 : 0 ≤ f) (h7 : 0 ≤ g) (h8 : 0 ≤ h) : 0 ≤ min (min (min (min (min (min (min a b) c) d) e) f) g) h := by
  omega
theorem aPw {p : aQ} {d : List Int} (h : GP p d) : (vT p).length ≤ 2 * p.Teams.length := by
  rw [← aEc h, (kH _).length_eq]
  exact sC p.Teams
theorem aNm (p : aQ) (d : List Int) : (mX p d).Pairwise fun a b => a.Person < b.Person := by
  unfold mX
  have : (vT p).Pairwise fun a b : Int => a < b := (aOp 1000).sublist List.filter_sublist
  exact List.Pairwise.map _ (fun a b hab => hab) this
theorem aQm {p : aQ} {d : List Int} (h : GP p d) : ∀ b ∈ mX p d, ∃ n, mM p n = true ∧ b = rQ p d n ∧ b.Person = n := fun b hb => by
  obtain ⟨n, hn, rfl⟩ := List.mem_map.1 hb
  exact ⟨n, (aHt (wU h.teams) n).1 hn, rfl, rfl⟩
theorem aSk {p : aQ} {d : List Int} (h : GP p d) (n : Int) : 0 < (rQ p d n).Debt → (rQ p d n).Used + (rQ p d n).Rest = 0 := by
  have hb := aGy h n
  obtain ⟨_, _, _, _, f5, _⟩ := aCl (person := n) hb
  unfold rQ
  intro hd
  have hd' : 0 < max 0 (-((iZ p d n).Low + tI p n - xO p n (iZ p d n).Low - pR p n)) := hd
  rw [f5]; omega
def aJp (s : Int × aV) (b : aV) : Int × aV := (b.Person, vA s.2 b)
theorem aIk : ∀ (l : List aV) (s : Int × aV), (l.foldl aJp s).2 = l.foldl vA s.2
  | [], _ => rfl
  | b :: l, s => by rw [List.foldl_cons, aIk l]; rfl
theorem aNn : ∀ (l : List aV) (s : Int × aV), (l.foldl aJp s).1 = s.1 ∨ ∃ b ∈ l, (l.foldl aJp s).1 = b.Person
  | [], _ => .inl rfl
  | b :: l, s => by
    rw [List.foldl_cons]
    rcases aNn l (aJp s b) with h | ⟨c, hc, h⟩
    · exact .inr ⟨b, List.mem_cons_self, h⟩
    · exact .inr ⟨c, List.mem_cons_of_mem _ hc, h⟩
end Go.Am

end
