/- Layer 7, plain: which matches are claimed for whom; the program's map of winners. -/
import Derived.Test.YtenffgkkeafnpaaBrPlain6
namespace Go.Am

/-- The match of a round on the way of a slot. -/
def cell (a r : Nat) : aB := ⟨(r : Int), ((a / 2 ^ (r + 1) : Nat) : Int)⟩
/-- Claims: who has won which match. -/
abbrev kN := aB → Int → Prop
def Func (P : kN) : Prop := ∀ m v w, P m v → P m w → v = w
/-- A player who has won all matches up to a round. -/
def clm (d : List Int) (a r : Nat) : kN := fun m v => v = d.getD a 0 ∧ ∃ q, q ≤ r ∧ m = cell a q
def nI (P Q : kN) : Prop := ∀ m v w, P m v → Q m w → v = w
theorem Func.sub {P Q : kN} (h : Func P) (hs : ∀ m v, Q m v → P m v) : Func Q := fun m v w h1 h2 => h m v w (hs _ _ h1) (hs _ _ h2)
theorem aJr {a b q r : Nat} (h : cell a q = cell b r) : q = r ∧ a / 2 ^ (q + 1) = b / 2 ^ (r + 1) := by
  simp only [cell, aB.mk.injEq] at h
  omega

/-- The map of winners holds the claims. -/
structure WonIs (won : List (aB × Int)) (P : kN) : Prop where
  nd : (won.map (·.1)).Nodup
  mem : ∀ m v, (m, v) ∈ won ↔ P m v
theorem WonIs.ext {won : List (aB × Int)} {P Q : kN} (h : WonIs won P) (he : ∀ m v, P m v ↔ Q m v) : WonIs won Q := ⟨h.nd, fun m v => (h.mem m v).trans (he m v)⟩
theorem WonIs.get {won : List (aB × Int)} {P : kN} (h : WonIs won P) {m : aB} {v z : Int} (hp : P m v) : cF m z won = v := zP h.nd ((h.mem m v).2 hp)
theorem WonIs.has {won : List (aB × Int)} {P : kN} (h : WonIs won P) (m : aB) : cL m won = true ↔ ∃ v, P m v := by
  rw [tP, decide_eq_true_eq, List.mem_map]
  constructor
  · rintro ⟨⟨m', v⟩, hv, rfl⟩; exact ⟨v, (h.mem _ _).1 hv⟩
  · rintro ⟨v, hv⟩; exact ⟨(m, v), (h.mem _ _).2 hv, rfl⟩
theorem WonIs.func {won : List (aB × Int)} {P : kN} (h : WonIs won P) : Func P := fun m v w h1 h2 => (h.get (z := 0) h1).symm.trans (h.get h2)
theorem WonIs.nil : WonIs [] (fun _ _ => False) := ⟨by simp, by simp⟩
theorem WonIs.set {won : List (aB × Int)} {P : kN} (h : WonIs won P) {m : aB} {n : Int} (hc : ∀ v, P m v → v = n) : WonIs (eR m n won) (fun x v => P x v ∨ (x = m ∧ v = n)) := by
  by_cases hm : m ∈ won.map (·.1)
  · obtain ⟨⟨m', v⟩, hv, e⟩ := List.mem_map.1 hm
    simp only at e; subst e
    have : v = n := hc v ((h.mem _ _).1 hv)
    subst this
    rw [xK h.nd hv]
    exact ⟨h.nd, fun x w => ⟨fun hx => .inl ((h.mem _ _).1 hx), fun hx => hx.elim (h.mem _ _).2 fun ⟨a, b⟩ => a ▸ b ▸ hv⟩⟩
  · rw [aCg hm]
    refine ⟨?_, fun x w => ?_⟩
    · rw [List.map_append]
      exact List.nodup_append.2 ⟨h.nd, by simp, fun x hx y hy => by simp at hy; subst hy; exact fun e => hm (e ▸ hx)⟩
    · rw [List.mem_append, List.mem_singleton, h.mem, Prod.mk.injEq]

/-- What holds of the players of the slots. -/
structure DOK (t : aO) (d : List Int) : Prop where
  len : d.length = t.Slots.length
  dup : ∀ a b, a < b → b < d.length → d.getD a 0 = d.getD b 0 → d.getD b 0 = -1
  bye : ∀ a, a < d.length → (d.getD a 0 = -1 ↔ t.Slots.getD a 0 = -1)
  rng : ∀ a, a < d.length → -1 ≤ d.getD a 0
theorem DOK.uni {t : aO} {d : List Int} (h : DOK t d) {a b : Nat} (ha : a < d.length) (hb : b < d.length) (e : d.getD a 0 = d.getD b 0) (hn : d.getD a 0 ≠ -1) : a = b := by
  rcases Nat.lt_trichotomy a b with hl | rfl | hl
  · exact absurd (h.dup a b hl hb e) (e ▸ hn)
  · rfl
  · exact absurd (h.dup b a hl ha e.symm) hn
/-- The slot beside. -/
def sib (a : Nat) : Nat := if a % 2 = 0 then a + 1 else a - 1
theorem aKo (a : Nat) : sib a / 2 = a / 2 := by unfold sib; split <;> omega
theorem vH (a : Nat) : cell (sib a) 0 = cell a 0 := by simp [cell, aKo]
theorem aLm {a b : Nat} (h : a / 2 = b / 2) : a = b ∨ a = sib b := by unfold sib; split <;> omega
/-- Claims of those with a bye. -/
def aGo (d : List Int) : kN := fun m v => ∃ i, i < d.length ∧ d.getD i 0 = -1 ∧ m = cell (sib i) 0 ∧ v = d.getD (sib i) 0
/-- Claims of slips. -/
def yH (d : List Int) (D : aE → Prop) : kN := fun m v => ∃ x, D x ∧ ∃ a, a < d.length ∧ d.getD a 0 = x.Player ∧ clm d a x.Round.toNat m v
def eA (d : List Int) (D : aE → Prop) : kN := fun m v => aGo d m v ∨ yH d D m v
/-- A slip is about a match on the way of its player. -/
def gs (d : List Int) (x : aE) : Prop := ∃ a, a < d.length ∧ d.getD a 0 = x.Player ∧ cell a x.Round.toNat = ⟨x.Round, x.Place⟩
/-- The results of a list. -/
def Res (l : List aE) (x : aE) : Prop := x ∈ l ∧ x.Kind ≠ 5
/-- The results agree. -/
structure OKF (d : List Int) (l : List aE) : Prop where
  two : yA l
  slot : ∀ x, Res l x → gs d x
  fn : Func (eA d (Res l))
theorem tU {t : aO} (ht : TreeOK t) {i : Nat} (h : i < t.Slots.length) : sib i < t.Slots.length := by
  have h1 := ht.r1
  have h2 := ht.len
  have : t.Slots.length % 2 = 0 := by
    rw [h2]
    obtain ⟨k, hk⟩ : ∃ k, t.Rounds.toNat = k + 1 := ⟨t.Rounds.toNat - 1, by omega⟩
    rw [hk, Nat.pow_succ]; omega
  unfold sib; split <;> omega
theorem DOK.sib_ne {t : aO} (ht : TreeOK t) {d : List Int} (h : DOK t d) {i : Nat} (hi : i < d.length) (hb : d.getD i 0 = -1) : d.getD (sib i) 0 ≠ -1 := by
  have hi' : i < t.Slots.length := h.len ▸ hi
  have hs := tU ht hi'
  have hsd : sib i < d.length := h.len ▸ hs
  intro hc
  have e1 := (h.bye _ hi).1 hb
  have e2 := (h.bye _ hsd).1 hc
  rw [bP hi'] at e1
  rw [bP hs] at e2
  unfold sib at e2 hs
  by_cases he : i % 2 = 0
  · obtain ⟨j, rfl⟩ : ∃ j, i = 2 * j := ⟨i / 2, by omega⟩
    simp only [he, if_true] at e2 hs
    exact ht.bye j hs e1 e2
  · obtain ⟨j, rfl⟩ : ∃ j, i = 2 * j + 1 := ⟨i / 2, by omega⟩
    simp only [he, if_false, Nat.add_sub_cancel] at e2 hs
    exact ht.bye j hi' e2 e1
theorem aHu {t : aO} (ht : TreeOK t) {d : List Int} (h : DOK t d) {i j : Nat} (hi : i < d.length) (hj : j < d.length) (bi : d.getD i 0 = -1) (bj : d.getD j 0 = -1) (hc : cell (sib i) 0 = cell (sib j) 0) : i = j := by
  rw [vH, vH] at hc
  have hc := (aJr hc).2
  simp only [Nat.zero_add, Nat.pow_one] at hc
  rcases aLm hc with e | e
  · exact e
  · have := h.sib_ne ht hj bj
    rw [← e] at this
    exact absurd bi this
theorem aJx {t : aO} {d : List Int} (h : DOK t d) (hl : d.length ≤ 1000) {a : Nat} (ha : a < d.length) (hn : d.getD a 0 ≠ -1) : fE d (d.getD a 0) = some (a : Int) := by
  rw [pZ d (by omega)]
  have : d.findIdx? (fun x => decide (d.getD a 0 = x)) = some a := by
    rw [List.findIdx?_eq_some_iff_getElem]
    refine ⟨ha, by rw [bP ha]; simp, fun j hj => ?_⟩
    simp only [Bool.not_eq_true, decide_eq_false_iff_not]
    intro e
    rw [← bP (show j < d.length by omega) 0] at e
    have := h.uni ha (show j < d.length by omega) e hn
    omega
  rw [this]
theorem aGq {d : List Int} (hl : d.length ≤ 1000) {n : Int} (hn : ∀ a, a < d.length → d.getD a 0 ≠ n) : fE d n = some (-1) := by
  rw [pZ d (by omega)]
  have : d.findIdx? (fun x => decide (n = x)) = none := by
    rw [List.findIdx?_eq_none_iff]
    intro x hx
    obtain ⟨i, hi, rfl⟩ := List.mem_iff_getElem.1 hx
    have := hn i hi
    rw [bP hi] at this
    simpa using Ne.symm this
  rw [this]
end Go.Am
