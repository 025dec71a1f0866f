/- What a valid ledger is: the program and the document agree. -/
import Derived.Test.YtaocljlhapoieaaGreatRzPlain6
namespace Go.Am

/-- A search along a row. -/
def oQ {α : Type} (p : α → Bool) (l : List α) : Int := if l.findIdx p < l.length then (l.findIdx p : Int) else -1
theorem aFc {α : Type} (p : α → Bool) (l : List α) : decide (0 ≤ oQ p l) = l.any p := by
  unfold oQ
  split
  · rename_i h
    have : l.any p = true := List.any_eq_true.2 ⟨_, List.getElem_mem h, List.findIdx_getElem (w := h)⟩
    rw [this]; simp
  · rename_i h
    have : l.any p = false := by
      rw [Bool.eq_false_iff]
      intro hn
      obtain ⟨x, hx, hp⟩ := List.any_eq_true.1 hn
      exact h (List.findIdx_lt_length_of_exists ⟨x, hx, hp⟩)
    rw [this]; simp
theorem aAo {α : Type} (F : Nat → Int → Option Int) (l : List α) (p : α → Bool) (h1 : ∀ k i (hi : i < l.length), F (k + 1) (i : Nat) = bif p l[i] then some (i : Int) else F k ((i + 1 : Nat) : Int)) (h2 : ∀ k, F (k + 1) (l.length : Nat) = some (-1)) :
    ∀ k, l.length < k → F k 0 = some (oQ p l) := by
  have main : ∀ d i k, l.length - i = d → d < k → i ≤ l.length → (∀ j (hj : j < l.length), j < i → p l[j] = false) → F k (i : Nat) = some (oQ p l) := by
    intro d
    induction d with
    | zero =>
      intro i k hd hk hi hno
      obtain ⟨k, rfl⟩ : ∃ q, k = q + 1 := ⟨k - 1, by omega⟩
      have : i = l.length := by omega
      subst this
      have he : ¬ l.findIdx p < l.length := fun h => by
        have := hno _ h h
        rw [List.findIdx_getElem (w := h)] at this
        cases this
      rw [h2, oQ, if_neg he]
    | succ d ih =>
      intro i k hd hk hi hno
      obtain ⟨k, rfl⟩ : ∃ q, k = q + 1 := ⟨k - 1, by omega⟩
      have hil : i < l.length := by omega
      rw [h1 k i hil]
      cases hp : p l[i] with
      | true =>
        have he : l.findIdx p = i := by
          rw [List.findIdx_eq hil]
          exact ⟨hp, fun j hj => hno j (by omega) hj⟩
        rw [cond_true, oQ, he, if_pos hil]
      | false =>
        rw [cond_false]
        exact ih (i + 1) k (by omega) (by omega) (by omega) fun j hj hji => by
          rcases Nat.lt_or_eq_of_le (Nat.le_of_lt_succ hji) with h | h
          · exact hno j hj h
          · subst h; exact hp
  intro k hk
  exact main _ 0 k rfl (by omega) (Nat.zero_le _) fun j _ h => by omega

theorem sD (n a b : Int) : eR n a b = some (decide (a ≤ n) && decide (n ≤ b)) := by unfold eR; rw [gL, Option.bind_some]
theorem qU (n a b : Int) : dT n a b = some (decide (a ≤ n) && decide (n ≤ b)) := by unfold dT; rw [gL, Option.bind_some]

theorem aGb (l : List bC) (f : bC → Option Bool) (p : bC → Bool) (h : ∀ x ∈ l, f x = some (p x)) (hb : l.length ≤ 1000000) : gG l f = some (oQ p l) := by
  unfold gG
  refine aAo (fun k i => eF l f (l.length : Int) k i) l p (fun k i hi => ?_) (fun k => ?_) BIG (dO (by omega))
  · have hlt : decide ((i : Int) < (l.length : Int)) = true := decide_eq_true (by omega)
    simp only [eF, hlt, cond_true, dD hi, Option.bind_some, h _ (List.getElem_mem hi), cU (show i < 9223372036854775807 by omega)]
  · have hlt : decide ((l.length : Int) < (l.length : Int)) = false := decide_eq_false (by omega)
    simp only [eF, hlt, cond_false, jL]
theorem uQ (l : List bC) (f : bC → Option Bool) (p : bC → Bool) (h : ∀ x ∈ l, f x = some (p x)) (hb : l.length ≤ 1000000) : eE l f = some (l.any p) := by
  unfold eE
  rw [aGb l f p h hb, Option.bind_some, aFc]

def inB (n a b : Int) : Bool := decide (a ≤ n) && decide (n ≤ b)
def oO (P : Int) (r : aD) : Bool := inB r.Id 0 99 && inB r.Player 0 (P - 1) && inB r.Week 0 400 && inB r.Points 0 2000
def kC (P : Int) (a : bC) : Bool := inB a.Player 0 (P - 1) && decide (0 ≤ a.From) && decide (a.From ≤ a.To) && decide (a.To ≤ 400)
def kU (a b : bC) : Bool := decide (a.Player = b.Player) && decide (a.From ≤ b.To) && decide (b.From ≤ a.To)
def nK (l : List bC) : Bool := (List.range l.length).all fun i => (List.range i).all fun k => !kU (l.getD i default) (l.getD k default)
def iZ (l : aS) : Bool :=
  inB l.Players 1 16 && inB l.Counts 1 20 && decide (l.Reports.length ≤ 40) && (decide (l.Bans.length ≤ 8) && l.Bans.all (kC l.Players)) && (decide (l.Frozen.length ≤ 8) && l.Frozen.all (kC l.Players)) && l.Reports.all (oO l.Players) && nK l.Frozen

section leaves
variable {P : Int} (hP : 1 ≤ P ∧ P ≤ 16)
include hP
theorem wP : w64 (P - 1) = P - 1 := dC (by omega) (by omega)
theorem aDp (l : aS) (hl : l.Players = P) (all : List bC) (hb : all.length ≤ 1000000) : lP l all = some (decide (all.length ≤ 8) && all.all (kC P)) := by
  have h1 : ∀ x ∈ all, lS x l = some (!kC P x) := by
    intro x _
    unfold lS
    simp only [sD, Option.bind_some, gA, hl, wP hP, Option.some.injEq]
    unfold kC inB
    by_cases a1 : 0 ≤ x.Player <;> by_cases a2 : x.Player ≤ P - 1 <;> by_cases a3 : 0 ≤ x.From <;> by_cases a4 : x.From ≤ x.To <;> by_cases a5 : x.To ≤ 400 <;> simp [a1, a2, a3, a4, a5] <;> omega
  unfold lP
  rw [uQ all _ _ h1 hb, Option.bind_some, gL, Option.bind_some, Option.some.injEq]
  have e1 : decide ((all.length : Int) ≤ 8) = decide (all.length ≤ 8) := by rw [decide_eq_decide]; omega
  rw [e1, List.not_any_eq_all_not]
  simp
theorem aDl (all : List bC) (hb : all.length ≤ 1000000) : iM P all = some (decide (all.length ≤ 8) && all.all (kC P)) := by
  unfold iM
  have main := kO (fun k i => fP P all k i) all.length (fun i => kC P (all.getD i default)) (some false) (some (decide ((all.length : Int) ≤ 8))) ?_ ?_ BIG (dO (by omega))
  · rw [main]
    have e1 : decide ((all.length : Int) ≤ 8) = decide (all.length ≤ 8) := by rw [decide_eq_decide]; omega
    have e2 : (List.range all.length).all (fun i => kC P (all.getD i default)) = all.all (kC P) := by
      rw [Bool.eq_iff_iff, List.all_eq_true, List.all_eq_true]
      constructor
      · intro h x hx
        obtain ⟨i, hi, rfl⟩ := List.getElem_of_mem hx
        have := h i (List.mem_range.2 hi)
        simpa [List.getD, List.getElem?_eq_getElem hi] using this
      · intro h i hi
        have hi' := List.mem_range.1 hi
        simpa [List.getD, List.getElem?_eq_getElem hi'] using h _ (List.getElem_mem hi')
    rw [e1, e2]
    cases all.all (kC P) <;> simp
  · intro k i hi
    have hlt : decide ((i : Int) < (all.length : Int)) = true := decide_eq_true (by omega)
    have eg : all.getD i default = all[i] := by simp [List.getD, List.getElem?_eq_getElem hi]
    simp only [fP, hlt, cond_true, dD hi, Option.bind_some, qU, wP hP, gA, cU (show i < 9223372036854775807 by omega), eg]
    have : kC P all[i] = !(!(decide (0 ≤ all[i].Player) && decide (all[i].Player ≤ P - 1)) || decide (all[i].From < 0) || decide (all[i].To < all[i].From) || decide (400 < all[i].To)) := by
      unfold kC inB
      by_cases a1 : 0 ≤ all[i].Player <;> by_cases a2 : all[i].Player ≤ P - 1 <;> by_cases a3 : 0 ≤ all[i].From <;> by_cases a4 : all[i].From ≤ all[i].To <;> by_cases a5 : all[i].To ≤ 400 <;> simp [a1, a2, a3, a4, a5] <;> omega
    rw [this]
    cases (!(decide (0 ≤ all[i].Player) && decide (all[i].Player ≤ P - 1)) || decide (all[i].From < 0) || decide (all[i].To < all[i].From) || decide (400 < all[i].To)) <;> rfl
  · intro k
    have hlt : decide ((all.length : Int) < (all.length : Int)) = false := decide_eq_false (by omega)
    simp only [fP, hlt, cond_false, lY]
theorem aHd (r : aD) : kH P r = some (oO P r) := by
  unfold kH oO inB
  simp only [qU, Option.bind_some, gL, wP hP]
end leaves

theorem pF {α : Type} [Inhabited α] (l : List α) (p : α → Bool) : (List.range l.length).all (fun i => p (l.getD i default)) = l.all p := by
  rw [Bool.eq_iff_iff, List.all_eq_true, List.all_eq_true]
  constructor
  · intro h x hx
    obtain ⟨i, hi, rfl⟩ := List.getElem_of_mem hx
    have := h i (List.mem_range.2 hi)
    simpa [List.getD, List.getElem?_eq_getElem hi] using this
  · intro h i hi
    have hi' := List.mem_range.1 hi
    simpa [List.getD, List.getElem?_eq_getElem hi'] using h _ (List.getElem_mem hi')
theorem aGl {α : Type} [Inhabited α] (l : List α) (p : α → Bool) {i : Nat} (hi : i ≤ l.length) : (!(l.take i).any p) = (List.range i).all fun k => !p (l.getD k default) := by
  rw [List.not_any_eq_all_not]
  have := pF (l.take i) (fun x => !p x)
  rw [← this]
  have e : (l.take i).length = i := by simp; omega
  rw [e]
  rw [Bool.eq_iff_iff, List.all_eq_true, List.all_eq_true]
  refine forall_congr' fun k => forall_congr' fun hk => ?_
  have hk' := List.mem_range.1 hk
  have : (l.take i).getD k default = l.getD k default := by simp [List.getD, List.getElem?_take, hk']
  rw [this]

theorem aIe (l : aS) (h3 : l.Frozen.length ≤ 1000000) : eB l BIG 0 = some (nK l.Frozen) := by
  have main := kO (fun k i => eB l k i) l.Frozen.length (fun i => (List.range i).all fun k => !kU (l.Frozen.getD i default) (l.Frozen.getD k default)) (some false) (some true) ?_ ?_ BIG (dO (by omega))
  · rw [main]; unfold nK
    cases (List.range l.Frozen.length).all fun i => (List.range i).all fun k => !kU (l.Frozen.getD i default) (l.Frozen.getD k default) <;> rfl
  · intro k i hi
    have hlt : decide ((i : Int) < (l.Frozen.length : Int)) = true := decide_eq_true (by omega)
    have ei : l.Frozen.getD i default = l.Frozen[i] := by simp [List.getD, List.getElem?_eq_getElem hi]
    simp only [eB, hlt, cond_true]
    refine kO (fun k4 q => fZ (eB l k) i l k4 q) i (fun q => !kU (l.Frozen.getD i default) (l.Frozen.getD q default)) (some false) (eB l k ((i + 1 : Nat) : Int)) ?_ ?_ BIG (dO (by omega))
    · intro k4 q hq
      have hql : q < l.Frozen.length := by omega
      have eq : l.Frozen.getD q default = l.Frozen[q] := by simp [List.getD, List.getElem?_eq_getElem hql]
      have hlt2 : decide ((q : Int) < (i : Int)) = true := decide_eq_true (by omega)
      simp only [fZ, hlt2, cond_true, dD hi, dD hql, Option.bind_some, gL, cU (show q < 9223372036854775807 by omega), ei, eq]
      show (bif kU l.Frozen[i] l.Frozen[q] then _ else _) = _
      cases kU l.Frozen[i] l.Frozen[q] <;> rfl
    · intro k4
      have hlt2 : decide ((i : Int) < (i : Int)) = false := decide_eq_false (by omega)
      simp only [fZ, hlt2, cond_false, mX, mW, cU (show i < 9223372036854775807 by omega)]
  · intro k
    have hlt : decide ((l.Frozen.length : Int) < (l.Frozen.length : Int)) = false := decide_eq_false (by omega)
    simp only [eB, hlt, cond_false, mV]
theorem aFy (l : aS) (hP : 1 ≤ l.Players ∧ l.Players ≤ 16) (h1 : l.Reports.length ≤ 1000000) (h3 : l.Frozen.length ≤ 1000000) : fJ l BIG 0 = some (l.Reports.all (oO l.Players) && nK l.Frozen) := by
  have main := kO (fun k i => fJ l k i) l.Reports.length (fun i => oO l.Players (l.Reports.getD i default)) (some false) (some (nK l.Frozen)) ?_ ?_ BIG (dO (by omega))
  · rw [main, pF]
    cases l.Reports.all (oO l.Players) <;> rfl
  · intro k i hi
    have hlt : decide ((i : Int) < (l.Reports.length : Int)) = true := decide_eq_true (by omega)
    have ei : l.Reports.getD i default = l.Reports[i] := by simp [List.getD, List.getElem?_eq_getElem hi]
    simp only [fJ, hlt, cond_true, dD hi, Option.bind_some, aHd hP, cU (show i < 9223372036854775807 by omega), ei]
    cases oO l.Players l.Reports[i] <;> rfl
  · intro k
    have hlt : decide ((l.Reports.length : Int) < (l.Reports.length : Int)) = false := decide_eq_false (by omega)
    simp only [fJ, hlt, cond_false, mU, aIe l h3]
theorem zJ {l : aS} (h : ¬ (1 ≤ l.Players ∧ l.Players ≤ 16)) : iZ l = false := by
  have : inB l.Players 1 16 = false := by unfold inB; rw [Bool.eq_false_iff]; simpa using h
  unfold iZ
  rw [this]; simp
theorem aHc (l : aS) (h1 : l.Reports.length ≤ 1000000) (h2 : l.Bans.length ≤ 1000000) (h3 : l.Frozen.length ≤ 1000000) : kG l = some (iZ l) := by
  unfold kG
  have e40 : decide (40 < (l.Reports.length : Int)) = !decide (l.Reports.length ≤ 40) := by
    by_cases h : l.Reports.length ≤ 40
    · rw [decide_eq_true h, decide_eq_false (by omega)]; rfl
    · rw [decide_eq_false h, decide_eq_true (by omega)]; rfl
  rw [qU, Option.bind_some, qU, Option.bind_some, gA, Option.bind_some, gA, Option.bind_some, e40]
  rcases Classical.em (1 ≤ l.Players ∧ l.Players ≤ 16) with hP | hP
  · rw [aDl hP l.Bans h2, aDl hP l.Frozen h3, Option.bind_some, Option.bind_some, gA, Option.bind_some, gA, Option.bind_some, aFy l hP h1 h3]
    unfold iZ inB
    cases (decide (1 ≤ l.Players) && decide (l.Players ≤ 16)) <;> cases (decide (1 ≤ l.Counts) && decide (l.Counts ≤ 20)) <;> cases decide (l.Reports.length ≤ 40) <;> cases (decide (l.Bans.length ≤ 8) && l.Bans.all (kC l.Players)) <;> cases (decide (l.Frozen.length ≤ 8) && l.Frozen.all (kC l.Players)) <;> simp
  · have : (decide (1 ≤ l.Players) && decide (l.Players ≤ 16)) = false := by rw [Bool.eq_false_iff]; simpa using hP
    rw [this, zJ hP]
    simp
theorem aIl (l : aS) (h3 : l.Frozen.length ≤ 1000000) : iG l.Frozen (l.Frozen.length : Int) l BIG 0 = some (nK l.Frozen) := by
  have main := kO (fun k i => iG l.Frozen (l.Frozen.length : Int) l k i) l.Frozen.length (fun i => (List.range i).all fun k => !kU (l.Frozen.getD i default) (l.Frozen.getD k default)) (some false) (some true) ?_ ?_ BIG (dO (by omega))
  · rw [main]; unfold nK
    cases (List.range l.Frozen.length).all fun i => (List.range i).all fun k => !kU (l.Frozen.getD i default) (l.Frozen.getD k default) <;> rfl
  · intro k i hi
    have hlt : decide ((i : Int) < (l.Frozen.length : Int)) = true := decide_eq_true (by omega)
    have ei : l.Frozen.getD i default = l.Frozen[i] := by simp [List.getD, List.getElem?_eq_getElem hi]
    have hm : ∀ y ∈ l.Frozen.take i, mM y l.Frozen[i] = some (kU l.Frozen[i] y) := by
      intro y _
      unfold mM kU
      simp only [gL, Option.bind_some]
    simp only [iG, hlt, cond_true, dD hi, Option.bind_some, aAg (show i ≤ l.Frozen.length by omega), uQ _ _ _ hm (by simp; omega), cU (show i < 9223372036854775807 by omega)]
    rw [← aGl l.Frozen (fun y => kU (l.Frozen.getD i default) y) (by omega), ei]
    cases (l.Frozen.take i).any fun y => kU l.Frozen[i] y <;> rfl
  · intro k
    have hlt : decide ((l.Frozen.length : Int) < (l.Frozen.length : Int)) = false := decide_eq_false (by omega)
    simp only [iG, hlt, cond_false, qP]
theorem aGf (l : aS) (hP : 1 ≤ l.Players ∧ l.Players ≤ 16) (h1 : l.Reports.length ≤ 1000000) (h2 : l.Bans.length ≤ 1000000) (h3 : l.Frozen.length ≤ 1000000) : iF l.Reports (l.Reports.length : Int) l BIG 0 =
    some (l.Reports.all (oO l.Players) && ((decide (l.Bans.length ≤ 8) && l.Bans.all (kC l.Players)) && ((decide (l.Frozen.length ≤ 8) && l.Frozen.all (kC l.Players)) && nK l.Frozen))) := by
  have main := kO (fun k i => iF l.Reports (l.Reports.length : Int) l k i) l.Reports.length (fun i => oO l.Players (l.Reports.getD i default)) (some false) (some ((decide (l.Bans.length ≤ 8) && l.Bans.all (kC l.Players)) && ((decide (l.Frozen.length ≤ 8) && l.Frozen.all (kC l.Players)) && nK l.Frozen))) ?_ ?_ BIG (dO (by omega))
  · rw [main, pF]
    cases l.Reports.all (oO l.Players) <;> rfl
  · intro k i hi
    have hlt : decide ((i : Int) < (l.Reports.length : Int)) = true := decide_eq_true (by omega)
    have ei : l.Reports.getD i default = l.Reports[i] := by simp [List.getD, List.getElem?_eq_getElem hi]
    simp only [iF, hlt, cond_true, dD hi, Option.bind_some, sD, gA, wP hP, cU (show i < 9223372036854775807 by omega), ei]
    have : oO l.Players l.Reports[i] = !(!inB l.Reports[i].Id 0 99 || !inB l.Reports[i].Player 0 (l.Players - 1) || !inB l.Reports[i].Week 0 400 || !inB l.Reports[i].Points 0 2000) := by
      unfold oO
      cases inB l.Reports[i].Id 0 99 <;> cases inB l.Reports[i].Player 0 (l.Players - 1) <;> cases inB l.Reports[i].Week 0 400 <;> cases inB l.Reports[i].Points 0 2000 <;> rfl
    rw [this]
    show (bif (!inB l.Reports[i].Id 0 99 || !inB l.Reports[i].Player 0 (l.Players - 1) || !inB l.Reports[i].Week 0 400 || !inB l.Reports[i].Points 0 2000) then _ else _) = _
    cases (!inB l.Reports[i].Id 0 99 || !inB l.Reports[i].Player 0 (l.Players - 1) || !inB l.Reports[i].Week 0 400 || !inB l.Reports[i].Points 0 2000) <;> rfl
  · intro k
    have hlt : decide ((l.Reports.length : Int) < (l.Reports.length : Int)) = false := decide_eq_false (by omega)
    simp only [iF, hlt, cond_false, qO, aDp hP l rfl l.Bans h2, aDp hP l rfl l.Frozen h3, Option.bind_some, gA, aIl l h3]
    cases (decide (l.Bans.length ≤ 8) && l.Bans.all (kC l.Players)) <;> cases (decide (l.Frozen.length ≤ 8) && l.Frozen.all (kC l.Players)) <;> simp
theorem aHs (l : aS) (h1 : l.Reports.length ≤ 1000000) (h2 : l.Bans.length ≤ 1000000) (h3 : l.Frozen.length ≤ 1000000) : oB l = some (iZ l) := by
  unfold oB
  have e40 : decide (40 < (l.Reports.length : Int)) = !decide (l.Reports.length ≤ 40) := by
    by_cases h : l.Reports.length ≤ 40
    · rw [decide_eq_true h, decide_eq_false (by omega)]; rfl
    · rw [decide_eq_false h, decide_eq_true (by omega)]; rfl
  rw [sD, Option.bind_some, sD, Option.bind_some, gA, Option.bind_some, gA, Option.bind_some, e40]
  rcases Classical.em (1 ≤ l.Players ∧ l.Players ≤ 16) with hP | hP
  · rw [aGf l hP h1 h2 h3]
    unfold iZ inB
    cases (decide (1 ≤ l.Players) && decide (l.Players ≤ 16)) <;> cases (decide (1 ≤ l.Counts) && decide (l.Counts ≤ 20)) <;> cases decide (l.Reports.length ≤ 40) <;> cases (decide (l.Bans.length ≤ 8) && l.Bans.all (kC l.Players)) <;> cases (decide (l.Frozen.length ≤ 8) && l.Frozen.all (kC l.Players)) <;> simp
  · have : (decide (1 ≤ l.Players) && decide (l.Players ≤ 16)) = false := by rw [Bool.eq_false_iff]; simpa using hP
    rw [this, zJ hP]
    simp

/-- Two reports with one Id that are not equal. -/
def pW (l : List aD) : Bool := (List.range l.length).any fun i => (List.range i).any fun k => decide ((l.getD i default).Id = (l.getD k default).Id) && !decide (l.getD i default = l.getD k default)
theorem aIf (l : List aD) (hb : l.length ≤ 1000000) : lQ l = some (pW l) := by
  unfold lQ
  have main := kO (fun k i => eX l k i) l.length (fun i => (List.range i).all fun k => !(decide ((l.getD i default).Id = (l.getD k default).Id) && !decide (l.getD i default = l.getD k default))) (some true) (some false) ?_ ?_ BIG (dO (by omega))
  · rw [main]
    have : pW l = !((List.range l.length).all fun i => (List.range i).all fun k => !(decide ((l.getD i default).Id = (l.getD k default).Id) && !decide (l.getD i default = l.getD k default))) := by
      unfold pW
      rw [List.not_all_eq_any_not]
      congr 1; funext i
      rw [List.not_all_eq_any_not]
      congr 1; funext k
      rw [Bool.not_not]
    rw [this]
    cases (List.range l.length).all fun i => (List.range i).all fun k => !(decide ((l.getD i default).Id = (l.getD k default).Id) && !decide (l.getD i default = l.getD k default)) <;> rfl
  · intro k i hi
    have hlt : decide ((i : Int) < (l.length : Int)) = true := decide_eq_true (by omega)
    have ei : l.getD i default = l[i] := by simp [List.getD, List.getElem?_eq_getElem hi]
    simp only [eX, hlt, cond_true]
    refine kO (fun k4 q => gU (eX l k) l i k4 q) i (fun q => !(decide ((l.getD i default).Id = (l.getD q default).Id) && !decide (l.getD i default = l.getD q default))) (some true) (eX l k ((i + 1 : Nat) : Int)) ?_ ?_ BIG (dO (by omega))
    · intro k4 q hq
      have hql : q < l.length := by omega
      have eq : l.getD q default = l[q] := by simp [List.getD, List.getElem?_eq_getElem hql]
      have hlt2 : decide ((q : Int) < (i : Int)) = true := decide_eq_true (by omega)
      simp only [gU, hlt2, cond_true, dD hi, dD hql, Option.bind_some, gL, cU (show q < 9223372036854775807 by omega), ei, eq]
      cases (decide (l[i].Id = l[q].Id) && !decide (l[i] = l[q])) <;> rfl
    · intro k4
      have hlt2 : decide ((i : Int) < (i : Int)) = false := decide_eq_false (by omega)
      simp only [gU, hlt2, cond_false, oL, oK, cU (show i < 9223372036854775807 by omega)]
  · intro k
    have hlt : decide ((l.length : Int) < (l.length : Int)) = false := decide_eq_false (by omega)
    simp only [eX, hlt, cond_false, oJ]
theorem tE (l : List aD) : pW l = true ↔ rU l := by
  unfold pW rU
  rw [List.any_eq_true]
  constructor
  · rintro ⟨i, hi, h⟩
    obtain ⟨k, hk, h⟩ := List.any_eq_true.1 h
    rw [List.mem_range] at hi hk
    simp only [Bool.and_eq_true, decide_eq_true_eq, Bool.not_eq_true', decide_eq_false_iff_not] at h
    have ei : l.getD i default = l[i] := by simp [List.getD, List.getElem?_eq_getElem hi]
    have ek : l.getD k default = l[k] := by simp [List.getD, List.getElem?_eq_getElem (show k < l.length by omega)]
    rw [ei, ek] at h
    exact ⟨_, List.getElem_mem hi, _, List.getElem_mem (show k < l.length by omega), h.1, h.2⟩
  · rintro ⟨x, hx, y, hy, h1, h2⟩
    obtain ⟨i, hi, rfl⟩ := List.getElem_of_mem hx
    obtain ⟨k, hk, rfl⟩ := List.getElem_of_mem hy
    have ei : l.getD i default = l[i] := by simp [List.getD, List.getElem?_eq_getElem hi]
    have ek : l.getD k default = l[k] := by simp [List.getD, List.getElem?_eq_getElem hk]
    rcases Nat.lt_trichotomy i k with h | h | h
    · exact ⟨k, List.mem_range.2 hk, List.any_eq_true.2 ⟨i, List.mem_range.2 h, by rw [ei, ek]; simp [h1, Ne.symm h2]⟩⟩
    · subst h; exact absurd rfl h2
    · exact ⟨i, List.mem_range.2 hi, List.any_eq_true.2 ⟨k, List.mem_range.2 h, by rw [ei, ek]; simp [h1, h2]⟩⟩
def hJ (l : aS) : Int := bif !iZ l then 40 else bif pW l.Reports then 41 else 0
theorem uZ (l : aS) (h1 : l.Reports.length ≤ 1000000) (h2 : l.Bans.length ≤ 1000000) (h3 : l.Frozen.length ≤ 1000000) : iB l = some (hJ l) := by
  unfold iB hJ
  rw [aHc l h1 h2 h3, Option.bind_some, aIf _ h1, Option.bind_some]
  cases iZ l <;> cases pW l.Reports <;> rfl
theorem aAa {l : aS} (h : iZ l = true) : ∀ r ∈ l.Reports, oO l.Players r = true := by
  unfold iZ at h
  simp only [Bool.and_eq_true] at h
  exact List.all_eq_true.1 h.1.2
theorem aCc (l : aS) (h1 : l.Reports.length ≤ 1000000) (h2 : l.Bans.length ≤ 1000000) (h3 : l.Frozen.length ≤ 1000000) : pG l = some (hJ l) := by
  unfold pG hJ
  rw [aHs l h1 h2 h3, Option.bind_some]
  cases hl : iZ l with
  | false => rfl
  | true =>
    have hid : ∀ x ∈ l.Reports, 0 ≤ x.Id ∧ x.Id ≤ 99 := fun x hx => by
      have := aAa hl x hx
      unfold oO inB at this
      simp only [Bool.and_eq_true, decide_eq_true_eq] at this
      exact this.1.1.1
    simp only [Bool.not_true, cond_false]
    rcases aAu l.Reports hid h1 with ⟨hc, he⟩ | ⟨hc, zs, he, _⟩
    · rw [he, (tE _).2 hc]; rfl
    · have : pW l.Reports = false := by rw [Bool.eq_false_iff]; exact fun h => hc ((tE _).1 h)
      rw [he, this]; rfl
end Go.Am
