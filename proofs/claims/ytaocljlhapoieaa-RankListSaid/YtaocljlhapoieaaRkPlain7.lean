/- What a valid ledger is: the program and the document agree. -/
import Derived.Test.YtaocljlhapoieaaRkPlain6
namespace Go.Am

/-- A search along a row. -/
def nS {α : Type} (p : α → Bool) (l : List α) : Int := if l.findIdx p < l.length then (l.findIdx p : Int) else -1
theorem aFf {α : Type} (p : α → Bool) (l : List α) : decide (0 ≤ nS p l) = l.any p := by
  unfold nS
  split
  · rename_i h
    have : l.any p = true := List.any_eq_true.2 ⟨_, List.getElem_mem h, List.findIdx_getElem (w := h)⟩
    rw [this]; simp
  · rename_i h
    have : l.any p = false := by
      rw [Bool.eq_false_iff]
      intro hn
      obtain ⟨x, hx, hp⟩ := List.any_eq_true.1 hn
      exact h (List.findIdx_lt_length_of_exists ⟨x, hx, hp⟩)
    rw [this]; simp
theorem xH {α : Type} (F : Nat → Int → Option Int) (l : List α) (p : α → Bool) (h1 : ∀ k i (hi : i < l.length), F (k + 1) (i : Nat) = bif p l[i] then some (i : Int) else F k ((i + 1 : Nat) : Int)) (h2 : ∀ k, F (k + 1) (l.length : Nat) = some (-1)) :
    ∀ k, l.length < k → F k 0 = some (nS p l) := by
  have main : ∀ d i k, l.length - i = d → d < k → i ≤ l.length → (∀ j (hj : j < l.length), j < i → p l[j] = false) → F k (i : Nat) = some (nS p l) := by
    intro d
    induction d with
    | zero =>
      intro i k hd hk hi hno
      obtain ⟨k, rfl⟩ : ∃ q, k = q + 1 := ⟨k - 1, by omega⟩
      have : i = l.length := by omega
      subst this
      have he : ¬ l.findIdx p < l.length := fun h => by
        have := hno _ h h
        rw [List.findIdx_getElem (w := h)] at this
        cases this
      rw [h2, nS, if_neg he]
    | succ d ih =>
      intro i k hd hk hi hno
      obtain ⟨k, rfl⟩ : ∃ q, k = q + 1 := ⟨k - 1, by omega⟩
      have hil : i < l.length := by omega
      rw [h1 k i hil]
      cases hp : p l[i] with
      | true =>
        have he : l.findIdx p = i := by
          rw [List.findIdx_eq hil]
          exact ⟨hp, fun j hj => hno j (by omega) hj⟩
        rw [cond_true, nS, he, if_pos hil]
      | false =>
        rw [cond_false]
        exact ih (i + 1) k (by omega) (by omega) (by omega) fun j hj hji => by
          rcases Nat.lt_or_eq_of_le (Nat.le_of_lt_succ hji) with h | h
          · exact hno j hj h
          · subst h; exact hp
  intro k hk
  exact main _ 0 k rfl (by omega) (Nat.zero_le _) fun j _ h => by omega

theorem tL (n a b : Int) : eO n a b = some (decide (a ≤ n) && decide (n ≤ b)) := by unfold eO; rw [gC, Option.bind_some]
theorem vM (n a b : Int) : eK n a b = some (decide (a ≤ n) && decide (n ≤ b)) := by unfold eK; rw [gC, Option.bind_some]

theorem aGa (l : List aZ) (f : aZ → Option Bool) (p : aZ → Bool) (h : ∀ x ∈ l, f x = some (p x)) (hb : l.length ≤ 1000000) : gF l f = some (nS p l) := by
  unfold gF
  refine xH (fun k i => eD l f (l.length : Int) k i) l p (fun k i hi => ?_) (fun k => ?_) BIG (dD (by omega))
  · have hlt : decide ((i : Int) < (l.length : Int)) = true := decide_eq_true (by omega)
    simp only [eD, hlt, cond_true, dK hi, Option.bind_some, h _ (List.getElem_mem hi), cP (show i < 9223372036854775807 by omega)]
  · have hlt : decide ((l.length : Int) < (l.length : Int)) = false := decide_eq_false (by omega)
    simp only [eD, hlt, cond_false, jR]
theorem uV (l : List aZ) (f : aZ → Option Bool) (p : aZ → Bool) (h : ∀ x ∈ l, f x = some (p x)) (hb : l.length ≤ 1000000) : eC l f = some (l.any p) := by
  unfold eC
  rw [aGa l f p h hb, Option.bind_some, aFf]

def inB (n a b : Int) : Bool := decide (a ≤ n) && decide (n ≤ b)
def oP (P : Int) (r : aC) : Bool := inB r.Id 0 99 && inB r.Player 0 (P - 1) && inB r.Week 0 400 && inB r.Points 0 2000
def kE (P : Int) (a : aZ) : Bool := inB a.Player 0 (P - 1) && decide (0 ≤ a.From) && decide (a.From ≤ a.To) && decide (a.To ≤ 400)
def kY (a b : aZ) : Bool := decide (a.Player = b.Player) && decide (a.From ≤ b.To) && decide (b.From ≤ a.To)
def nP (l : List aZ) : Bool := (List.range l.length).all fun i => (List.range i).all fun k => !kY (l.getD i default) (l.getD k default)
def jA (l : aP) : Bool :=
  inB l.Players 1 16 && inB l.Counts 1 20 && decide (l.Reports.length ≤ 40) && (decide (l.Bans.length ≤ 8) && l.Bans.all (kE l.Players)) && (decide (l.Frozen.length ≤ 8) && l.Frozen.all (kE l.Players)) && l.Reports.all (oP l.Players) && nP l.Frozen

section leaves
variable {P : Int} (hP : 1 ≤ P ∧ P ≤ 16)
include hP
theorem wP : w64 (P - 1) = P - 1 := cW (by omega) (by omega)
theorem aDv (l : aP) (hl : l.Players = P) (all : List aZ) (hb : all.length ≤ 1000000) : lY l all = some (decide (all.length ≤ 8) && all.all (kE P)) := by
  have h1 : ∀ x ∈ all, mF x l = some (!kE P x) := by
    intro x _
    unfold mF
    simp only [tL, Option.bind_some, fO, hl, wP hP, Option.some.injEq]
    unfold kE inB
    by_cases a1 : 0 ≤ x.Player <;> by_cases a2 : x.Player ≤ P - 1 <;> by_cases a3 : 0 ≤ x.From <;> by_cases a4 : x.From ≤ x.To <;> by_cases a5 : x.To ≤ 400 <;> simp [a1, a2, a3, a4, a5] <;> omega
  unfold lY
  rw [uV all _ _ h1 hb, Option.bind_some, gC, Option.bind_some, Option.some.injEq]
  have e1 : decide ((all.length : Int) ≤ 8) = decide (all.length ≤ 8) := by rw [decide_eq_decide]; omega
  rw [e1, List.not_any_eq_all_not]
  simp
theorem aDo (all : List aZ) (hb : all.length ≤ 1000000) : iL P all = some (decide (all.length ≤ 8) && all.all (kE P)) := by
  unfold iL
  have main := mE (fun k i => fN P all k i) all.length (fun i => kE P (all.getD i default)) (some false) (some (decide ((all.length : Int) ≤ 8))) ?_ ?_ BIG (dD (by omega))
  · rw [main]
    have e1 : decide ((all.length : Int) ≤ 8) = decide (all.length ≤ 8) := by rw [decide_eq_decide]; omega
    have e2 : (List.range all.length).all (fun i => kE P (all.getD i default)) = all.all (kE P) := by
      rw [Bool.eq_iff_iff, List.all_eq_true, List.all_eq_true]
      constructor
      · intro h x hx
        obtain ⟨i, hi, rfl⟩ := List.getElem_of_mem hx
        have := h i (List.mem_range.2 hi)
        simpa [List.getD, List.getElem?_eq_getElem hi] using this
      · intro h i hi
        have hi' := List.mem_range.1 hi
        simpa [List.getD, List.getElem?_eq_getElem hi'] using h _ (List.getElem_mem hi')
    rw [e1, e2]
    cases all.all (kE P) <;> simp
  · intro k i hi
    have hlt : decide ((i : Int) < (all.length : Int)) = true := decide_eq_true (by omega)
    have eg : all.getD i default = all[i] := by simp [List.getD, List.getElem?_eq_getElem hi]
    simp only [fN, hlt, cond_true, dK hi, Option.bind_some, vM, wP hP, fO, cP (show i < 9223372036854775807 by omega), eg]
    have : kE P all[i] = !(!(decide (0 ≤ all[i].Player) && decide (all[i].Player ≤ P - 1)) || decide (all[i].From < 0) || decide (all[i].To < all[i].From) || decide (400 < all[i].To)) := by
      unfold kE inB
      by_cases a1 : 0 ≤ all[i].Player <;> by_cases a2 : all[i].Player ≤ P - 1 <;> by_cases a3 : 0 ≤ all[i].From <;> by_cases a4 : all[i].From ≤ all[i].To <;> by_cases a5 : all[i].To ≤ 400 <;> simp [a1, a2, a3, a4, a5] <;> omega
    rw [this]
    cases (!(decide (0 ≤ all[i].Player) && decide (all[i].Player ≤ P - 1)) || decide (all[i].From < 0) || decide (all[i].To < all[i].From) || decide (400 < all[i].To)) <;> rfl
  · intro k
    have hlt : decide ((all.length : Int) < (all.length : Int)) = false := decide_eq_false (by omega)
    simp only [fN, hlt, cond_false, mK]
theorem aHg (r : aC) : kJ P r = some (oP P r) := by
  unfold kJ oP inB
  simp only [vM, Option.bind_some, gC, wP hP]
end leaves

theorem pK {α : Type} [Inhabited α] (l : List α) (p : α → Bool) : (List.range l.length).all (fun i => p (l.getD i default)) = l.all p := by
  rw [Bool.eq_iff_iff, List.all_eq_true, List.all_eq_true]
  constructor
  · intro h x hx
    obtain ⟨i, hi, rfl⟩ := List.getElem_of_mem hx
    have := h i (List.mem_range.2 hi)
    simpa [List.getD, List.getElem?_eq_getElem hi] using this
  · intro h i hi
    have hi' := List.mem_range.1 hi
    simpa [List.getD, List.getElem?_eq_getElem hi'] using h _ (List.getElem_mem hi')
theorem aGk {α : Type} [Inhabited α] (l : List α) (p : α → Bool) {i : Nat} (hi : i ≤ l.length) : (!(l.take i).any p) = (List.range i).all fun k => !p (l.getD k default) := by
  rw [List.not_any_eq_all_not]
  have := pK (l.take i) (fun x => !p x)
  rw [← this]
  have e : (l.take i).length = i := by simp; omega
  rw [e]
  rw [Bool.eq_iff_iff, List.all_eq_true, List.all_eq_true]
  refine forall_congr' fun k => forall_congr' fun hk => ?_
  have hk' := List.mem_range.1 hk
  have : (l.take i).getD k default = l.getD k default := by simp [List.getD, List.getElem?_take, hk']
  rw [this]

theorem aIg (l : aP) (h3 : l.Frozen.length ≤ 1000000) : dY l BIG 0 = some (nP l.Frozen) := by
  have main := mE (fun k i => dY l k i) l.Frozen.length (fun i => (List.range i).all fun k => !kY (l.Frozen.getD i default) (l.Frozen.getD k default)) (some false) (some true) ?_ ?_ BIG (dD (by omega))
  · rw [main]; unfold nP
    cases (List.range l.Frozen.length).all fun i => (List.range i).all fun k => !kY (l.Frozen.getD i default) (l.Frozen.getD k default) <;> rfl
  · intro k i hi
    have hlt : decide ((i : Int) < (l.Frozen.length : Int)) = true := decide_eq_true (by omega)
    have ei : l.Frozen.getD i default = l.Frozen[i] := by simp [List.getD, List.getElem?_eq_getElem hi]
    simp only [dY, hlt, cond_true]
    refine mE (fun k4 q => fW (dY l k) i l k4 q) i (fun q => !kY (l.Frozen.getD i default) (l.Frozen.getD q default)) (some false) (dY l k ((i + 1 : Nat) : Int)) ?_ ?_ BIG (dD (by omega))
    · intro k4 q hq
      have hql : q < l.Frozen.length := by omega
      have eq : l.Frozen.getD q default = l.Frozen[q] := by simp [List.getD, List.getElem?_eq_getElem hql]
      have hlt2 : decide ((q : Int) < (i : Int)) = true := decide_eq_true (by omega)
      simp only [fW, hlt2, cond_true, dK hi, dK hql, Option.bind_some, gC, cP (show q < 9223372036854775807 by omega), ei, eq]
      show (bif kY l.Frozen[i] l.Frozen[q] then _ else _) = _
      cases kY l.Frozen[i] l.Frozen[q] <;> rfl
    · intro k4
      have hlt2 : decide ((i : Int) < (i : Int)) = false := decide_eq_false (by omega)
      simp only [fW, hlt2, cond_false, nE, nD, cP (show i < 9223372036854775807 by omega)]
  · intro k
    have hlt : decide ((l.Frozen.length : Int) < (l.Frozen.length : Int)) = false := decide_eq_false (by omega)
    simp only [dY, hlt, cond_false, nC]
theorem aFx (l : aP) (hP : 1 ≤ l.Players ∧ l.Players ≤ 16) (h1 : l.Reports.length ≤ 1000000) (h3 : l.Frozen.length ≤ 1000000) : fG l BIG 0 = some (l.Reports.all (oP l.Players) && nP l.Frozen) := by
  have main := mE (fun k i => fG l k i) l.Reports.length (fun i => oP l.Players (l.Reports.getD i default)) (some false) (some (nP l.Frozen)) ?_ ?_ BIG (dD (by omega))
  · rw [main, pK]
    cases l.Reports.all (oP l.Players) <;> rfl
  · intro k i hi
    have hlt : decide ((i : Int) < (l.Reports.length : Int)) = true := decide_eq_true (by omega)
    have ei : l.Reports.getD i default = l.Reports[i] := by simp [List.getD, List.getElem?_eq_getElem hi]
    simp only [fG, hlt, cond_true, dK hi, Option.bind_some, aHg hP, cP (show i < 9223372036854775807 by omega), ei]
    cases oP l.Players l.Reports[i] <;> rfl
  · intro k
    have hlt : decide ((l.Reports.length : Int) < (l.Reports.length : Int)) = false := decide_eq_false (by omega)
    simp only [fG, hlt, cond_false, nB, aIg l h3]
theorem zR {l : aP} (h : ¬ (1 ≤ l.Players ∧ l.Players ≤ 16)) : jA l = false := by
  have : inB l.Players 1 16 = false := by unfold inB; rw [Bool.eq_false_iff]; simpa using h
  unfold jA
  rw [this]; simp
theorem aHe (l : aP) (h1 : l.Reports.length ≤ 1000000) (h2 : l.Bans.length ≤ 1000000) (h3 : l.Frozen.length ≤ 1000000) : kI l = some (jA l) := by
  unfold kI
  have e40 : decide (40 < (l.Reports.length : Int)) = !decide (l.Reports.length ≤ 40) := by
    by_cases h : l.Reports.length ≤ 40
    · rw [decide_eq_true h, decide_eq_false (by omega)]; rfl
    · rw [decide_eq_false h, decide_eq_true (by omega)]; rfl
  rw [vM, Option.bind_some, vM, Option.bind_some, fO, Option.bind_some, fO, Option.bind_some, e40]
  rcases Classical.em (1 ≤ l.Players ∧ l.Players ≤ 16) with hP | hP
  · rw [aDo hP l.Bans h2, aDo hP l.Frozen h3, Option.bind_some, Option.bind_some, fO, Option.bind_some, fO, Option.bind_some, aFx l hP h1 h3]
    unfold jA inB
    cases (decide (1 ≤ l.Players) && decide (l.Players ≤ 16)) <;> cases (decide (1 ≤ l.Counts) && decide (l.Counts ≤ 20)) <;> cases decide (l.Reports.length ≤ 40) <;> cases (decide (l.Bans.length ≤ 8) && l.Bans.all (kE l.Players)) <;> cases (decide (l.Frozen.length ≤ 8) && l.Frozen.all (kE l.Players)) <;> simp
  · have : (decide (1 ≤ l.Players) && decide (l.Players ≤ 16)) = false := by rw [Bool.eq_false_iff]; simpa using hP
    rw [this, zR hP]
    simp
theorem aIm (l : aP) (h3 : l.Frozen.length ≤ 1000000) : iF l.Frozen (l.Frozen.length : Int) l BIG 0 = some (nP l.Frozen) := by
  have main := mE (fun k i => iF l.Frozen (l.Frozen.length : Int) l k i) l.Frozen.length (fun i => (List.range i).all fun k => !kY (l.Frozen.getD i default) (l.Frozen.getD k default)) (some false) (some true) ?_ ?_ BIG (dD (by omega))
  · rw [main]; unfold nP
    cases (List.range l.Frozen.length).all fun i => (List.range i).all fun k => !kY (l.Frozen.getD i default) (l.Frozen.getD k default) <;> rfl
  · intro k i hi
    have hlt : decide ((i : Int) < (l.Frozen.length : Int)) = true := decide_eq_true (by omega)
    have ei : l.Frozen.getD i default = l.Frozen[i] := by simp [List.getD, List.getElem?_eq_getElem hi]
    have hm : ∀ y ∈ l.Frozen.take i, mT y l.Frozen[i] = some (kY l.Frozen[i] y) := by
      intro y _
      unfold mT kY
      simp only [gC, Option.bind_some]
    simp only [iF, hlt, cond_true, dK hi, Option.bind_some, vU (show i ≤ l.Frozen.length by omega), uV _ _ _ hm (by simp; omega), cP (show i < 9223372036854775807 by omega)]
    rw [← aGk l.Frozen (fun y => kY (l.Frozen.getD i default) y) (by omega), ei]
    cases (l.Frozen.take i).any fun y => kY l.Frozen[i] y <;> rfl
  · intro k
    have hlt : decide ((l.Frozen.length : Int) < (l.Frozen.length : Int)) = false := decide_eq_false (by omega)
    simp only [iF, hlt, cond_false, qQ]
theorem aGf (l : aP) (hP : 1 ≤ l.Players ∧ l.Players ≤ 16) (h1 : l.Reports.length ≤ 1000000) (h2 : l.Bans.length ≤ 1000000) (h3 : l.Frozen.length ≤ 1000000) : iE l.Reports (l.Reports.length : Int) l BIG 0 =
    some (l.Reports.all (oP l.Players) && ((decide (l.Bans.length ≤ 8) && l.Bans.all (kE l.Players)) && ((decide (l.Frozen.length ≤ 8) && l.Frozen.all (kE l.Players)) && nP l.Frozen))) := by
  have main := mE (fun k i => iE l.Reports (l.Reports.length : Int) l k i) l.Reports.length (fun i => oP l.Players (l.Reports.getD i default)) (some false) (some ((decide (l.Bans.length ≤ 8) && l.Bans.all (kE l.Players)) && ((decide (l.Frozen.length ≤ 8) && l.Frozen.all (kE l.Players)) && nP l.Frozen))) ?_ ?_ BIG (dD (by omega))
  · rw [main, pK]
    cases l.Reports.all (oP l.Players) <;> rfl
  · intro k i hi
    have hlt : decide ((i : Int) < (l.Reports.length : Int)) = true := decide_eq_true (by omega)
    have ei : l.Reports.getD i default = l.Reports[i] := by simp [List.getD, List.getElem?_eq_getElem hi]
    simp only [iE, hlt, cond_true, dK hi, Option.bind_some, tL, fO, wP hP, cP (show i < 9223372036854775807 by omega), ei]
    have : oP l.Players l.Reports[i] = !(!inB l.Reports[i].Id 0 99 || !inB l.Reports[i].Player 0 (l.Players - 1) || !inB l.Reports[i].Week 0 400 || !inB l.Reports[i].Points 0 2000) := by
      unfold oP
      cases inB l.Reports[i].Id 0 99 <;> cases inB l.Reports[i].Player 0 (l.Players - 1) <;> cases inB l.Reports[i].Week 0 400 <;> cases inB l.Reports[i].Points 0 2000 <;> rfl
    rw [this]
    show (bif (!inB l.Reports[i].Id 0 99 || !inB l.Reports[i].Player 0 (l.Players - 1) || !inB l.Reports[i].Week 0 400 || !inB l.Reports[i].Points 0 2000) then _ else _) = _
    cases (!inB l.Reports[i].Id 0 99 || !inB l.Reports[i].Player 0 (l.Players - 1) || !inB l.Reports[i].Week 0 400 || !inB l.Reports[i].Points 0 2000) <;> rfl
  · intro k
    have hlt : decide ((l.Reports.length : Int) < (l.Reports.length : Int)) = false := decide_eq_false (by omega)
    simp only [iE, hlt, cond_false, qP, aDv hP l rfl l.Bans h2, aDv hP l rfl l.Frozen h3, Option.bind_some, fO, aIm l h3]
    cases (decide (l.Bans.length ≤ 8) && l.Bans.all (kE l.Players)) <;> cases (decide (l.Frozen.length ≤ 8) && l.Frozen.all (kE l.Players)) <;> simp
theorem aHr (l : aP) (h1 : l.Reports.length ≤ 1000000) (h2 : l.Bans.length ≤ 1000000) (h3 : l.Frozen.length ≤ 1000000) : oC l = some (jA l) := by
  unfold oC
  have e40 : decide (40 < (l.Reports.length : Int)) = !decide (l.Reports.length ≤ 40) := by
    by_cases h : l.Reports.length ≤ 40
    · rw [decide_eq_true h, decide_eq_false (by omega)]; rfl
    · rw [decide_eq_false h, decide_eq_true (by omega)]; rfl
  rw [tL, Option.bind_some, tL, Option.bind_some, fO, Option.bind_some, fO, Option.bind_some, e40]
  rcases Classical.em (1 ≤ l.Players ∧ l.Players ≤ 16) with hP | hP
  · rw [aGf l hP h1 h2 h3]
    unfold jA inB
    cases (decide (1 ≤ l.Players) && decide (l.Players ≤ 16)) <;> cases (decide (1 ≤ l.Counts) && decide (l.Counts ≤ 20)) <;> cases decide (l.Reports.length ≤ 40) <;> cases (decide (l.Bans.length ≤ 8) && l.Bans.all (kE l.Players)) <;> cases (decide (l.Frozen.length ≤ 8) && l.Frozen.all (kE l.Players)) <;> simp
  · have : (decide (1 ≤ l.Players) && decide (l.Players ≤ 16)) = false := by rw [Bool.eq_false_iff]; simpa using hP
    rw [this, zR hP]
    simp

/-- Two reports with one Id that are not equal. -/
def pY (l : List aC) : Bool := (List.range l.length).any fun i => (List.range i).any fun k => decide ((l.getD i default).Id = (l.getD k default).Id) && !decide (l.getD i default = l.getD k default)
theorem aIh (l : List aC) (hb : l.length ≤ 1000000) : mB l = some (pY l) := by
  unfold mB
  have main := mE (fun k i => eS l k i) l.length (fun i => (List.range i).all fun k => !(decide ((l.getD i default).Id = (l.getD k default).Id) && !decide (l.getD i default = l.getD k default))) (some true) (some false) ?_ ?_ BIG (dD (by omega))
  · rw [main]
    have : pY l = !((List.range l.length).all fun i => (List.range i).all fun k => !(decide ((l.getD i default).Id = (l.getD k default).Id) && !decide (l.getD i default = l.getD k default))) := by
      unfold pY
      rw [List.not_all_eq_any_not]
      congr 1; funext i
      rw [List.not_all_eq_any_not]
      congr 1; funext k
      rw [Bool.not_not]
    rw [this]
    cases (List.range l.length).all fun i => (List.range i).all fun k => !(decide ((l.getD i default).Id = (l.getD k default).Id) && !decide (l.getD i default = l.getD k default)) <;> rfl
  · intro k i hi
    have hlt : decide ((i : Int) < (l.length : Int)) = true := decide_eq_true (by omega)
    have ei : l.getD i default = l[i] := by simp [List.getD, List.getElem?_eq_getElem hi]
    simp only [eS, hlt, cond_true]
    refine mE (fun k4 q => gS (eS l k) l i k4 q) i (fun q => !(decide ((l.getD i default).Id = (l.getD q default).Id) && !decide (l.getD i default = l.getD q default))) (some true) (eS l k ((i + 1 : Nat) : Int)) ?_ ?_ BIG (dD (by omega))
    · intro k4 q hq
      have hql : q < l.length := by omega
      have eq : l.getD q default = l[q] := by simp [List.getD, List.getElem?_eq_getElem hql]
      have hlt2 : decide ((q : Int) < (i : Int)) = true := decide_eq_true (by omega)
      simp only [gS, hlt2, cond_true, dK hi, dK hql, Option.bind_some, gC, cP (show q < 9223372036854775807 by omega), ei, eq]
      cases (decide (l[i].Id = l[q].Id) && !decide (l[i] = l[q])) <;> rfl
    · intro k4
      have hlt2 : decide ((i : Int) < (i : Int)) = false := decide_eq_false (by omega)
      simp only [gS, hlt2, cond_false, oK, oJ, cP (show i < 9223372036854775807 by omega)]
  · intro k
    have hlt : decide ((l.length : Int) < (l.length : Int)) = false := decide_eq_false (by omega)
    simp only [eS, hlt, cond_false, oI]
theorem tE (l : List aC) : pY l = true ↔ rR l := by
  unfold pY rR
  rw [List.any_eq_true]
  constructor
  · rintro ⟨i, hi, h⟩
    obtain ⟨k, hk, h⟩ := List.any_eq_true.1 h
    rw [List.mem_range] at hi hk
    simp only [Bool.and_eq_true, decide_eq_true_eq, Bool.not_eq_true', decide_eq_false_iff_not] at h
    have ei : l.getD i default = l[i] := by simp [List.getD, List.getElem?_eq_getElem hi]
    have ek : l.getD k default = l[k] := by simp [List.getD, List.getElem?_eq_getElem (show k < l.length by omega)]
    rw [ei, ek] at h
    exact ⟨_, List.getElem_mem hi, _, List.getElem_mem (show k < l.length by omega), h.1, h.2⟩
  · rintro ⟨x, hx, y, hy, h1, h2⟩
    obtain ⟨i, hi, rfl⟩ := List.getElem_of_mem hx
    obtain ⟨k, hk, rfl⟩ := List.getElem_of_mem hy
    have ei : l.getD i default = l[i] := by simp [List.getD, List.getElem?_eq_getElem hi]
    have ek : l.getD k default = l[k] := by simp [List.getD, List.getElem?_eq_getElem hk]
    rcases Nat.lt_trichotomy i k with h | h | h
    · exact ⟨k, List.mem_range.2 hk, List.any_eq_true.2 ⟨i, List.mem_range.2 h, by rw [ei, ek]; simp [h1, Ne.symm h2]⟩⟩
    · subst h; exact absurd rfl h2
    · exact ⟨i, List.mem_range.2 hi, List.any_eq_true.2 ⟨k, List.mem_range.2 h, by rw [ei, ek]; simp [h1, h2]⟩⟩
def oA (l : aP) : Int := bif !jA l then 40 else bif pY l.Reports then 41 else 0
theorem zK (l : aP) (h1 : l.Reports.length ≤ 1000000) (h2 : l.Bans.length ≤ 1000000) (h3 : l.Frozen.length ≤ 1000000) : jH l = some (oA l) := by
  unfold jH oA
  rw [aHe l h1 h2 h3, Option.bind_some, aIh _ h1, Option.bind_some]
  cases jA l <;> cases pY l.Reports <;> rfl
theorem aAj {l : aP} (h : jA l = true) : ∀ r ∈ l.Reports, oP l.Players r = true := by
  unfold jA at h
  simp only [Bool.and_eq_true] at h
  exact List.all_eq_true.1 h.1.2
theorem aIn (l : aP) (h1 : l.Reports.length ≤ 1000000) (h2 : l.Bans.length ≤ 1000000) (h3 : l.Frozen.length ≤ 1000000) : rA l = some (oA l) := by
  unfold rA oA
  rw [aHr l h1 h2 h3, Option.bind_some]
  cases hl : jA l with
  | false => rfl
  | true =>
    have hid : ∀ x ∈ l.Reports, 0 ≤ x.Id ∧ x.Id ≤ 99 := fun x hx => by
      have := aAj hl x hx
      unfold oP inB at this
      simp only [Bool.and_eq_true, decide_eq_true_eq] at this
      exact this.1.1.1
    simp only [Bool.not_true, cond_false]
    rcases aBf l.Reports hid h1 with ⟨hc, he⟩ | ⟨hc, zs, he, _⟩
    · rw [he, (tE _).2 hc]; rfl
    · have : pY l.Reports = false := by rw [Bool.eq_false_iff]; exact fun h => hc ((tE _).1 h)
      rw [he, this]; rfl
end Go.Am
