/- Plain laws, one behind the other. -/
import Derived.Test.YtiohgpipanopaaaGreatBbDet
section
namespace Go.Am
theorem aEw (n lo hi : Int) : fB n lo hi = some (wi n lo hi) := by simp [fB, dG, wi]
theorem aEf (n lo hi : Int) : kL n lo hi = some (wi n lo hi) := by simp [kL, dG, wi]
def rK (p : bA) : Bool :=
 (decide (p.Size = 4) || decide (p.Size = 8)) && (wi p.Persons.length 2 p.Size && (wi p.Seeds 0 (min p.Persons.length (p.Size / 2)) && (!decide (p.Size / 2 < p.Size - p.Persons.length) && !decide (10 < (p.Lots.length : Int)))))
def pp (p : bA) (i : Nat) : aZ := p.Persons.getD i default
def aGo (p : bA) (i : Nat) : Bool :=
 (wi (pp p i).Player 0 999 && wi (pp p i).Nation 0 9 && !(decide ((i : Int) < p.Seeds) && (pp p i).Qualified)) && !((p.Persons.take i).any fun y => decide (y.Player = (pp p i).Player))
def mI (p : bA) : Bool := rK p && ((List.range p.Persons.length).all (aGo p) && p.Lots.all fun n => wi n 0 999999)
theorem aSu {p : bA} (h : p.Size = 4 ∨ p.Size = 8) : w64 (p.Size.tdiv 2) = p.Size / 2 := by
 rcases h with h | h <;> rw [h] <;> decide +kernel
theorem fY {p : bA} (h : rK p = true) : (p.Size = 4 ∨ p.Size = 8) ∧ 2 ≤ p.Persons.length ∧ (p.Persons.length : Int) ≤ p.Size ∧ p.Persons.length ≤ 8 ∧ p.Lots.length ≤ 10 ∧ 0 ≤ p.Seeds ∧ p.Seeds ≤ p.Persons.length ∧ p.Seeds ≤ p.Size / 2 ∧ p.Size - p.Persons.length ≤ p.Size / 2 := by
 simp only [rK, Bool.and_eq_true, Bool.or_eq_true, decide_eq_true_eq, jB, Bool.not_eq_true', decide_eq_false_iff_not] at h
 omega
theorem bBz {α : Type} (p : bA) (a b : Option α) :
  ((bif !decide (p.Size = 4) then (some (!decide (p.Size = 8))) else (some false)).bind fun b2 =>
  (bif b2 then (some true) else ((fB (p.Persons.length : Int) 2 p.Size).bind fun r3 => some (!r3))).bind fun b4 =>
  (bif b4 then (some true) else ((fB p.Seeds 0 (min (p.Persons.length : Int) (w64 (p.Size.tdiv 2)))).bind fun r5 => some (!r5))).bind fun b6 =>
  (bif b6 then (some true) else (some (decide ((w64 (p.Size.tdiv 2)) < (w64 (p.Size - (p.Persons.length : Int))))))).bind fun b7 =>
  (bif b7 then (some true) else (some (decide (10 < (p.Lots.length : Int))))).bind fun b8 => bif b8 then a else b) = bif rK p then b else a := by
 simp only [aEw, Option.bind_some, dG, eL]
 by_cases hs : p.Size = 4 ∨ p.Size = 8
 ·have h0 : (!decide (p.Size = 4) && !decide (p.Size = 8)) = false := by rcases hs with h | h <;> simp [h]
  have h1 : (decide (p.Size = 4) || decide (p.Size = 8)) = true := by rcases hs with h | h <;> simp [h]
  rw [h0, aSu hs]
  simp only [Bool.false_or, rK, h1, Bool.true_and]
  cases hw : wi p.Persons.length 2 p.Size with
  | false => simp
  | true =>
   have := jB.1 hw
   rw [dF (n := p.Size - p.Persons.length) (by omega) (by omega)]
   cases wi p.Seeds 0 (min p.Persons.length (p.Size / 2)) <;> cases decide (p.Size / 2 < p.Size - p.Persons.length) <;> cases decide (10 < (p.Lots.length : Int)) <;> rfl
 ·have h0 : (!decide (p.Size = 4) && !decide (p.Size = 8)) = true := by simp; omega
  have h1 : (decide (p.Size = 4) || decide (p.Size = 8)) = false := by simp; omega
  simp [h0, rK, h1]
theorem aZr {α : Type} (p : bA) (a b : Option α) :
  ((bif !decide (p.Size = 4) then (some (!decide (p.Size = 8))) else (some false)).bind fun b2 =>
  (bif b2 then (some true) else ((kL (p.Persons.length : Int) 2 p.Size).bind fun r3 => some (!r3))).bind fun b4 =>
  (bif b4 then (some true) else (some (decide ((w64 (p.Size.tdiv 2)) < (w64 (p.Size - (p.Persons.length : Int))))))).bind fun b5 =>
  (bif b5 then (some true) else ((kL p.Seeds 0 (min (w64 (p.Size.tdiv 2)) (p.Persons.length : Int))).bind fun r6 => some (!r6))).bind fun b7 =>
  (bif b7 then (some true) else (some (decide (10 < (p.Lots.length : Int))))).bind fun b8 => bif b8 then a else b) = bif rK p then b else a := by
 simp only [aEf, Option.bind_some, dG, eL]
 by_cases hs : p.Size = 4 ∨ p.Size = 8
 ·have h0 : (!decide (p.Size = 4) && !decide (p.Size = 8)) = false := by rcases hs with h | h <;> simp [h]
  have h1 : (decide (p.Size = 4) || decide (p.Size = 8)) = true := by rcases hs with h | h <;> simp [h]
  rw [h0, aSu hs, Int.min_comm (p.Size / 2)]
  simp only [Bool.false_or, rK, h1, Bool.true_and]
  cases hw : wi p.Persons.length 2 p.Size with
  | false => simp
  | true =>
   have := jB.1 hw
   rw [dF (n := p.Size - p.Persons.length) (by omega) (by omega)]
   cases wi p.Seeds 0 (min p.Persons.length (p.Size / 2)) <;> cases decide (p.Size / 2 < p.Size - p.Persons.length) <;> cases decide (10 < (p.Lots.length : Int)) <;> rfl
 ·have h0 : (!decide (p.Size = 4) && !decide (p.Size = 8)) = true := by simp; omega
  have h1 : (decide (p.Size = 4) || decide (p.Size = 8)) = false := by simp; omega
  simp [h0, rK, h1]
theorem aJv (l : List aZ) (hl : l.length ≤ 9223372036854775807) (f : aZ → Option Bool) (g : aZ → Bool) (hf : ∀ x ∈ l, f x = some (g x)) : jA l f = some (match l.findIdx? g with | some i => (i : Int) | none => -1) := by
 unfold jA
 rw [eX (S := Unit) (fun k i _ => eD l f l.length k i) l.length (fun i _ => some (match (l.drop i).findIdx? g with | some j => ((i + j : Nat) : Int) | none => -1)) (fun _ _ => True) ?_ ?_ BIG () (cG hl) trivial]
 ·simp
 ·intro k i _ hi _ ih
  have := ih () trivial
  simp only [eD, bN hi, Option.bind_some, bU (show i < 9223372036854775807 by omega), Int.ofNat_lt, hi, decide_true, cond_true, this, hf _ (List.getElem_mem hi)]
  rw [List.drop_eq_getElem_cons hi, List.findIdx?_cons]
  cases h : g l[i] with
  | true => simp
  | false =>
   simp only [cond_false, Bool.false_eq_true, if_false]
   cases List.findIdx? g (List.drop (i + 1) l) with
   | none => rfl
   | some j => simp; omega
 ·intro k _ _
  simp [eD, mW]
theorem aXs {α : Type} (l : List α) (g : α → Bool) : decide ((0 : Int) ≤ (match l.findIdx? g with | some i => (i : Int) | none => -1)) = l.any g := by
 cases h : l.findIdx? g with
 | none =>
  have h' := List.findIdx?_eq_none_iff.1 h
  have : l.any g = false := by rw [Bool.eq_false_iff]; intro h2; obtain ⟨x, hx, hg⟩ := List.any_eq_true.1 h2; rw [h' x hx] at hg; cases hg
  rw [this]; decide
 | some i =>
  obtain ⟨h1, h2, _⟩ := List.findIdx?_eq_some_iff_getElem.1 h
  have : l.any g = true := List.any_eq_true.2 ⟨_, List.getElem_mem h1, h2⟩
  rw [this]; exact decide_eq_true (Int.natCast_nonneg i)
theorem aGf (l : List aZ) (hl : l.length ≤ 9223372036854775807) (f : aZ → Option Bool) (g : aZ → Bool) (hf : ∀ x ∈ l, f x = some (g x)) : gK l f = some (l.any g) := by
 unfold gK
 rw [aJv l hl f g hf, Option.bind_some, aXs]
theorem aNp (l : List Int) (hl : l.length ≤ 9223372036854775807) (f : Int → Option Bool) (g : Int → Bool) (hf : ∀ x ∈ l, f x = some (g x)) : mX l f = some (match l.findIdx? g with | some i => (i : Int) | none => -1) := by
 unfold mX
 rw [eX (S := Unit) (fun k i _ => gB l f l.length k i) l.length (fun i _ => some (match (l.drop i).findIdx? g with | some j => ((i + j : Nat) : Int) | none => -1)) (fun _ _ => True) ?_ ?_ BIG () (cG hl) trivial]
 ·simp
 ·intro k i _ hi _ ih
  have := ih () trivial
  simp only [gB, bN hi, Option.bind_some, bU (show i < 9223372036854775807 by omega), Int.ofNat_lt, hi, decide_true, cond_true, this, hf _ (List.getElem_mem hi)]
  rw [List.drop_eq_getElem_cons hi, List.findIdx?_cons]
  cases h : g l[i] with
  | true => simp
  | false =>
   simp only [cond_false, Bool.false_eq_true, if_false]
   cases List.findIdx? g (List.drop (i + 1) l) with
   | none => rfl
   | some j => simp; omega
 ·intro k _ _
  simp [gB, rZ]
theorem aJu (l : List Int) (hl : l.length ≤ 9223372036854775807) (f : Int → Option Bool) (g : Int → Bool) (hf : ∀ x ∈ l, f x = some (g x)) : kW l f = some (l.any g) := by
 unfold kW
 rw [aNp l hl f g hf, Option.bind_some, aXs]
theorem kU {p : bA} {i : Nat} (h : i < p.Persons.length) : pp p i = p.Persons[i] := by simp [pp, h]
theorem aRc (p : bA) : tC p = some (if mI p then 0 else 60) := by
 unfold tC
 rw [aZr]
 cases hs : rK p with
 | false => simp [mI, hs]
 | true =>
  obtain ⟨_, _, _, h8, h10, _⟩ := fY hs
  rw [cond_true, rH (fun k i => oG p.Persons p.Persons.length p k i) p.Persons.length (aGo p) (some 60) (xN p) ?_ ?_ BIG (cG (by omega))]
  ·simp only [mI, hs, Bool.true_and]
   cases (List.range p.Persons.length).all (aGo p) with
   | false => rfl
   | true =>
    simp only [cond_true, Bool.true_and, xN]
    rw [aJu p.Lots (by omega) _ (fun n => !wi n 0 999999) (fun x _ => by simp [yO, aEf]), Option.bind_some]
    have : (p.Lots.any fun n => !wi n 0 999999) = !(p.Lots.all fun n => wi n 0 999999) := by rw [List.not_all_eq_any_not]
    rw [this]
    cases p.Lots.all fun n => wi n 0 999999 <;> rfl
  ·intro k i hi
   simp only [oG, Int.ofNat_lt, hi, decide_true, cond_true, bN hi, Option.bind_some, aRp (Nat.le_of_lt hi), aEf, dG, eL, bU (show i < 9223372036854775807 by omega)]
   rw [aGf (p.Persons.take i) (by rw [List.length_take]; omega) (fun y12 => yN y12 p.Persons[i]) (fun y => decide (y.Player = p.Persons[i].Player)) (fun y _ => rfl), Option.bind_some]
   simp only [aGo, kU hi]
   cases (p.Persons.take i).any fun y => decide (y.Player = p.Persons[i].Player) <;> cases wi p.Persons[i].Player 0 999 <;> cases wi p.Persons[i].Nation 0 9 <;> cases decide ((i : Int) < p.Seeds) <;> cases p.Persons[i].Qualified <;> rfl
  ·intro k
   simp [oG]
theorem aJr (p : bA) : oD p = some (if mI p then 0 else 60) := by
 unfold oD
 rw [bBz]
 cases hs : rK p with
 | false => simp [mI, hs]
 | true =>
  obtain ⟨_, _, _, h8, h10, _⟩ := fY hs
  rw [cond_true, rH (fun k i => eY p.Persons.length p k i) p.Persons.length (aGo p) (some 60) (rQ p) ?_ ?_ BIG (cG (by omega))]
  ·simp only [mI, hs, Bool.true_and]
   cases (List.range p.Persons.length).all (aGo p) with
   | false => rfl
   | true =>
    simp only [cond_true, Bool.true_and, rQ]
    rw [rH (fun k i => jZ p k i) p.Lots.length (fun i => wi (p.Lots.getD i 0) 0 999999) (some 60) (some 0) ?_ ?_ BIG (cG (by omega))]
    ·have : ((List.range p.Lots.length).all fun i => wi (p.Lots.getD i 0) 0 999999) = p.Lots.all fun n => wi n 0 999999 := by
      rw [Bool.eq_iff_iff, kP, List.all_eq_true]
      constructor
      ·intro h x hx
       obtain ⟨i, hi, rfl⟩ := List.getElem_of_mem hx
       have := h i hi
       rwa [bM hi] at this
      ·intro h i hi
       rw [bM hi]
       exact h _ (List.getElem_mem hi)
     rw [this]
     cases p.Lots.all fun n => wi n 0 999999 <;> rfl
    ·intro k i hi
     simp only [jZ, Int.ofNat_lt, hi, decide_true, cond_true, bN hi, Option.bind_some, aEw, bU (show i < 9223372036854775807 by omega), bM hi]
     cases wi p.Lots[i] 0 999999 <;> rfl
    ·intro k
     simp [jZ, vV]
  ·intro k i hi
   simp only [eY, Int.ofNat_lt, hi, decide_true, cond_true, bN hi, Option.bind_some, aEw, dG, eL]
   rw [rH (fun k2 j => jY (eY p.Persons.length p k) p.Persons.length i p p.Persons[i] k2 j) i (fun j => !decide ((pp p j).Player = p.Persons[i].Player)) (some 60) (eY p.Persons.length p k ((i + 1 : Nat) : Int)) ?_ ?_ BIG (cG (by omega))]
   ·have e : ((List.range i).all fun j => !decide ((pp p j).Player = p.Persons[i].Player)) = !((p.Persons.take i).any fun y => decide (y.Player = p.Persons[i].Player)) := by
     rw [Bool.eq_iff_iff, kP, Bool.not_eq_true', Bool.eq_false_iff]
     constructor
     ·intro h h2
      obtain ⟨x, hx, hp⟩ := List.any_eq_true.1 h2
      obtain ⟨j, hj, rfl⟩ := List.getElem_of_mem hx
      rw [List.length_take] at hj
      have := h j (by omega)
      rw [kU (by omega)] at this
      rw [List.getElem_take] at hp
      rw [hp] at this
      cases this
     ·intro h j hj
      cases hd : decide ((pp p j).Player = p.Persons[i].Player) with
      | false => rfl
      | true =>
       refine absurd (List.any_eq_true.2 ⟨p.Persons[j], ?_, ?_⟩) h
       ·refine List.mem_of_getElem? (i := j) ?_
        rw [List.getElem?_take_of_lt hj, List.getElem?_eq_getElem (by omega)]
       ·rwa [kU (by omega)] at hd
    rw [e]
    simp only [aGo, kU hi]
    cases (p.Persons.take i).any fun y => decide (y.Player = p.Persons[i].Player) <;> cases wi p.Persons[i].Player 0 999 <;> cases wi p.Persons[i].Nation 0 9 <;> cases decide ((i : Int) < p.Seeds) <;> cases p.Persons[i].Qualified <;> rfl
   ·intro k2 j hj
    simp only [jY, Int.ofNat_lt, hj, decide_true, cond_true, bN (show j < p.Persons.length by omega), Option.bind_some, bU (show j < 9223372036854775807 by omega), kU (show j < p.Persons.length by omega)]
    cases decide (p.Persons[j].Player = p.Persons[i].Player) <;> rfl
   ·intro k2
    simp [jY, vU, vT, bU (show i < 9223372036854775807 by omega)]
  ·intro k
   simp [eY]
end Go.Am
end
section
namespace Go.Am
def aIs (p : bA) (x : Int) : Option Nat := p.Persons.findIdx? fun y => decide (y.Player = x)
theorem aLg {p : bA} {x : Int} {i : Nat} (h : aIs p x = some i) : i < p.Persons.length ∧ (pp p i).Player = x := by
 obtain ⟨h1, h2, _⟩ := List.findIdx?_eq_some_iff_getElem.1 h
 exact ⟨h1, by rw [kU h1]; simpa using h2⟩
theorem aXv {p : bA} {x : Int} (h : ∃ i, i < p.Persons.length ∧ (pp p i).Player = x) : ∃ i, aIs p x = some i := by
 obtain ⟨i, hi, he⟩ := h
 cases hn : aIs p x with
 | some j => exact ⟨j, rfl⟩
 | none =>
  have := List.findIdx?_eq_none_iff.1 hn p.Persons[i] (List.getElem_mem hi)
  rw [← kU hi] at this
  simp [he] at this
def aEq (p : bA) (x : Int) : Int := match aIs p x with | some i => (i : Int) | none => -1
theorem aRl (p : bA) (hl : p.Persons.length ≤ 9223372036854775807) (x : Int) : nB p x = some (aEq p x) := by
 unfold nB
 rw [eX (S := Unit) (fun k i _ => jH x p k i) p.Persons.length (fun i _ => some (match (p.Persons.drop i).findIdx? (fun y => decide (y.Player = x)) with | some j => ((i + j : Nat) : Int) | none => -1)) (fun _ _ => True) ?_ ?_ BIG () (cG hl) trivial]
 ·simp [aEq, aIs]
 ·intro k i _ hi _ ih
  have := ih () trivial
  simp only [jH, bN hi, Option.bind_some, bU (show i < 9223372036854775807 by omega), Int.ofNat_lt, hi, decide_true, cond_true, this]
  rw [List.drop_eq_getElem_cons hi, List.findIdx?_cons]
  cases h : decide (p.Persons[i].Player = x) with
  | true => simp
  | false =>
   simp only [cond_false, Bool.false_eq_true, if_false]
   cases List.findIdx? (fun y => decide (y.Player = x)) (List.drop (i + 1) p.Persons) with
   | none => rfl
   | some j => simp; omega
 ·intro k _ _
  simp [jH, uQ]
theorem aQm (l : List Int) (hl : l.length ≤ 9223372036854775807) (n : Int) : qA l n = some (decide (n ∈ l)) := by
 unfold qA
 rw [eX (S := Unit) (fun k i _ => lO l n k i) l.length (fun i _ => some (decide (n ∈ l.drop i))) (fun _ _ => True) ?_ ?_ BIG () (cG hl) trivial]
 ·simp
 ·intro k i _ hi _ ih
  have := ih () trivial
  simp only [lO, bN hi, Option.bind_some, bU (show i < 9223372036854775807 by omega), Int.ofNat_lt, hi, decide_true, cond_true, this]
  rw [List.drop_eq_getElem_cons hi]
  by_cases h : l[i] = n
  ·simp [h]
  ·have h' : ¬ n = l[i] := fun e => h e.symm
   simp only [h, decide_false, cond_false, List.mem_cons, h', false_or]
 ·intro k _ _
  simp [lO, yU]
def aTo (p : bA) (S : List Int) (i : Nat) : Bool := decide (S.getD i 0 = -1) || (aIs p (S.getD i 0)).isSome && !decide (S.getD i 0 ∈ S.take i)
def aIg (p : bA) (a b : Int) : Bool :=
 if a = -1 ∨ b = -1 then !decide (a = b) else
 (decide ((pp p (aEq p a).toNat).Nation = 0) || !decide ((pp p (aEq p a).toNat).Nation = (pp p (aEq p b).toNat).Nation)) && !((pp p (aEq p a).toNat).Qualified && (pp p (aEq p b).toNat).Qualified)
def IsP (p : bA) (x : Int) : Prop := x = -1 ∨ ∃ i, aIs p x = some i
theorem aVc {p : bA} {x : Int} {i : Nat} (h : aIs p x = some i) : idx p.Persons (aEq p x) = some (pp p (aEq p x).toNat) := by
 have e : aEq p x = (i : Int) := by unfold aEq; rw [h]
 rw [e, bN (aLg h).1, Int.toNat_natCast, ← kU (aLg h).1]
theorem aPv {p : bA} (hp : p.Persons.length ≤ 40) {a b : Int} (ha : IsP p a) (hb : IsP p b) : kI p a b = some (aIg p a b) := by
 unfold kI
 simp only [eL, dG, Option.bind_some, aRl p (show p.Persons.length ≤ 9223372036854775807 by omega)]
 by_cases h : a = -1 ∨ b = -1
 ·have : (decide (a = -1) || decide (b = -1)) = true := by simpa using h
  rw [this]
  simp only [cond_true, aIg, if_pos h]
 ·have h0 : (decide (a = -1) || decide (b = -1)) = false := by simpa using h
  rw [h0]
  obtain ⟨i, hi⟩ := ha.resolve_left fun e => h (.inl e)
  obtain ⟨j, hj⟩ := hb.resolve_left fun e => h (.inr e)
  rw [cond_false, aVc hi, Option.bind_some, aVc hj, Option.bind_some]
  simp only [aIg, if_neg h]
theorem aVi (l : List Int) (hl : l.length ≤ 9223372036854775807) (v : Int) : sK l v = some (match l.findIdx? (fun x => decide (x = v)) with | some i => (i : Int) | none => -1) := by
 unfold sK
 rw [eX (S := Unit) (fun k i _ => kJ l v k i) l.length (fun i _ => some (match (l.drop i).findIdx? (fun x => decide (x = v)) with | some j => ((i + j : Nat) : Int) | none => -1)) (fun _ _ => True) ?_ ?_ BIG () (cG hl) trivial]
 ·simp
 ·intro k i _ hi _ ih
  have := ih () trivial
  simp only [kJ, bN hi, Option.bind_some, bU (show i < 9223372036854775807 by omega), Int.ofNat_lt, hi, decide_true, cond_true, this]
  rw [List.drop_eq_getElem_cons hi, List.findIdx?_cons]
  by_cases h : l[i] = v
  ·simp [h]
  ·simp only [h, decide_false, cond_false, Bool.false_eq_true, if_false]
   cases List.findIdx? (fun x => decide (x = v)) (List.drop (i + 1) l) with
   | none => rfl
   | some j => simp; omega
 ·intro k _ _
  simp [kJ, wM]
theorem bAz (p : bA) (hp : p.Persons.length ≤ 40) (S : List Int) (hS : S.length ≤ 40) : qG p S = some ((List.range p.Persons.length).all fun i => decide ((pp p i).Player ∈ S)) := by
 unfold qG
 rw [rH (fun k i => jI S p k i) p.Persons.length (fun i => decide ((pp p i).Player ∈ S)) (some false) (some true) ?_ ?_ BIG (cG (by omega))]
 ·cases (List.range p.Persons.length).all fun i => decide ((pp p i).Player ∈ S) <;> rfl
 ·intro k i hi
  simp only [jI, Int.ofNat_lt, hi, decide_true, cond_true, bN hi, Option.bind_some, bU (show i < 9223372036854775807 by omega), aQm S (show S.length ≤ 9223372036854775807 by omega), kU hi]
  cases decide (p.Persons[i].Player ∈ S) <;> rfl
 ·intro k
  simp [jI, uS]
theorem aXt {T : Type} (F : Nat → Int → Option T) (n : Nat) (hstep : ∀ k i, i < n → (∀ b, F k ((i + 1 : Nat) : Int) = some b → ∃ b, F (k + 1) (i : Int) = some b)) (hstop : ∀ k, ∃ b, F (k + 1) (n : Int) = some b) : ∀ k, n < k → ∃ b, F k 0 = some b := by
 intro k hk
 have := pK (S := Unit) (fun k i _ => F k i) n (fun o => ∃ b, o = some b) (fun i _ => i ≤ n) (fun k i _ hi _ ih => by
  obtain ⟨b, hb⟩ := ih () (by omega)
  exact hstep k i hi b hb) (fun k i _ h1 h2 => by
  have : i = n := by omega
  subst this
  exact hstop k) k 0 () (by omega) (by omega)
 simpa using this
theorem aYi {p : bA} (hp : mI p = true) {S : List Int} (hl : (S.length : Int) = p.Size) (hS : ∀ x ∈ S, IsP p x) :
  ∃ b, rD p S = some b ∧ (b = true → ∀ j (_ : 2 * j + 1 < S.length), aIg p (S.getD (2 * j) 0) (S.getD (2 * j + 1) 0) = true) := by
 have hsh : rK p = true := by simp only [mI, Bool.and_eq_true] at hp; exact hp.1
 obtain ⟨hsz, hn2, hns, h8, _, hs0, hsn, hs2, _⟩ := fY hsh
 have hS8 : S.length ≤ 8 := by omega
 unfold rD
 rw [bAz p (by omega) S (by omega), Option.bind_some]
 cases hf : (List.range p.Persons.length).all fun i => decide ((pp p i).Player ∈ S) with
 | false => exact ⟨false, rfl, fun h => by cases h⟩
 | true =>
  have hfull := fun i hi => of_decide_eq_true (kP.1 hf i hi)
  rw [Bool.not_true, cond_false]
  have hK : ∃ b, nS S p = some b := by
   unfold nS
   have h0 : p.Seeds = ((p.Seeds.toNat : Nat) : Int) := by omega
   refine aXt (fun k i => kB S (w64 (p.Size - (p.Persons.length : Int))) p k i) p.Seeds.toNat (fun k i hi b hb => ?_) (fun k => ?_) BIG (cG (by omega))
   ·have hin : i < p.Persons.length := by omega
    have hlt : decide ((i : Int) < p.Seeds) = true := decide_eq_true (by omega)
    have hm := hfull i hin
    rw [kU hin] at hm
    obtain ⟨r, hr⟩ : ∃ r, S.findIdx? (fun x => decide (x = p.Persons[i].Player)) = some r := by
     cases hx : S.findIdx? (fun x => decide (x = p.Persons[i].Player)) with
     | some r => exact ⟨r, rfl⟩
     | none =>
      have := List.findIdx?_eq_none_iff.1 hx _ hm
      simp at this
    obtain ⟨hr1, _, _⟩ := List.findIdx?_eq_some_iff_getElem.1 hr
    have hx := bAa ⟨r, by omega⟩
    simp only at hx
    have hj : (if r % 2 = 0 then r + 1 else r - 1) < S.length := by split <;> omega
    simp only [kB, hlt, cond_true, bN hin, Option.bind_some, aVi S (show S.length ≤ 9223372036854775807 by omega), hr, dG, eL, uR, hx, bN hj, bU (show i < 9223372036854775807 by omega)]
    cases (decide ((i : Int) = 0) && !decide ((r : Int) = 0) || decide ((i : Int) = 1) && !decide ((r : Int) = w64 (p.Size - 1)) || decide (2 ≤ (i : Int)) && !decide ((r : Int) = w64 (p.Size.tdiv 4)) && !decide ((r : Int) = w64 (w64 (p.Size - 1) - w64 (p.Size.tdiv 4)))) with
    | true => exact ⟨_, rfl⟩
    | false =>
     rw [cond_false]
     cases (!decide (decide ((i : Int) < w64 (p.Size - ↑p.Persons.length)) = decide (S[if r % 2 = 0 then r + 1 else r - 1] = -1))) with
     | true => exact ⟨_, rfl⟩
     | false => exact ⟨b, hb⟩
   ·have hlt : decide (((p.Seeds.toNat : Nat) : Int) < p.Seeds) = false := decide_eq_false (by omega)
    exact ⟨true, by simp only [kB, hlt, cond_false, vW]⟩
  obtain ⟨b, hb⟩ := hK
  have main := rH (fun k i => kA S p k (2 * i)) (S.length / 2) (fun j => aIg p (S.getD (2 * j) 0) (S.getD (2 * j + 1) 0)) (some false) (nS S p) ?_ ?_ BIG (cG (by omega))
  ·simp only [Int.mul_zero] at main
   rw [main, hb]
   cases ha : (List.range (S.length / 2)).all fun j => aIg p (S.getD (2 * j) 0) (S.getD (2 * j + 1) 0) with
   | false => exact ⟨false, rfl, fun h => by cases h⟩
   | true => exact ⟨b, rfl, fun _ j hj => kP.1 ha j (by omega)⟩
  ·intro k j hj
   have h1 : 2 * j < S.length := by omega
   have h2 : 2 * j + 1 < S.length := by omega
   have hlt : decide (2 * (j : Int) < p.Size) = true := decide_eq_true (by omega)
   have e1 : w64 (2 * (j : Int) + 1) = ((2 * j + 1 : Nat) : Int) := by rw [dF (by omega) (by omega)]; omega
   have e2 : w64 (2 * (j : Int) + 2) = 2 * ((j + 1 : Nat) : Int) := by rw [dF (by omega) (by omega)]; omega
   have e0 : 2 * (j : Int) = ((2 * j : Nat) : Int) := by omega
   simp only [kA, hlt, cond_true, e1, e2]
   rw [e0, bN h1, Option.bind_some, bN h2, Option.bind_some, aPv (by omega) (hS _ (List.getElem_mem h1)) (hS _ (List.getElem_mem h2)), Option.bind_some, bM h1, bM h2]
   cases aIg p S[2 * j] S[2 * j + 1] <;> rfl
  ·intro k
   have hlt : decide (2 * ((S.length / 2 : Nat) : Int) < p.Size) = false := decide_eq_false (by omega)
   simp only [kA, hlt, cond_false]
end Go.Am
end
section
namespace Go.Am
theorem bW {α β : Type} {A : Option α} {x : α} (h : A = some x) (f : α → Option β) : A.bind f = f x := by subst h; rfl
theorem aTr {S : List Int} (h : S.length ≤ 1000) : fA S = some S := by
 unfold fA
 rw [eN (by simp; omega)]
 simp
end Go.Am
end
section
namespace Go.Am
def aMm (p : bA) (slot : Nat) (n : Int) : Bool :=
 if slot = 0 ∧ 0 < p.Seeds then decide (n = 0) else if (slot : Int) = p.Size - 1 ∧ 1 < p.Seeds then decide (n = 1)
 else decide (n = -1) || decide (p.Seeds ≤ n) || (decide (1 < n) && (decide ((slot : Int) = p.Size / 4) || decide ((slot : Int) = p.Size - 1 - p.Size / 4)))
def pn (p : bA) (n : Int) : aZ := pp p n.toNat
def aGt (p : bA) (a b : Int) : Bool :=
 if a = -1 ∨ b = -1 then !decide (a = b) else (!decide ((pn p a).Nation = (pn p b).Nation) || decide ((pn p a).Nation = 0)) && !((pn p a).Qualified && (pn p b).Qualified)
def aQz (p : bA) (n other : Int) : Bool := decide (n = -1) || decide (p.Seeds ≤ n) || decide (decide (other = -1) = decide (n < p.Size - p.Persons.length))
def aFy (p : bA) (a b : Int) : Bool :=
 !(decide (p.Size - p.Persons.length ≤ p.Seeds) && (decide (a = -1) && decide (p.Seeds ≤ b) || decide (b = -1) && decide (p.Seeds ≤ a))) && (aGt p a b && aQz p a b && aQz p b a)
def Num (p : bA) (n : Int) : Prop := n = -1 ∨ 0 ≤ n ∧ n < p.Persons.length
theorem Num.idx {p : bA} {n : Int} (h : Num p n) (hn : n ≠ -1) : idx p.Persons n = some (pn p n) := by
 obtain ⟨h1, h2⟩ := h.resolve_left hn
 rw [aMe h1 (by omega), pn, kU (by omega)]
section
variable {p : bA} (hp : rK p = true)
include hp
theorem bHi : w64 (p.Size.tdiv 4) = p.Size / 4 ∧ w64 (p.Size - 1) = p.Size - 1 ∧ w64 (w64 (p.Size - 1) - w64 (p.Size.tdiv 4)) = p.Size - 1 - p.Size / 4 := by
 rcases (fY hp).1 with h | h <;> rw [h] <;> decide +kernel
theorem bFx (slot : Nat) (n : Int) : zZ p slot n = some (aMm p slot n) := by
 obtain ⟨e1, e2, e3⟩ := bHi hp
 unfold zZ
 rw [e3, e1, e2]
 simp only [dG, Option.bind_some, eL]
 rw [pP _ (by simp)]
 simp only [Option.bind_some, dG, List.mem_cons, List.not_mem_nil, or_false]
 unfold aMm
 by_cases h1 : slot = 0 ∧ 0 < p.Seeds
 ·have : (decide ((slot : Int) = 0) && decide (0 < p.Seeds)) = true := by rw [decide_eq_true (by omega : (slot : Int) = 0), decide_eq_true h1.2]; rfl
  rw [if_pos h1, this]
  rfl
 ·have : (decide ((slot : Int) = 0) && decide (0 < p.Seeds)) = false := by
   rw [Bool.eq_false_iff]
   intro h
   simp only [Bool.and_eq_true, decide_eq_true_eq] at h
   exact h1 ⟨by omega, h.2⟩
  rw [if_neg h1, this, cond_false]
  by_cases h2 : (slot : Int) = p.Size - 1 ∧ 1 < p.Seeds
  ·have : (decide ((slot : Int) = p.Size - 1) && decide (1 < p.Seeds)) = true := by simpa using h2
   rw [if_pos h2, this]
   rfl
  ·have : (decide ((slot : Int) = p.Size - 1) && decide (1 < p.Seeds)) = false := by
    rw [Bool.eq_false_iff]
    intro h
    exact h2 (by simpa using h)
   rw [if_neg h2, this, cond_false]
   have e : decide ((slot : Int) = p.Size / 4 ∨ (slot : Int) = p.Size - 1 - p.Size / 4) = (decide ((slot : Int) = p.Size / 4) || decide ((slot : Int) = p.Size - 1 - p.Size / 4)) := by
    by_cases a : (slot : Int) = p.Size / 4 <;> by_cases b : (slot : Int) = p.Size - 1 - p.Size / 4 <;> simp [a, b]
   rw [e]
   cases decide (n = -1) || decide (p.Seeds ≤ n) <;> rfl
omit hp in
theorem bCt {a b : Int} (ha : Num p a) (hb : Num p b) : yK p a b = some (aGt p a b) := by
 unfold yK
 simp only [eL, dG, Option.bind_some]
 by_cases h : a = -1 ∨ b = -1
 ·have : (decide (a = -1) || decide (b = -1)) = true := by simpa using h
  rw [this, aGt, if_pos h]
  rfl
 ·have h0 : (decide (a = -1) || decide (b = -1)) = false := by simpa using h
  rw [h0, cond_false, ha.idx (fun e => h (.inl e)), Option.bind_some, hb.idx (fun e => h (.inr e)), Option.bind_some, aGt, if_neg h]
theorem bFq {a b : Int} (ha : Num p a) (hb : Num p b) : vM p a b = some (aFy p a b) := by
 have hn := fY hp
 unfold vM
 rw [dF (n := p.Size - p.Persons.length) (by omega) (by omega)]
 have e1 : ∀ x y : Int, sA x y p (p.Size - p.Persons.length) = some (aQz p x y) := fun x y => by
  unfold sA aQz
  simp only [eL, Option.bind_some]
 simp only [dG, eL, Option.bind_some, bCt ha hb, e1]
 unfold aFy
 cases (decide (p.Size - (p.Persons.length : Int) ≤ p.Seeds) && (decide (a = -1) && decide (p.Seeds ≤ b) || decide (b = -1) && decide (p.Seeds ≤ a))) <;> cases aGt p a b <;> cases aQz p a b <;> cases aQz p b a <;> rfl
end
def okN (p : bA) (l : List Int) (byes n : Int) : Bool :=
 !((decide ((if n = -1 then byes - 1 else byes) < 0) || (!decide (n = -1) && decide (n ∈ l))) || !aMm p l.length n || (decide (l.length % 2 = 1) && !aFy p (l.getD (l.length - 1) 0) n))
def wD (byes n : Int) : Int := if n = -1 then byes - 1 else byes
def rA (p : bA) (ranks : List Int) : Nat → List Int → Int → List (List Int)
 | 0, l, _ => [l]
 | k + 1, l, byes => ranks.flatMap fun n => if okN p l byes n = true then rA p ranks k (l ++ [n]) (wD byes n) else []
def sR {S : Type} (y : S → List Int → Option (S × Bool)) : List (List Int) → S → Option (S × Bool)
 | [], s => some (s, true)
 | x :: xs, s => (y s x).bind fun r => bif r.2 then sR y xs r.1 else some (r.1, false)
theorem aKs {S : Type} (y : S → List Int → Option (S × Bool)) : ∀ (xs ys : List (List Int)) (s : S), sR y (xs ++ ys) s = (sR y xs s).bind fun r => bif r.2 then sR y ys r.1 else some (r.1, false)
 | [], _, _ => rfl
 | x :: xs, ys, s => by
  simp only [List.cons_append, sR]
  cases y s x with
  | none => rfl
  | some r =>
   simp only [Option.bind_some]
   cases r.2 with
   | true => simpa using aKs y xs ys r.1
   | false => rfl
theorem bAy {S : Type} (y : S → List Int → Option (S × Bool)) (x : List Int) (s : S) : sR y [x] s = y s x := by
 simp only [sR]
 cases y s x with
 | none => rfl
 | some r => obtain ⟨a, b⟩ := r; cases b <;> rfl
theorem bDp {S : Type} {A : Option (List Int)} {B : Option (S × Bool)} {c : Bool} (y : S → List Int → Option (S × Bool)) {l : List Int} (s : S) (hc : c = true) (hA : A = some l) :
  (bif c then (A.bind fun r1 => (y s r1).bind fun y3 => some y3) else B) = y s l := by
 subst hc; subst hA
 simp only [cond_true, Option.bind_some]
 cases y s l <;> rfl
theorem bBl {S : Type} {A B : Option (S × Bool)} {c : Bool} (hc : c = false) : (bif c then A else B) = B := by subst hc; rfl
section
variable {p : bA} (hp : rK p = true) {ranks : List Int} (hr : ∀ x ∈ ranks, Num p x) (hrl : ranks.length ≤ 100)
include hp hr hrl
theorem bFk {S : Type} (y : S → List Int → Option (S × Bool)) : ∀ (k : Nat) (fuel : Nat) (l : List Int) (byes : Int) (s : S), k < fuel → ((l.length + k : Nat) : Int) = p.Size → (∀ x ∈ l, Num p x) → -1 ≤ byes → byes ≤ 100 →
  iG y fuel l byes p ranks s = sR y (rA p ranks k l byes) s := by
 have hsz := fY hp
 intro k
 induction k with
 | zero =>
  intro fuel l byes s hf hl hn _ _
  obtain ⟨fuel, rfl⟩ : ∃ q, fuel = q + 1 := ⟨fuel - 1, by omega⟩
  have hc : decide ((l.length : Int) = p.Size) = true := decide_eq_true (by omega)
  rw [iG, bDp y s hc (aTr (show l.length ≤ 1000 by omega)), rA, bAy]
 | succ k ih =>
  intro fuel l byes s hf hl hn hb0 hb1
  obtain ⟨fuel, rfl⟩ : ∃ q, fuel = q + 1 := ⟨fuel - 1, by omega⟩
  have hc : decide ((l.length : Int) = p.Size) = false := decide_eq_false (by omega)
  rw [iG, bBl hc, rA]
  have main := eX (S := S) (fun q i s => iY y (iG y fuel) byes p l.length ranks ranks.length l p ranks q i s) ranks.length (fun i s => sR y ((ranks.drop i).flatMap fun n => if okN p l byes n = true then rA p ranks k (l ++ [n]) (wD byes n) else []) s) (fun _ _ => True) ?_ ?_ BIG s (cG (by omega)) trivial
  ·rw [List.drop_zero] at main
   exact main
  ·intro q i s hi _ ihq
   have hx := hr _ (List.getElem_mem hi)
   have hodd : decide (((l.length : Int).tmod 2) = 1) = decide (l.length % 2 = 1) := by
    rw [Int.tmod_eq_emod_of_nonneg (Int.natCast_nonneg _)]
    by_cases h : l.length % 2 = 1
    ·rw [decide_eq_true h, decide_eq_true (by omega)]
    ·rw [decide_eq_false h, decide_eq_false (by omega)]
   have hj : ((bif decide (ranks[i] = (-1)) then (some (w64 (byes - 1))) else (some byes)) : Option Int) = some (wD byes ranks[i]) := by
    unfold wD
    by_cases h : ranks[i] = -1
    ·rw [decide_eq_true h, if_pos h, dF (n := byes - 1) (by omega) (by omega)]; rfl
    ·rw [decide_eq_false h, if_neg h]; rfl
   have hm : ((bif decide (((l.length : Int).tmod 2) = 1) then ((idx l (w64 ((l.length : Int) - 1))).bind fun x13 => (vM p x13 ranks[i]).bind fun r14 => some (!r14)) else (some false)) : Option Bool) = some (decide (l.length % 2 = 1) && !aFy p (l.getD (l.length - 1) 0) ranks[i]) := by
    rw [hodd]
    by_cases h : l.length % 2 = 1
    ·have h1 : l.length - 1 < l.length := by omega
     rw [decide_eq_true h, cond_true, zE (show 0 < l.length by omega) (by omega), bW (bN h1), bW (bFq hp (hn _ (List.getElem_mem h1)) hx), bM h1]
     rfl
    ·rw [decide_eq_false h]; rfl
   have hcont : cO l ranks[i] = some (decide (ranks[i] ∈ l)) := pP l (by omega) _
   simp only [iY, Int.ofNat_lt, hi, decide_true, cond_true, bU (show i < 9223372036854775807 by omega)]
   rw [bW (bN hi), bW hj]
   simp only [hcont, Option.bind_some, dG, eL, bFx hp, hm]
   have e : (((decide (wD byes ranks[i] < 0) || (!decide (ranks[i] = -1) && decide (ranks[i] ∈ l))) || !aMm p l.length ranks[i]) || (decide (l.length % 2 = 1) && !aFy p (l.getD (l.length - 1) 0) ranks[i])) = !okN p l byes ranks[i] := by
    unfold okN wD
    rw [Bool.not_not]
   rw [e, List.drop_eq_getElem_cons hi, List.flatMap_cons]
   cases ho : okN p l byes ranks[i] with
   | false =>
    rw [Bool.not_false, cond_true, if_neg (by simp), List.nil_append]
    exact ihq s trivial
   | true =>
    have hlen : ((l ++ [ranks[i]]).length + k : Nat) = p.Size := by rw [List.length_append, List.length_singleton]; omega
    have hv : aLy p.Size l [ranks[i]] = some (l ++ [ranks[i]]) := by
     unfold aLy
     rw [if_pos (by rw [List.length_singleton]; omega)]
    have hleft : -1 ≤ wD byes ranks[i] ∧ wD byes ranks[i] ≤ 100 := by
     unfold okN at ho
     simp only [Bool.not_eq_true', Bool.or_eq_false_iff, decide_eq_false_iff_not] at ho
     have := ho.1.1.1
     unfold wD
     split at this <;> split <;> omega
    rw [Bool.not_true, cond_false, bW hv, if_pos rfl, aKs, ih fuel (l ++ [ranks[i]]) (wD byes ranks[i]) s (by omega) hlen (fun x h => by
     rcases List.mem_append.1 h with h | h
     ·exact hn x h
     ·rw [List.mem_singleton.1 h]; exact hx) hleft.1 hleft.2]
    cases sR y (rA p ranks k (l ++ [ranks[i]]) (wD byes ranks[i])) s with
    | none => rfl
    | some r =>
     simp only [Option.bind_some]
     cases r.2 with
     | true => exact ihq r.1 trivial
     | false => rfl
  ·intro q s _
   simp only [iY, Int.lt_irrefl, decide_false, cond_false, wS, List.drop_length, List.flatMap_nil, sR]
theorem bAp {S : Type} (y : S → List Int → Option (S × Bool)) (s : S) : vE y p ranks s = sR y (rA p ranks p.Size.toNat [] (p.Size - p.Persons.length)) s := by
 have hsz := fY hp
 unfold vE
 have hm : mk0 8 p.Size = some p.Size.toNat := by
  unfold mk0
  rw [if_pos ⟨by omega, by omega⟩]
 rw [bW hm, dF (n := p.Size - p.Persons.length) (by omega) (by omega)]
 have := bFk hp hr hrl y p.Size.toNat BIG [] (p.Size - p.Persons.length) s (cG (by omega)) (by simp; omega) (by simp) (by omega) (by omega)
 unfold zY
 rw [this]
 cases sR y (rA p ranks p.Size.toNat [] (p.Size - p.Persons.length)) s <;> rfl
end
end Go.Am
end
section
namespace Go.Am
theorem aEt {p : bA} (hp : mI p = true) {i : Nat} (hi : i < p.Persons.length) : 0 ≤ (pp p i).Player ∧ (pp p i).Player ≤ 999 := by
 simp only [mI, Bool.and_eq_true] at hp
 have := kP.1 hp.2.1 i hi
 simp only [aGo, Bool.and_eq_true, jB] at this
 exact this.1.1.1
theorem aVe {p : bA} (hp : mI p = true) {i j : Nat} (hi : i < p.Persons.length) (hj : j < p.Persons.length) (h : (pp p i).Player = (pp p j).Player) : i = j := by
 simp only [mI, Bool.and_eq_true] at hp
 have key : ∀ a b : Nat, a < b → b < p.Persons.length → (pp p a).Player ≠ (pp p b).Player := by
  intro a b hab hb he
  have := kP.1 hp.2.1 b hb
  simp only [aGo, Bool.and_eq_true, Bool.not_eq_true'] at this
  have h2 := this.2
  rw [Bool.eq_false_iff] at h2
  refine h2 (List.any_eq_true.2 ⟨p.Persons[a]'(by omega), ?_, ?_⟩)
  ·refine List.mem_of_getElem? (i := a) ?_
   rw [List.getElem?_take_of_lt hab, List.getElem?_eq_getElem (by omega)]
  ·rw [← kU (by omega)]
   exact decide_eq_true he
 rcases Nat.lt_trichotomy i j with hl | rfl | hl
 ·exact absurd h (key i j hl hj)
 ·rfl
 ·exact absurd h.symm (key j i hl hi)
section
variable {p : bA} (hp : mI p = true)
include hp
theorem shp : rK p = true := by simp only [mI, Bool.and_eq_true] at hp; exact hp.1
theorem aGx : ∃ ranks, mL p = some ranks ∧ (∀ x ∈ ranks, Num p x) ∧ ranks.length ≤ 9 := by
 have hsz := fY (shp hp)
 have h1 : mL p = oH p ((List.range p.Persons.length).map Int.ofNat) := by
  unfold mL
  rw [eX (S := List Int) (fun k i o => oI p.Persons.length p k i o) p.Persons.length (fun _ _ => oH p ((List.range p.Persons.length).map Int.ofNat)) (fun i o => o = (List.range i).map Int.ofNat) ?_ ?_ BIG [] (cG (by omega)) rfl]
  ·intro k i o hi ho ih
   subst ho
   simp only [oI, Int.ofNat_lt, hi, decide_true, cond_true, bU (show i < 9223372036854775807 by omega)]
   rw [bW (eN (by simp; omega))]
   refine ih _ ?_
   rw [List.range_succ, List.map_append]
   rfl
  ·intro k o ho
   subst ho
   simp only [oI, Int.lt_irrefl, decide_false, cond_false]
 have hm : ∀ x ∈ (List.range p.Persons.length).map Int.ofNat, ∃ i, i < p.Persons.length ∧ x = (i : Int) := by
  intro x hx
  obtain ⟨i, hi, rfl⟩ := List.mem_map.1 hx
  exact ⟨i, by simpa using hi, rfl⟩
 have hc : ∀ i j : Nat, i < p.Persons.length → j < p.Persons.length → iK (i : Int) (j : Int) p = some ((pp p i).Player - (pp p j).Player) := by
  intro i j hi hj
  have a := aEt hp hi
  have b := aEt hp hj
  unfold iK
  rw [bW (bN hi), bW (bN hj), ← kU hi, ← kU hj, dF (by omega) (by omega)]
 have hlt : ∀ i j : Nat, i < p.Persons.length → j < p.Persons.length → ltO (fun y5 y6 => iK y5 y6 p) (i : Int) (j : Int) = decide ((pp p i).Player < (pp p j).Player) := by
  intro i j hi hj
  unfold ltO
  simp only [hc i j hi hj]
  by_cases h : (pp p i).Player < (pp p j).Player
  ·rw [decide_eq_true h]; exact decide_eq_true (by omega)
  ·rw [decide_eq_false h]; exact decide_eq_false (by omega)
 have hok : aMh ((List.range p.Persons.length).map Int.ofNat) (fun y5 y6 => iK y5 y6 p) = true := by
  unfold aMh
  simp only [List.all_eq_true, Bool.and_eq_true, Bool.or_eq_true, Bool.not_eq_true', decide_eq_true_eq]
  intro x hx
  obtain ⟨i, hi, rfl⟩ := hm x hx
  refine ⟨by rw [hlt i i hi hi]; exact decide_eq_false (by omega), fun y hy => ?_⟩
  obtain ⟨j, hj, rfl⟩ := hm y hy
  refine ⟨⟨by rw [hc i j hi hj]; rfl, ?_⟩, fun z hz => ?_⟩
  ·rw [hlt i j hi hj, hlt j i hj hi, decide_eq_true_eq, decide_eq_true_eq]
   rcases Int.lt_trichotomy (pp p i).Player (pp p j).Player with h | h | h
   ·exact .inl (.inr h)
   ·exact .inl (.inl (by rw [aVe hp hi hj h]))
   ·exact .inr h
  ·obtain ⟨q, hq, rfl⟩ := hm z hz
   rw [hlt i j hi hj, hlt j q hj hq, hlt i q hi hq]
   constructor
   ·by_cases h1 : (pp p i).Player < (pp p j).Player
    ·by_cases h2 : (pp p j).Player < (pp p q).Player
     ·exact .inr (decide_eq_true (by omega))
     ·exact .inl (by simp [h2])
    ·exact .inl (by simp [h1])
   ·by_cases h1 : (pp p i).Player < (pp p j).Player
    ·exact .inl (.inl (decide_eq_true h1))
    ·by_cases h2 : (pp p j).Player < (pp p q).Player
     ·exact .inl (.inr (decide_eq_true h2))
     ·exact .inr (decide_eq_false (by omega))
 have hperm : (lK (fun y5 y6 => iK y5 y6 p) ((List.range p.Persons.length).map Int.ofNat)).Perm ((List.range p.Persons.length).map Int.ofNat) := List.mergeSort_perm _ _
 refine ⟨-1 :: lK (fun y5 y6 => iK y5 y6 p) ((List.range p.Persons.length).map Int.ofNat), ?_, fun x hx => ?_, ?_⟩
 ·rw [h1, oH, rW, aQu, if_pos ⟨hok, by simp; omega⟩, Option.bind_some, bW (eN (by rw [hperm.length_eq]; simp; omega))]
  rfl
 ·rcases List.mem_cons.1 hx with rfl | hx
  ·exact .inl rfl
  ·obtain ⟨i, hi, rfl⟩ := hm x (hperm.mem_iff.1 hx)
   exact .inr ⟨by omega, by omega⟩
 ·rw [List.length_cons, hperm.length_eq]; simp; omega
end
def plF (p : bA) (n : Int) : Int := if n = -1 then -1 else (pn p n).Player
theorem bEa {p : bA} {l : List Int} (hl : l.length ≤ 100) (hn : ∀ x ∈ l, Num p x) : tD p l = some (l.map (plF p)) := by
 unfold tD
 rw [eX (S := List Int) (fun k i o => mB l l.length p k i o) l.length (fun _ _ => some (l.map (plF p))) (fun i o => o = (l.take i).map (plF p)) ?_ ?_ BIG [] (cG (by omega)) rfl]
 ·intro k i o hi ho ih
  subst ho
  have ht : (l.take i).map (plF p) ++ [plF p l[i]] = (l.take (i + 1)).map (plF p) := by rw [List.take_succ_eq_append_getElem hi, List.map_append]; rfl
  have hlen : (((l.take i).map (plF p)).length + 1) * 8 ≤ 140737488355328 := by rw [List.length_map, List.length_take]; omega
  simp only [mB, Int.ofNat_lt, hi, decide_true, cond_true, bU (show i < 9223372036854775807 by omega)]
  rw [bW (bN hi)]
  by_cases hb : l[i] = -1
  ·have hc : plF p l[i] = -1 := by rw [plF, if_pos hb]
   rw [hc] at ht
   rw [decide_eq_true hb, cond_true, bW (eN (by simpa using hlen))]
   exact ih _ ht
  ·have hc : plF p l[i] = (pn p l[i]).Player := by rw [plF, if_neg hb]
   rw [hc] at ht
   rw [decide_eq_false hb, cond_false, bW ((hn _ (List.getElem_mem hi)).idx hb), bW (eN (by simpa using hlen))]
   exact ih _ ht
 ·intro k o ho
  subst ho
  simp [mB, aBb]
theorem aSf {p : bA} : ∀ (xs : List (List Int)) (n : Nat) (o : List Int × Bool), (∀ l ∈ xs, l.length ≤ 100 ∧ ∀ x ∈ l, Num p x) → n ≤ 9223372036854775807 →
  ∃ q, sR (fun (s6 : Int × List Int × Bool) (x7 : List Int) => bif decide (s6.1 = 0) then ((tD p x7).bind fun r8 => some ((s6.1, r8, true), false)) else (some ((w64 (s6.1 - 1), s6.2.1, s6.2.2), true))) xs ((n : Int), o) =
   some (match xs[n]? with | some l => ((0, l.map (plF p), true), false) | none => ((q, o), true))
 | [], n, o, _, _ => ⟨n, by simp [sR]⟩
 | x :: xs, 0, o, h, _ => ⟨0, by
  obtain ⟨h1, h2⟩ := h x (by simp)
  simp only [sR, Int.natCast_zero, decide_true, cond_true]
  rw [bW (bEa h1 h2)]
  rfl⟩
 | x :: xs, n + 1, o, h, hn => by
  obtain ⟨q, hq⟩ := aSf (p := p) xs n o (fun l hl => h l (List.mem_cons_of_mem _ hl)) (by omega)
  have hz : decide (((n + 1 : Nat) : Int) = 0) = false := decide_eq_false (by omega)
  refine ⟨q, ?_⟩
  simp only [sR, hz, cond_false, Option.bind_some, cond_true]
  rw [zE (show 0 < n + 1 by omega) hn]
  simpa using hq
end Go.Am
end
section
namespace Go.Am
def aHr (p : bA) : List (List Int) := match mL p with
 | some ranks => rA p ranks p.Size.toNat [] (p.Size - p.Persons.length)
 | none => []
structure PreL (p : bA) (l : List Int) (b : Int) : Prop where
 num : ∀ x ∈ l, Num p x
 nd : ∀ i j, i < j → j < l.length → l.getD i 0 = l.getD j 0 → l.getD j 0 = -1
 seat : ∀ i, i < l.length → aMm p i (l.getD i 0) = true
 pair : ∀ j, 2 * j + 1 < l.length → aFy p (l.getD (2 * j) 0) (l.getD (2 * j + 1) 0) = true
 byes : (l.count (-1) : Int) + b = p.Size - p.Persons.length
 left : 0 ≤ b
theorem pJ {l : List Int} {n : Int} {i : Nat} (h : i < l.length) : (l ++ [n]).getD i 0 = l.getD i 0 := by
 rw [List.getD, List.getD, List.getElem?_append_left h]
theorem aAb (l : List Int) (n : Int) : (l ++ [n]).getD l.length 0 = n := by
 rw [List.getD, List.getElem?_append_right (Nat.le_refl _), Nat.sub_self]; rfl
theorem PreL.next {p : bA} {l : List Int} {b n : Int} (h : PreL p l b) (hn : Num p n) (hok : okN p l b n = true) : PreL p (l ++ [n]) (wD b n) := by
 unfold okN at hok
 simp only [Bool.not_eq_true', Bool.or_eq_false_iff, decide_eq_false_iff_not, Bool.and_eq_false_iff, Bool.not_eq_false'] at hok
 obtain ⟨⟨⟨h1, h2⟩, h3⟩, h4⟩ := hok
 refine ⟨fun x hx => ?_, fun i j hij hj he => ?_, fun i hi => ?_, fun j hj => ?_, ?_, ?_⟩
 ·rcases List.mem_append.1 hx with hx | hx
  ·exact h.num x hx
  ·rw [List.mem_singleton.1 hx]; exact hn
 ·rw [List.length_append, List.length_singleton] at hj
  rcases Nat.lt_or_ge j l.length with hjl | hjl
  ·rw [pJ (by omega), pJ hjl] at he
   rw [pJ hjl]
   exact h.nd i j hij hjl he
  ·have : j = l.length := by omega
   subst this
   rw [aAb, pJ hij, bM hij] at he
   rw [aAb]
   rcases h2 with h2 | h2
   ·exact of_decide_eq_true h2
   ·exact absurd (he ▸ List.getElem_mem hij) h2
 ·rw [List.length_append, List.length_singleton] at hi
  rcases Nat.lt_or_ge i l.length with hil | hil
  ·rw [pJ hil]; exact h.seat i hil
  ·have : i = l.length := by omega
   subst this
   rw [aAb]; exact h3
 ·rw [List.length_append, List.length_singleton] at hj
  rcases Nat.lt_or_ge (2 * j + 1) l.length with hjl | hjl
  ·rw [pJ (by omega), pJ hjl]; exact h.pair j hjl
  ·have e : 2 * j + 1 = l.length := by omega
   have e2 : 2 * j = l.length - 1 := by omega
   rw [pJ (by omega), e, aAb, e2]
   rcases h4 with h4 | h4
   ·exact absurd (by omega : l.length % 2 = 1) h4
   ·exact h4
 ·rw [List.count_append, ← h.byes]
  unfold wD
  split
  ·rename_i hb
   subst hb
   simp
   omega
  ·rename_i hb
   rw [List.count_singleton]
   have : (n == (-1 : Int)) = false := by simpa using hb
   rw [this]
   simp
 ·unfold wD
  exact Int.not_lt.1 h1
theorem aNn {p : bA} {ranks : List Int} (hr : ∀ x ∈ ranks, Num p x) : ∀ (k : Nat) (l : List Int) (b : Int), PreL p l b → ∀ l' ∈ rA p ranks k l b, l'.length = l.length + k ∧ ∃ b', PreL p l' b'
 | 0, l, b, h, l', hl => by
  rw [rA, List.mem_singleton] at hl
  subst hl
  exact ⟨rfl, b, h⟩
 | k + 1, l, b, h, l', hl => by
  rw [rA, List.mem_flatMap] at hl
  obtain ⟨n, hn, hl⟩ := hl
  split at hl
  ·rename_i hok
   obtain ⟨h1, h2⟩ := aNn hr k _ _ (h.next (hr n hn) hok) l' hl
   exact ⟨by rw [h1, List.length_append, List.length_singleton]; omega, h2⟩
  ·cases hl
structure aGs (p : bA) (l : List Int) : Prop where
 len : (l.length : Int) = p.Size
 num : ∀ x ∈ l, Num p x
 nd : ∀ i j, i < j → j < l.length → l.getD i 0 = l.getD j 0 → l.getD j 0 = -1
 seat : ∀ i, i < l.length → aMm p i (l.getD i 0) = true
 pair : ∀ j, 2 * j + 1 < l.length → aFy p (l.getD (2 * j) 0) (l.getD (2 * j + 1) 0) = true
 byes : (l.count (-1) : Int) ≤ p.Size - p.Persons.length
section
variable {p : bA} (hp : mI p = true)
include hp
theorem aHs {l : List Int} (h : l ∈ aHr p) : aGs p l := by
 obtain ⟨ranks, hd, hr, _⟩ := aGx hp
 have hsz := fY (shp hp)
 unfold aHr at h
 rw [hd] at h
 obtain ⟨h1, b, h2⟩ := aNn hr p.Size.toNat [] (p.Size - p.Persons.length) ⟨by simp, by simp, by simp, by simp, by simp, by omega⟩ l h
 refine ⟨by rw [h1]; simp; omega, h2.num, h2.nd, h2.seat, h2.pair, ?_⟩
 have a := h2.byes
 have b := h2.left
 omega
theorem bFr (n : Nat) (hn : n ≤ 9223372036854775807) : sO p n = some (match (aHr p)[n]? with | some l => (l.map (plF p), true) | none => ([], false)) := by
 obtain ⟨ranks, hd, hr, hl⟩ := aGx hp
 have hA : aHr p = rA p ranks p.Size.toNat [] (p.Size - p.Persons.length) := by unfold aHr; rw [hd]
 have hsz := fY (shp hp)
 obtain ⟨q, hf⟩ := aSf (p := p) (aHr p) n ([], false) (fun l h => ⟨by have := (aHs hp h).len; omega, (aHs hp h).num⟩) hn
 have h2 := bAp (shp hp) hr (by omega) (fun (s6 : Int × List Int × Bool) (x7 : List Int) => bif decide (s6.1 = 0) then ((tD p x7).bind fun r8 => some ((s6.1, r8, true), false)) else (some ((w64 (s6.1 - 1), s6.2.1, s6.2.2), true))) ((n : Int), ([], false))
 rw [← hA] at h2
 unfold sO
 rw [bW hd, bW (h2.trans hf)]
 cases (aHr p)[n]? <;> rfl
theorem bEu (n : Int) (hn : n ≤ 9223372036854775807) : lL p n = some ([], 1) ∨ ∃ l ∈ aHr p, lL p n = some (l.map (plF p), 0) := by
 have hc : tC p = some 0 := by rw [aRc, if_pos hp]
 unfold lL
 rw [bW hc]
 simp only [decide_true, Bool.not_true, cond_false]
 by_cases h0 : n < 0
 ·rw [decide_eq_true h0, cond_true]
  exact .inl rfl
 ·rw [decide_eq_false h0, cond_false]
  obtain ⟨m, rfl⟩ : ∃ m : Nat, n = m := ⟨n.toNat, by omega⟩
  rw [bW (bFr hp m (by omega))]
  cases h : (aHr p)[m]? with
  | none => exact .inl rfl
  | some l => exact .inr ⟨l, List.mem_of_getElem? h, rfl⟩
end
end Go.Am
end
