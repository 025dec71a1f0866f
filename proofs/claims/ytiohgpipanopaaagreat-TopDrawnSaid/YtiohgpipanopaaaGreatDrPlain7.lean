/- Plain laws, one behind the other. -/
import Derived.Test.YtiohgpipanopaaaGreatBbDet
section
namespace Go.Am
theorem xT (n lo hi : Int) : dX n lo hi = some (wi n lo hi) := by simp [dX, dC, wi]
theorem xD (n lo hi : Int) : iH n lo hi = some (wi n lo hi) := by simp [iH, dC, wi]
def nB (p : aR) : Bool :=
 (decide (p.Size = 4) || decide (p.Size = 8)) && (wi p.Persons.length 2 p.Size && (wi p.Seeds 0 (min p.Persons.length (p.Size / 2)) && (!decide (p.Size / 2 < p.Size - p.Persons.length) && !decide (10 < (p.Lots.length : Int)))))
def pp (p : aR) (i : Nat) : aS := p.Persons.getD i default
def zH (p : aR) (i : Nat) : Bool :=
 (wi (pp p i).Player 0 999 && wi (pp p i).Nation 0 9 && !(decide ((i : Int) < p.Seeds) && (pp p i).Qualified)) && !((p.Persons.take i).any fun y => decide (y.Player = (pp p i).Player))
def jY (p : aR) : Bool := nB p && ((List.range p.Persons.length).all (zH p) && p.Lots.all fun n => wi n 0 999999)
theorem aJt {p : aR} (h : p.Size = 4 ∨ p.Size = 8) : w64 (p.Size.tdiv 2) = p.Size / 2 := by
 rcases h with h | h <;> rw [h] <;> decide +kernel
theorem eG {p : aR} (h : nB p = true) : (p.Size = 4 ∨ p.Size = 8) ∧ 2 ≤ p.Persons.length ∧ (p.Persons.length : Int) ≤ p.Size ∧ p.Persons.length ≤ 8 ∧ p.Lots.length ≤ 10 ∧ 0 ≤ p.Seeds ∧ p.Seeds ≤ p.Persons.length ∧ p.Seeds ≤ p.Size / 2 ∧ p.Size - p.Persons.length ≤ p.Size / 2 := by
 simp only [nB, Bool.and_eq_true, Bool.or_eq_true, decide_eq_true_eq, fO, Bool.not_eq_true', decide_eq_false_iff_not] at h
 omega
theorem aRp {α : Type} (p : aR) (a b : Option α) :
  ((bif !decide (p.Size = 4) then (some (!decide (p.Size = 8))) else (some false)).bind fun b2 =>
  (bif b2 then (some true) else ((dX (p.Persons.length : Int) 2 p.Size).bind fun r3 => some (!r3))).bind fun b4 =>
  (bif b4 then (some true) else ((dX p.Seeds 0 (min (p.Persons.length : Int) (w64 (p.Size.tdiv 2)))).bind fun r5 => some (!r5))).bind fun b6 =>
  (bif b6 then (some true) else (some (decide ((w64 (p.Size.tdiv 2)) < (w64 (p.Size - (p.Persons.length : Int))))))).bind fun b7 =>
  (bif b7 then (some true) else (some (decide (10 < (p.Lots.length : Int))))).bind fun b8 => bif b8 then a else b) = bif nB p then b else a := by
 simp only [xT, Option.bind_some, dC, gH]
 by_cases hs : p.Size = 4 ∨ p.Size = 8
 ·have h0 : (!decide (p.Size = 4) && !decide (p.Size = 8)) = false := by rcases hs with h | h <;> simp [h]
  have h1 : (decide (p.Size = 4) || decide (p.Size = 8)) = true := by rcases hs with h | h <;> simp [h]
  rw [h0, aJt hs]
  simp only [Bool.false_or, nB, h1, Bool.true_and]
  cases hw : wi p.Persons.length 2 p.Size with
  | false => simp
  | true =>
   have := fO.1 hw
   rw [dS (n := p.Size - p.Persons.length) (by omega) (by omega)]
   cases wi p.Seeds 0 (min p.Persons.length (p.Size / 2)) <;> cases decide (p.Size / 2 < p.Size - p.Persons.length) <;> cases decide (10 < (p.Lots.length : Int)) <;> rfl
 ·have h0 : (!decide (p.Size = 4) && !decide (p.Size = 8)) = true := by simp; omega
  have h1 : (decide (p.Size = 4) || decide (p.Size = 8)) = false := by simp; omega
  simp [h0, nB, h1]
theorem aPu {α : Type} (p : aR) (a b : Option α) :
  ((bif !decide (p.Size = 4) then (some (!decide (p.Size = 8))) else (some false)).bind fun b2 =>
  (bif b2 then (some true) else ((iH (p.Persons.length : Int) 2 p.Size).bind fun r3 => some (!r3))).bind fun b4 =>
  (bif b4 then (some true) else (some (decide ((w64 (p.Size.tdiv 2)) < (w64 (p.Size - (p.Persons.length : Int))))))).bind fun b5 =>
  (bif b5 then (some true) else ((iH p.Seeds 0 (min (w64 (p.Size.tdiv 2)) (p.Persons.length : Int))).bind fun r6 => some (!r6))).bind fun b7 =>
  (bif b7 then (some true) else (some (decide (10 < (p.Lots.length : Int))))).bind fun b8 => bif b8 then a else b) = bif nB p then b else a := by
 simp only [xD, Option.bind_some, dC, gH]
 by_cases hs : p.Size = 4 ∨ p.Size = 8
 ·have h0 : (!decide (p.Size = 4) && !decide (p.Size = 8)) = false := by rcases hs with h | h <;> simp [h]
  have h1 : (decide (p.Size = 4) || decide (p.Size = 8)) = true := by rcases hs with h | h <;> simp [h]
  rw [h0, aJt hs, Int.min_comm (p.Size / 2)]
  simp only [Bool.false_or, nB, h1, Bool.true_and]
  cases hw : wi p.Persons.length 2 p.Size with
  | false => simp
  | true =>
   have := fO.1 hw
   rw [dS (n := p.Size - p.Persons.length) (by omega) (by omega)]
   cases wi p.Seeds 0 (min p.Persons.length (p.Size / 2)) <;> cases decide (p.Size / 2 < p.Size - p.Persons.length) <;> cases decide (10 < (p.Lots.length : Int)) <;> rfl
 ·have h0 : (!decide (p.Size = 4) && !decide (p.Size = 8)) = true := by simp; omega
  have h1 : (decide (p.Size = 4) || decide (p.Size = 8)) = false := by simp; omega
  simp [h0, nB, h1]
theorem aBz (l : List aS) (hl : l.length ≤ 9223372036854775807) (f : aS → Option Bool) (g : aS → Bool) (hf : ∀ x ∈ l, f x = some (g x)) : fT l f = some (match l.findIdx? g with | some i => (i : Int) | none => -1) := by
 unfold fT
 rw [eR (S := Unit) (fun k i _ => dG l f l.length k i) l.length (fun i _ => some (match (l.drop i).findIdx? g with | some j => ((i + j : Nat) : Int) | none => -1)) (fun _ _ => True) ?_ ?_ BIG () (bY hl) trivial]
 ·simp
 ·intro k i _ hi _ ih
  have := ih () trivial
  simp only [dG, bQ hi, Option.bind_some, bT (show i < 9223372036854775807 by omega), Int.ofNat_lt, hi, decide_true, cond_true, this, hf _ (List.getElem_mem hi)]
  rw [List.drop_eq_getElem_cons hi, List.findIdx?_cons]
  cases h : g l[i] with
  | true => simp
  | false =>
   simp only [cond_false, Bool.false_eq_true, if_false]
   cases List.findIdx? g (List.drop (i + 1) l) with
   | none => rfl
   | some j => simp; omega
 ·intro k _ _
  simp [dG, kM]
theorem aOb {α : Type} (l : List α) (g : α → Bool) : decide ((0 : Int) ≤ (match l.findIdx? g with | some i => (i : Int) | none => -1)) = l.any g := by
 cases h : l.findIdx? g with
 | none =>
  have h' := List.findIdx?_eq_none_iff.1 h
  have : l.any g = false := by rw [Bool.eq_false_iff]; intro h2; obtain ⟨x, hx, hg⟩ := List.any_eq_true.1 h2; rw [h' x hx] at hg; cases hg
  rw [this]; decide
 | some i =>
  obtain ⟨h1, h2, _⟩ := List.findIdx?_eq_some_iff_getElem.1 h
  have : l.any g = true := List.any_eq_true.2 ⟨_, List.getElem_mem h1, h2⟩
  rw [this]; exact decide_eq_true (Int.natCast_nonneg i)
theorem yX (l : List aS) (hl : l.length ≤ 9223372036854775807) (f : aS → Option Bool) (g : aS → Bool) (hf : ∀ x ∈ l, f x = some (g x)) : eY l f = some (l.any g) := by
 unfold eY
 rw [aBz l hl f g hf, Option.bind_some, aOb]
theorem aFg (l : List Int) (hl : l.length ≤ 9223372036854775807) (f : Int → Option Bool) (g : Int → Bool) (hf : ∀ x ∈ l, f x = some (g x)) : kN l f = some (match l.findIdx? g with | some i => (i : Int) | none => -1) := by
 unfold kN
 rw [eR (S := Unit) (fun k i _ => eQ l f l.length k i) l.length (fun i _ => some (match (l.drop i).findIdx? g with | some j => ((i + j : Nat) : Int) | none => -1)) (fun _ _ => True) ?_ ?_ BIG () (bY hl) trivial]
 ·simp
 ·intro k i _ hi _ ih
  have := ih () trivial
  simp only [eQ, bQ hi, Option.bind_some, bT (show i < 9223372036854775807 by omega), Int.ofNat_lt, hi, decide_true, cond_true, this, hf _ (List.getElem_mem hi)]
  rw [List.drop_eq_getElem_cons hi, List.findIdx?_cons]
  cases h : g l[i] with
  | true => simp
  | false =>
   simp only [cond_false, Bool.false_eq_true, if_false]
   cases List.findIdx? g (List.drop (i + 1) l) with
   | none => rfl
   | some j => simp; omega
 ·intro k _ _
  simp [eQ, nE]
theorem aBy (l : List Int) (hl : l.length ≤ 9223372036854775807) (f : Int → Option Bool) (g : Int → Bool) (hf : ∀ x ∈ l, f x = some (g x)) : iS l f = some (l.any g) := by
 unfold iS
 rw [aFg l hl f g hf, Option.bind_some, aOb]
theorem jC {p : aR} {i : Nat} (h : i < p.Persons.length) : pp p i = p.Persons[i] := by simp [pp, h]
theorem aIh (p : aR) : qF p = some (if jY p then 0 else 60) := by
 unfold qF
 rw [aPu]
 cases hs : nB p with
 | false => simp [jY, hs]
 | true =>
  obtain ⟨_, _, _, h8, h10, _⟩ := eG hs
  rw [cond_true, oE (fun k i => lD p.Persons p.Persons.length p k i) p.Persons.length (zH p) (some 60) (rR p) ?_ ?_ BIG (bY (by omega))]
  ·simp only [jY, hs, Bool.true_and]
   cases (List.range p.Persons.length).all (zH p) with
   | false => rfl
   | true =>
    simp only [cond_true, Bool.true_and, rR]
    rw [aBy p.Lots (by omega) _ (fun n => !wi n 0 999999) (fun x _ => by simp [sL, xD]), Option.bind_some]
    have : (p.Lots.any fun n => !wi n 0 999999) = !(p.Lots.all fun n => wi n 0 999999) := by rw [List.not_all_eq_any_not]
    rw [this]
    cases p.Lots.all fun n => wi n 0 999999 <;> rfl
  ·intro k i hi
   simp only [lD, Int.ofNat_lt, hi, decide_true, cond_true, bQ hi, Option.bind_some, aIq (Nat.le_of_lt hi), xD, dC, gH, bT (show i < 9223372036854775807 by omega)]
   rw [yX (p.Persons.take i) (by rw [List.length_take]; omega) (fun y12 => sK y12 p.Persons[i]) (fun y => decide (y.Player = p.Persons[i].Player)) (fun y _ => rfl), Option.bind_some]
   simp only [zH, jC hi]
   cases (p.Persons.take i).any fun y => decide (y.Player = p.Persons[i].Player) <;> cases wi p.Persons[i].Player 0 999 <;> cases wi p.Persons[i].Nation 0 9 <;> cases decide ((i : Int) < p.Seeds) <;> cases p.Persons[i].Qualified <;> rfl
  ·intro k
   simp [lD]
theorem aBu (p : aR) : lC p = some (if jY p then 0 else 60) := by
 unfold lC
 rw [aRp]
 cases hs : nB p with
 | false => simp [jY, hs]
 | true =>
  obtain ⟨_, _, _, h8, h10, _⟩ := eG hs
  rw [cond_true, oE (fun k i => dU p.Persons.length p k i) p.Persons.length (zH p) (some 60) (nC p) ?_ ?_ BIG (bY (by omega))]
  ·simp only [jY, hs, Bool.true_and]
   cases (List.range p.Persons.length).all (zH p) with
   | false => rfl
   | true =>
    simp only [cond_true, Bool.true_and, nC]
    rw [oE (fun k i => gS p k i) p.Lots.length (fun i => wi (p.Lots.getD i 0) 0 999999) (some 60) (some 0) ?_ ?_ BIG (bY (by omega))]
    ·have : ((List.range p.Lots.length).all fun i => wi (p.Lots.getD i 0) 0 999999) = p.Lots.all fun n => wi n 0 999999 := by
      rw [Bool.eq_iff_iff, iK, List.all_eq_true]
      constructor
      ·intro h x hx
       obtain ⟨i, hi, rfl⟩ := List.getElem_of_mem hx
       have := h i hi
       rwa [bC hi] at this
      ·intro h i hi
       rw [bC hi]
       exact h _ (List.getElem_mem hi)
     rw [this]
     cases p.Lots.all fun n => wi n 0 999999 <;> rfl
    ·intro k i hi
     simp only [gS, Int.ofNat_lt, hi, decide_true, cond_true, bQ hi, Option.bind_some, xT, bT (show i < 9223372036854775807 by omega), bC hi]
     cases wi p.Lots[i] 0 999999 <;> rfl
    ·intro k
     simp [gS, qM]
  ·intro k i hi
   simp only [dU, Int.ofNat_lt, hi, decide_true, cond_true, bQ hi, Option.bind_some, xT, dC, gH]
   rw [oE (fun k2 j => gR (dU p.Persons.length p k) p.Persons.length i p p.Persons[i] k2 j) i (fun j => !decide ((pp p j).Player = p.Persons[i].Player)) (some 60) (dU p.Persons.length p k ((i + 1 : Nat) : Int)) ?_ ?_ BIG (bY (by omega))]
   ·have e : ((List.range i).all fun j => !decide ((pp p j).Player = p.Persons[i].Player)) = !((p.Persons.take i).any fun y => decide (y.Player = p.Persons[i].Player)) := by
     rw [Bool.eq_iff_iff, iK, Bool.not_eq_true', Bool.eq_false_iff]
     constructor
     ·intro h h2
      obtain ⟨x, hx, hp⟩ := List.any_eq_true.1 h2
      obtain ⟨j, hj, rfl⟩ := List.getElem_of_mem hx
      rw [List.length_take] at hj
      have := h j (by omega)
      rw [jC (by omega)] at this
      rw [List.getElem_take] at hp
      rw [hp] at this
      cases this
     ·intro h j hj
      cases hd : decide ((pp p j).Player = p.Persons[i].Player) with
      | false => rfl
      | true =>
       refine absurd (List.any_eq_true.2 ⟨p.Persons[j], ?_, ?_⟩) h
       ·refine List.mem_of_getElem? (i := j) ?_
        rw [List.getElem?_take_of_lt hj, List.getElem?_eq_getElem (by omega)]
       ·rwa [jC (by omega)] at hd
    rw [e]
    simp only [zH, jC hi]
    cases (p.Persons.take i).any fun y => decide (y.Player = p.Persons[i].Player) <;> cases wi p.Persons[i].Player 0 999 <;> cases wi p.Persons[i].Nation 0 9 <;> cases decide ((i : Int) < p.Seeds) <;> cases p.Persons[i].Qualified <;> rfl
   ·intro k2 j hj
    simp only [gR, Int.ofNat_lt, hj, decide_true, cond_true, bQ (show j < p.Persons.length by omega), Option.bind_some, bT (show j < 9223372036854775807 by omega), jC (show j < p.Persons.length by omega)]
    cases decide (p.Persons[j].Player = p.Persons[i].Player) <;> rfl
   ·intro k2
    simp [gR, qL, qK, bT (show i < 9223372036854775807 by omega)]
  ·intro k
   simp [dU]
end Go.Am
end
section
namespace Go.Am
def aBa (p : aR) (x : Int) : Option Nat := p.Persons.findIdx? fun y => decide (y.Player = x)
theorem aDf {p : aR} {x : Int} {i : Nat} (h : aBa p x = some i) : i < p.Persons.length ∧ (pp p i).Player = x := by
 obtain ⟨h1, h2, _⟩ := List.findIdx?_eq_some_iff_getElem.1 h
 exact ⟨h1, by rw [jC h1]; simpa using h2⟩
theorem aOe {p : aR} {x : Int} (h : ∃ i, i < p.Persons.length ∧ (pp p i).Player = x) : ∃ i, aBa p x = some i := by
 obtain ⟨i, hi, he⟩ := h
 cases hn : aBa p x with
 | some j => exact ⟨j, rfl⟩
 | none =>
  have := List.findIdx?_eq_none_iff.1 hn p.Persons[i] (List.getElem_mem hi)
  rw [← jC hi] at this
  simp [he] at this
def xQ (p : aR) (x : Int) : Int := match aBa p x with | some i => (i : Int) | none => -1
theorem aIm (p : aR) (hl : p.Persons.length ≤ 9223372036854775807) (x : Int) : kP p x = some (xQ p x) := by
 unfold kP
 rw [eR (S := Unit) (fun k i _ => fY x p k i) p.Persons.length (fun i _ => some (match (p.Persons.drop i).findIdx? (fun y => decide (y.Player = x)) with | some j => ((i + j : Nat) : Int) | none => -1)) (fun _ _ => True) ?_ ?_ BIG () (bY hl) trivial]
 ·simp [xQ, aBa]
 ·intro k i _ hi _ ih
  have := ih () trivial
  simp only [fY, bQ hi, Option.bind_some, bT (show i < 9223372036854775807 by omega), Int.ofNat_lt, hi, decide_true, cond_true, this]
  rw [List.drop_eq_getElem_cons hi, List.findIdx?_cons]
  cases h : decide (p.Persons[i].Player = x) with
  | true => simp
  | false =>
   simp only [cond_false, Bool.false_eq_true, if_false]
   cases List.findIdx? (fun y => decide (y.Player = x)) (List.drop (i + 1) p.Persons) with
   | none => rfl
   | some j => simp; omega
 ·intro k _ _
  simp [fY, pJ]
theorem aHt (l : List Int) (hl : l.length ≤ 9223372036854775807) (n : Int) : mC l n = some (decide (n ∈ l)) := by
 unfold mC
 rw [eR (S := Unit) (fun k i _ => jK l n k i) l.length (fun i _ => some (decide (n ∈ l.drop i))) (fun _ _ => True) ?_ ?_ BIG () (bY hl) trivial]
 ·simp
 ·intro k i _ hi _ ih
  have := ih () trivial
  simp only [jK, bQ hi, Option.bind_some, bT (show i < 9223372036854775807 by omega), Int.ofNat_lt, hi, decide_true, cond_true, this]
  rw [List.drop_eq_getElem_cons hi]
  by_cases h : l[i] = n
  ·simp [h]
  ·have h' : ¬ n = l[i] := fun e => h e.symm
   simp only [h, decide_false, cond_false, List.mem_cons, h', false_or]
 ·intro k _ _
  simp [jK, sT]
def aKm (p : aR) (S : List Int) (i : Nat) : Bool := decide (S.getD i 0 = -1) || (aBa p (S.getD i 0)).isSome && !decide (S.getD i 0 ∈ S.take i)
def aAk (p : aR) (a b : Int) : Bool :=
 if a = -1 ∨ b = -1 then !decide (a = b) else
 (decide ((pp p (xQ p a).toNat).Nation = 0) || !decide ((pp p (xQ p a).toNat).Nation = (pp p (xQ p b).toNat).Nation)) && !((pp p (xQ p a).toNat).Qualified && (pp p (xQ p b).toNat).Qualified)
def IsP (p : aR) (x : Int) : Prop := x = -1 ∨ ∃ i, aBa p x = some i
theorem aMb {p : aR} {x : Int} {i : Nat} (h : aBa p x = some i) : idx p.Persons (xQ p x) = some (pp p (xQ p x).toNat) := by
 have e : xQ p x = (i : Int) := by unfold xQ; rw [h]
 rw [e, bQ (aDf h).1, Int.toNat_natCast, ← jC (aDf h).1]
theorem aHj {p : aR} (hp : p.Persons.length ≤ 40) {a b : Int} (ha : IsP p a) (hb : IsP p b) : iE p a b = some (aAk p a b) := by
 unfold iE
 simp only [gH, dC, Option.bind_some, aIm p (show p.Persons.length ≤ 9223372036854775807 by omega)]
 by_cases h : a = -1 ∨ b = -1
 ·have : (decide (a = -1) || decide (b = -1)) = true := by simpa using h
  rw [this]
  simp only [cond_true, aAk, if_pos h]
 ·have h0 : (decide (a = -1) || decide (b = -1)) = false := by simpa using h
  rw [h0]
  obtain ⟨i, hi⟩ := ha.resolve_left fun e => h (.inl e)
  obtain ⟨j, hj⟩ := hb.resolve_left fun e => h (.inr e)
  rw [cond_false, aMb hi, Option.bind_some, aMb hj, Option.bind_some]
  simp only [aAk, if_neg h]
theorem aMg (l : List Int) (hl : l.length ≤ 9223372036854775807) (v : Int) : nQ l v = some (match l.findIdx? (fun x => decide (x = v)) with | some i => (i : Int) | none => -1) := by
 unfold nQ
 rw [eR (S := Unit) (fun k i _ => iF l v k i) l.length (fun i _ => some (match (l.drop i).findIdx? (fun x => decide (x = v)) with | some j => ((i + j : Nat) : Int) | none => -1)) (fun _ _ => True) ?_ ?_ BIG () (bY hl) trivial]
 ·simp
 ·intro k i _ hi _ ih
  have := ih () trivial
  simp only [iF, bQ hi, Option.bind_some, bT (show i < 9223372036854775807 by omega), Int.ofNat_lt, hi, decide_true, cond_true, this]
  rw [List.drop_eq_getElem_cons hi, List.findIdx?_cons]
  by_cases h : l[i] = v
  ·simp [h]
  ·simp only [h, decide_false, cond_false, Bool.false_eq_true, if_false]
   cases List.findIdx? (fun x => decide (x = v)) (List.drop (i + 1) l) with
   | none => rfl
   | some j => simp; omega
 ·intro k _ _
  simp [iF, rD]
theorem aQs (p : aR) (hp : p.Persons.length ≤ 40) (S : List Int) (hS : S.length ≤ 40) : mG p S = some ((List.range p.Persons.length).all fun i => decide ((pp p i).Player ∈ S)) := by
 unfold mG
 rw [oE (fun k i => fZ S p k i) p.Persons.length (fun i => decide ((pp p i).Player ∈ S)) (some false) (some true) ?_ ?_ BIG (bY (by omega))]
 ·cases (List.range p.Persons.length).all fun i => decide ((pp p i).Player ∈ S) <;> rfl
 ·intro k i hi
  simp only [fZ, Int.ofNat_lt, hi, decide_true, cond_true, bQ hi, Option.bind_some, bT (show i < 9223372036854775807 by omega), aHt S (show S.length ≤ 9223372036854775807 by omega), jC hi]
  cases decide (p.Persons[i].Player ∈ S) <;> rfl
 ·intro k
  simp [fZ, pL]
theorem aOc {T : Type} (F : Nat → Int → Option T) (n : Nat) (hstep : ∀ k i, i < n → (∀ b, F k ((i + 1 : Nat) : Int) = some b → ∃ b, F (k + 1) (i : Int) = some b)) (hstop : ∀ k, ∃ b, F (k + 1) (n : Int) = some b) : ∀ k, n < k → ∃ b, F k 0 = some b := by
 intro k hk
 have := iV (S := Unit) (fun k i _ => F k i) n (fun o => ∃ b, o = some b) (fun i _ => i ≤ n) (fun k i _ hi _ ih => by
  obtain ⟨b, hb⟩ := ih () (by omega)
  exact hstep k i hi b hb) (fun k i _ h1 h2 => by
  have : i = n := by omega
  subst this
  exact hstop k) k 0 () (by omega) (by omega)
 simpa using this
theorem aOp {p : aR} (hp : jY p = true) {S : List Int} (hl : (S.length : Int) = p.Size) (hS : ∀ x ∈ S, IsP p x) :
  ∃ b, mT p S = some b ∧ (b = true → ∀ j (_ : 2 * j + 1 < S.length), aAk p (S.getD (2 * j) 0) (S.getD (2 * j + 1) 0) = true) := by
 have hsh : nB p = true := by simp only [jY, Bool.and_eq_true] at hp; exact hp.1
 obtain ⟨hsz, hn2, hns, h8, _, hs0, hsn, hs2, _⟩ := eG hsh
 have hS8 : S.length ≤ 8 := by omega
 unfold mT
 rw [aQs p (by omega) S (by omega), Option.bind_some]
 cases hf : (List.range p.Persons.length).all fun i => decide ((pp p i).Player ∈ S) with
 | false => exact ⟨false, rfl, fun h => by cases h⟩
 | true =>
  have hfull := fun i hi => of_decide_eq_true (iK.1 hf i hi)
  rw [Bool.not_true, cond_false]
  have hK : ∃ b, kV S p = some b := by
   unfold kV
   have h0 : p.Seeds = ((p.Seeds.toNat : Nat) : Int) := by omega
   refine aOc (fun k i => gU S (w64 (p.Size - (p.Persons.length : Int))) p k i) p.Seeds.toNat (fun k i hi b hb => ?_) (fun k => ?_) BIG (bY (by omega))
   ·have hin : i < p.Persons.length := by omega
    have hlt : decide ((i : Int) < p.Seeds) = true := decide_eq_true (by omega)
    have hm := hfull i hin
    rw [jC hin] at hm
    obtain ⟨r, hr⟩ : ∃ r, S.findIdx? (fun x => decide (x = p.Persons[i].Player)) = some r := by
     cases hx : S.findIdx? (fun x => decide (x = p.Persons[i].Player)) with
     | some r => exact ⟨r, rfl⟩
     | none =>
      have := List.findIdx?_eq_none_iff.1 hx _ hm
      simp at this
    obtain ⟨hr1, _, _⟩ := List.findIdx?_eq_some_iff_getElem.1 hr
    have hx := aTy ⟨r, by omega⟩
    simp only at hx
    have hj : (if r % 2 = 0 then r + 1 else r - 1) < S.length := by split <;> omega
    simp only [gU, hlt, cond_true, bQ hin, Option.bind_some, aMg S (show S.length ≤ 9223372036854775807 by omega), hr, dC, gH, pK, hx, bQ hj, bT (show i < 9223372036854775807 by omega)]
    cases (decide ((i : Int) = 0) && !decide ((r : Int) = 0) || decide ((i : Int) = 1) && !decide ((r : Int) = w64 (p.Size - 1)) || decide (2 ≤ (i : Int)) && !decide ((r : Int) = w64 (p.Size.tdiv 4)) && !decide ((r : Int) = w64 (w64 (p.Size - 1) - w64 (p.Size.tdiv 4)))) with
    | true => exact ⟨_, rfl⟩
    | false =>
     rw [cond_false]
     cases (!decide (decide ((i : Int) < w64 (p.Size - ↑p.Persons.length)) = decide (S[if r % 2 = 0 then r + 1 else r - 1] = -1))) with
     | true => exact ⟨_, rfl⟩
     | false => exact ⟨b, hb⟩
   ·have hlt : decide (((p.Seeds.toNat : Nat) : Int) < p.Seeds) = false := decide_eq_false (by omega)
    exact ⟨true, by simp only [gU, hlt, cond_false, qN]⟩
  obtain ⟨b, hb⟩ := hK
  have main := oE (fun k i => gT S p k (2 * i)) (S.length / 2) (fun j => aAk p (S.getD (2 * j) 0) (S.getD (2 * j + 1) 0)) (some false) (kV S p) ?_ ?_ BIG (bY (by omega))
  ·simp only [Int.mul_zero] at main
   rw [main, hb]
   cases ha : (List.range (S.length / 2)).all fun j => aAk p (S.getD (2 * j) 0) (S.getD (2 * j + 1) 0) with
   | false => exact ⟨false, rfl, fun h => by cases h⟩
   | true => exact ⟨b, rfl, fun _ j hj => iK.1 ha j (by omega)⟩
  ·intro k j hj
   have h1 : 2 * j < S.length := by omega
   have h2 : 2 * j + 1 < S.length := by omega
   have hlt : decide (2 * (j : Int) < p.Size) = true := decide_eq_true (by omega)
   have e1 : w64 (2 * (j : Int) + 1) = ((2 * j + 1 : Nat) : Int) := by rw [dS (by omega) (by omega)]; omega
   have e2 : w64 (2 * (j : Int) + 2) = 2 * ((j + 1 : Nat) : Int) := by rw [dS (by omega) (by omega)]; omega
   have e0 : 2 * (j : Int) = ((2 * j : Nat) : Int) := by omega
   simp only [gT, hlt, cond_true, e1, e2]
   rw [e0, bQ h1, Option.bind_some, bQ h2, Option.bind_some, aHj (by omega) (hS _ (List.getElem_mem h1)) (hS _ (List.getElem_mem h2)), Option.bind_some, bC h1, bC h2]
   cases aAk p S[2 * j] S[2 * j + 1] <;> rfl
  ·intro k
   have hlt : decide (2 * ((S.length / 2 : Nat) : Int) < p.Size) = false := decide_eq_false (by omega)
   simp only [gT, hlt, cond_false]
end Go.Am
end
section
namespace Go.Am
theorem bW {α β : Type} {A : Option α} {x : α} (h : A = some x) (f : α → Option β) : A.bind f = f x := by subst h; rfl
theorem aKp {S : List Int} (h : S.length ≤ 1000) : gE S = some S := by
 unfold gE
 rw [eB (by simp; omega)]
 simp
end Go.Am
end
section
namespace Go.Am
def wP (p : aR) (slot : Nat) (n : Int) : Bool :=
 if slot = 0 ∧ 0 < p.Seeds then decide (n = 0) else if (slot : Int) = p.Size - 1 ∧ 1 < p.Seeds then decide (n = 1)
 else decide (n = -1) || decide (p.Seeds ≤ n) || (decide (1 < n) && (decide ((slot : Int) = p.Size / 4) || decide ((slot : Int) = p.Size - 1 - p.Size / 4)))
def pn (p : aR) (n : Int) : aS := pp p n.toNat
def sE (p : aR) (a b : Int) : Bool :=
 if a = -1 ∨ b = -1 then !decide (a = b) else (!decide ((pn p a).Nation = (pn p b).Nation) || decide ((pn p a).Nation = 0)) && !((pn p a).Qualified && (pn p b).Qualified)
def aCj (p : aR) (n other : Int) : Bool := decide (n = -1) || decide (p.Seeds ≤ n) || decide (decide (other = -1) = decide (n < p.Size - p.Persons.length))
def sM (p : aR) (a b : Int) : Bool :=
 !(decide (p.Size - p.Persons.length ≤ p.Seeds) && (decide (a = -1) && decide (p.Seeds ≤ b) || decide (b = -1) && decide (p.Seeds ≤ a))) && (sE p a b && aCj p a b && aCj p b a)
def Num (p : aR) (n : Int) : Prop := n = -1 ∨ 0 ≤ n ∧ n < p.Persons.length
theorem Num.idx {p : aR} {n : Int} (h : Num p n) (hn : n ≠ -1) : idx p.Persons n = some (pn p n) := by
 obtain ⟨h1, h2⟩ := h.resolve_left hn
 rw [aIk h1 (by omega), pn, jC (by omega)]
section
variable {p : aR} (hp : nB p = true)
include hp
theorem aWq : w64 (p.Size.tdiv 4) = p.Size / 4 ∧ w64 (p.Size - 1) = p.Size - 1 ∧ w64 (w64 (p.Size - 1) - w64 (p.Size.tdiv 4)) = p.Size - 1 - p.Size / 4 := by
 rcases (eG hp).1 with h | h <;> rw [h] <;> decide +kernel
theorem aVn (slot : Nat) (n : Int) : tY p slot n = some (wP p slot n) := by
 obtain ⟨e1, e2, e3⟩ := aWq hp
 unfold tY
 rw [e3, e1, e2]
 simp only [dC, Option.bind_some, gH]
 rw [nK _ (by simp)]
 simp only [Option.bind_some, dC, List.mem_cons, List.not_mem_nil, or_false]
 unfold wP
 by_cases h1 : slot = 0 ∧ 0 < p.Seeds
 ·have : (decide ((slot : Int) = 0) && decide (0 < p.Seeds)) = true := by rw [decide_eq_true (by omega : (slot : Int) = 0), decide_eq_true h1.2]; rfl
  rw [if_pos h1, this]
  rfl
 ·have : (decide ((slot : Int) = 0) && decide (0 < p.Seeds)) = false := by
   rw [Bool.eq_false_iff]
   intro h
   simp only [Bool.and_eq_true, decide_eq_true_eq] at h
   exact h1 ⟨by omega, h.2⟩
  rw [if_neg h1, this, cond_false]
  by_cases h2 : (slot : Int) = p.Size - 1 ∧ 1 < p.Seeds
  ·have : (decide ((slot : Int) = p.Size - 1) && decide (1 < p.Seeds)) = true := by simpa using h2
   rw [if_pos h2, this]
   rfl
  ·have : (decide ((slot : Int) = p.Size - 1) && decide (1 < p.Seeds)) = false := by
    rw [Bool.eq_false_iff]
    intro h
    exact h2 (by simpa using h)
   rw [if_neg h2, this, cond_false]
   have e : decide ((slot : Int) = p.Size / 4 ∨ (slot : Int) = p.Size - 1 - p.Size / 4) = (decide ((slot : Int) = p.Size / 4) || decide ((slot : Int) = p.Size - 1 - p.Size / 4)) := by
    by_cases a : (slot : Int) = p.Size / 4 <;> by_cases b : (slot : Int) = p.Size - 1 - p.Size / 4 <;> simp [a, b]
   rw [e]
   cases decide (n = -1) || decide (p.Seeds ≤ n) <;> rfl
omit hp in
theorem aSg {a b : Int} (ha : Num p a) (hb : Num p b) : sI p a b = some (sE p a b) := by
 unfold sI
 simp only [gH, dC, Option.bind_some]
 by_cases h : a = -1 ∨ b = -1
 ·have : (decide (a = -1) || decide (b = -1)) = true := by simpa using h
  rw [this, sE, if_pos h]
  rfl
 ·have h0 : (decide (a = -1) || decide (b = -1)) = false := by simpa using h
  rw [h0, cond_false, ha.idx (fun e => h (.inl e)), Option.bind_some, hb.idx (fun e => h (.inr e)), Option.bind_some, sE, if_neg h]
theorem aVf {a b : Int} (ha : Num p a) (hb : Num p b) : qG p a b = some (sM p a b) := by
 have hn := eG hp
 unfold qG
 rw [dS (n := p.Size - p.Persons.length) (by omega) (by omega)]
 have e1 : ∀ x y : Int, nH x y p (p.Size - p.Persons.length) = some (aCj p x y) := fun x y => by
  unfold nH aCj
  simp only [gH, Option.bind_some]
 simp only [dC, gH, Option.bind_some, aSg ha hb, e1]
 unfold sM
 cases (decide (p.Size - (p.Persons.length : Int) ≤ p.Seeds) && (decide (a = -1) && decide (p.Seeds ≤ b) || decide (b = -1) && decide (p.Seeds ≤ a))) <;> cases sE p a b <;> cases aCj p a b <;> cases aCj p b a <;> rfl
end
def okN (p : aR) (l : List Int) (byes n : Int) : Bool :=
 !((decide ((if n = -1 then byes - 1 else byes) < 0) || (!decide (n = -1) && decide (n ∈ l))) || !wP p l.length n || (decide (l.length % 2 = 1) && !sM p (l.getD (l.length - 1) 0) n))
def oL (byes n : Int) : Int := if n = -1 then byes - 1 else byes
def iQ (p : aR) (ranks : List Int) : Nat → List Int → Int → List (List Int)
 | 0, l, _ => [l]
 | k + 1, l, byes => ranks.flatMap fun n => if okN p l byes n = true then iQ p ranks k (l ++ [n]) (oL byes n) else []
def mJ {S : Type} (y : S → List Int → Option (S × Bool)) : List (List Int) → S → Option (S × Bool)
 | [], s => some (s, true)
 | x :: xs, s => (y s x).bind fun r => bif r.2 then mJ y xs r.1 else some (r.1, false)
theorem aCq {S : Type} (y : S → List Int → Option (S × Bool)) : ∀ (xs ys : List (List Int)) (s : S), mJ y (xs ++ ys) s = (mJ y xs s).bind fun r => bif r.2 then mJ y ys r.1 else some (r.1, false)
 | [], _, _ => rfl
 | x :: xs, ys, s => by
  simp only [List.cons_append, mJ]
  cases y s x with
  | none => rfl
  | some r =>
   simp only [Option.bind_some]
   cases r.2 with
   | true => simpa using aCq y xs ys r.1
   | false => rfl
theorem aQr {S : Type} (y : S → List Int → Option (S × Bool)) (x : List Int) (s : S) : mJ y [x] s = y s x := by
 simp only [mJ]
 cases y s x with
 | none => rfl
 | some r => obtain ⟨a, b⟩ := r; cases b <;> rfl
theorem aTg {S : Type} {A : Option (List Int)} {B : Option (S × Bool)} {c : Bool} (y : S → List Int → Option (S × Bool)) {l : List Int} (s : S) (hc : c = true) (hA : A = some l) :
  (bif c then (A.bind fun r1 => (y s r1).bind fun y3 => some y3) else B) = y s l := by
 subst hc; subst hA
 simp only [cond_true, Option.bind_some]
 cases y s l <;> rfl
theorem aRc {S : Type} {A B : Option (S × Bool)} {c : Bool} (hc : c = false) : (bif c then A else B) = B := by subst hc; rfl
section
variable {p : aR} (hp : nB p = true) {ranks : List Int} (hr : ∀ x ∈ ranks, Num p x) (hrl : ranks.length ≤ 100)
include hp hr hrl
theorem aUz {S : Type} (y : S → List Int → Option (S × Bool)) : ∀ (k : Nat) (fuel : Nat) (l : List Int) (byes : Int) (s : S), k < fuel → ((l.length + k : Nat) : Int) = p.Size → (∀ x ∈ l, Num p x) → -1 ≤ byes → byes ≤ 100 →
  fG y fuel l byes p ranks s = mJ y (iQ p ranks k l byes) s := by
 have hsz := eG hp
 intro k
 induction k with
 | zero =>
  intro fuel l byes s hf hl hn _ _
  obtain ⟨fuel, rfl⟩ : ∃ q, fuel = q + 1 := ⟨fuel - 1, by omega⟩
  have hc : decide ((l.length : Int) = p.Size) = true := decide_eq_true (by omega)
  rw [fG, aTg y s hc (aKp (show l.length ≤ 1000 by omega)), iQ, aQr]
 | succ k ih =>
  intro fuel l byes s hf hl hn hb0 hb1
  obtain ⟨fuel, rfl⟩ : ∃ q, fuel = q + 1 := ⟨fuel - 1, by omega⟩
  have hc : decide ((l.length : Int) = p.Size) = false := decide_eq_false (by omega)
  rw [fG, aRc hc, iQ]
  have main := eR (S := S) (fun q i s => fS y (fG y fuel) byes p l.length ranks ranks.length l p ranks q i s) ranks.length (fun i s => mJ y ((ranks.drop i).flatMap fun n => if okN p l byes n = true then iQ p ranks k (l ++ [n]) (oL byes n) else []) s) (fun _ _ => True) ?_ ?_ BIG s (bY (by omega)) trivial
  ·rw [List.drop_zero] at main
   exact main
  ·intro q i s hi _ ihq
   have hx := hr _ (List.getElem_mem hi)
   have hodd : decide (((l.length : Int).tmod 2) = 1) = decide (l.length % 2 = 1) := by
    rw [Int.tmod_eq_emod_of_nonneg (Int.natCast_nonneg _)]
    by_cases h : l.length % 2 = 1
    ·rw [decide_eq_true h, decide_eq_true (by omega)]
    ·rw [decide_eq_false h, decide_eq_false (by omega)]
   have hj : ((bif decide (ranks[i] = (-1)) then (some (w64 (byes - 1))) else (some byes)) : Option Int) = some (oL byes ranks[i]) := by
    unfold oL
    by_cases h : ranks[i] = -1
    ·rw [decide_eq_true h, if_pos h, dS (n := byes - 1) (by omega) (by omega)]; rfl
    ·rw [decide_eq_false h, if_neg h]; rfl
   have hm : ((bif decide (((l.length : Int).tmod 2) = 1) then ((idx l (w64 ((l.length : Int) - 1))).bind fun x13 => (qG p x13 ranks[i]).bind fun r14 => some (!r14)) else (some false)) : Option Bool) = some (decide (l.length % 2 = 1) && !sM p (l.getD (l.length - 1) 0) ranks[i]) := by
    rw [hodd]
    by_cases h : l.length % 2 = 1
    ·have h1 : l.length - 1 < l.length := by omega
     rw [decide_eq_true h, cond_true, yA (show 0 < l.length by omega) (by omega), bW (bQ h1), bW (aVf hp (hn _ (List.getElem_mem h1)) hx), bC h1]
     rfl
    ·rw [decide_eq_false h]; rfl
   have hcont : dV l ranks[i] = some (decide (ranks[i] ∈ l)) := nK l (by omega) _
   simp only [fS, Int.ofNat_lt, hi, decide_true, cond_true, bT (show i < 9223372036854775807 by omega)]
   rw [bW (bQ hi), bW hj]
   simp only [hcont, Option.bind_some, dC, gH, aVn hp, hm]
   have e : (((decide (oL byes ranks[i] < 0) || (!decide (ranks[i] = -1) && decide (ranks[i] ∈ l))) || !wP p l.length ranks[i]) || (decide (l.length % 2 = 1) && !sM p (l.getD (l.length - 1) 0) ranks[i])) = !okN p l byes ranks[i] := by
    unfold okN oL
    rw [Bool.not_not]
   rw [e, List.drop_eq_getElem_cons hi, List.flatMap_cons]
   cases ho : okN p l byes ranks[i] with
   | false =>
    rw [Bool.not_false, cond_true, if_neg (by simp), List.nil_append]
    exact ihq s trivial
   | true =>
    have hlen : ((l ++ [ranks[i]]).length + k : Nat) = p.Size := by rw [List.length_append, List.length_singleton]; omega
    have hv : aDw p.Size l [ranks[i]] = some (l ++ [ranks[i]]) := by
     unfold aDw
     rw [if_pos (by rw [List.length_singleton]; omega)]
    have hleft : -1 ≤ oL byes ranks[i] ∧ oL byes ranks[i] ≤ 100 := by
     unfold okN at ho
     simp only [Bool.not_eq_true', Bool.or_eq_false_iff, decide_eq_false_iff_not] at ho
     have := ho.1.1.1
     unfold oL
     split at this <;> split <;> omega
    rw [Bool.not_true, cond_false, bW hv, if_pos rfl, aCq, ih fuel (l ++ [ranks[i]]) (oL byes ranks[i]) s (by omega) hlen (fun x h => by
     rcases List.mem_append.1 h with h | h
     ·exact hn x h
     ·rw [List.mem_singleton.1 h]; exact hx) hleft.1 hleft.2]
    cases mJ y (iQ p ranks k (l ++ [ranks[i]]) (oL byes ranks[i])) s with
    | none => rfl
    | some r =>
     simp only [Option.bind_some]
     cases r.2 with
     | true => exact ihq r.1 trivial
     | false => rfl
  ·intro q s _
   simp only [fS, Int.lt_irrefl, decide_false, cond_false, rH, List.drop_length, List.flatMap_nil, mJ]
theorem aIz {S : Type} (y : S → List Int → Option (S × Bool)) (s : S) : nG y p ranks s = mJ y (iQ p ranks p.Size.toNat [] (p.Size - p.Persons.length)) s := by
 have hsz := eG hp
 unfold nG
 have hm : mk0 8 p.Size = some p.Size.toNat := by
  unfold mk0
  rw [if_pos ⟨by omega, by omega⟩]
 rw [bW hm, dS (n := p.Size - p.Persons.length) (by omega) (by omega)]
 have := aUz hp hr hrl y p.Size.toNat BIG [] (p.Size - p.Persons.length) s (bY (by omega)) (by simp; omega) (by simp) (by omega) (by omega)
 unfold tX
 rw [this]
 cases mJ y (iQ p ranks p.Size.toNat [] (p.Size - p.Persons.length)) s <;> rfl
end
end Go.Am
end
section
namespace Go.Am
theorem xS {p : aR} (hp : jY p = true) {i : Nat} (hi : i < p.Persons.length) : 0 ≤ (pp p i).Player ∧ (pp p i).Player ≤ 999 := by
 simp only [jY, Bool.and_eq_true] at hp
 have := iK.1 hp.2.1 i hi
 simp only [zH, Bool.and_eq_true, fO] at this
 exact this.1.1.1
theorem aMd {p : aR} (hp : jY p = true) {i j : Nat} (hi : i < p.Persons.length) (hj : j < p.Persons.length) (h : (pp p i).Player = (pp p j).Player) : i = j := by
 simp only [jY, Bool.and_eq_true] at hp
 have key : ∀ a b : Nat, a < b → b < p.Persons.length → (pp p a).Player ≠ (pp p b).Player := by
  intro a b hab hb he
  have := iK.1 hp.2.1 b hb
  simp only [zH, Bool.and_eq_true, Bool.not_eq_true'] at this
  have h2 := this.2
  rw [Bool.eq_false_iff] at h2
  refine h2 (List.any_eq_true.2 ⟨p.Persons[a]'(by omega), ?_, ?_⟩)
  ·refine List.mem_of_getElem? (i := a) ?_
   rw [List.getElem?_take_of_lt hab, List.getElem?_eq_getElem (by omega)]
  ·rw [← jC (by omega)]
   exact decide_eq_true he
 rcases Nat.lt_trichotomy i j with hl | rfl | hl
 ·exact absurd h (key i j hl hj)
 ·rfl
 ·exact absurd h.symm (key j i hl hi)
section
variable {p : aR} (hp : jY p = true)
include hp
theorem shp : nB p = true := by simp only [jY, Bool.and_eq_true] at hp; exact hp.1
theorem rS : ∃ ranks, jA p = some ranks ∧ (∀ x ∈ ranks, Num p x) ∧ ranks.length ≤ 9 := by
 have hsz := eG (shp hp)
 have h1 : jA p = lE p ((List.range p.Persons.length).map Int.ofNat) := by
  unfold jA
  rw [eR (S := List Int) (fun k i o => lF p.Persons.length p k i o) p.Persons.length (fun _ _ => lE p ((List.range p.Persons.length).map Int.ofNat)) (fun i o => o = (List.range i).map Int.ofNat) ?_ ?_ BIG [] (bY (by omega)) rfl]
  ·intro k i o hi ho ih
   subst ho
   simp only [lF, Int.ofNat_lt, hi, decide_true, cond_true, bT (show i < 9223372036854775807 by omega)]
   rw [bW (eB (by simp; omega))]
   refine ih _ ?_
   rw [List.range_succ, List.map_append]
   rfl
  ·intro k o ho
   subst ho
   simp only [lF, Int.lt_irrefl, decide_false, cond_false]
 have hm : ∀ x ∈ (List.range p.Persons.length).map Int.ofNat, ∃ i, i < p.Persons.length ∧ x = (i : Int) := by
  intro x hx
  obtain ⟨i, hi, rfl⟩ := List.mem_map.1 hx
  exact ⟨i, by simpa using hi, rfl⟩
 have hc : ∀ i j : Nat, i < p.Persons.length → j < p.Persons.length → fH (i : Int) (j : Int) p = some ((pp p i).Player - (pp p j).Player) := by
  intro i j hi hj
  have a := xS hp hi
  have b := xS hp hj
  unfold fH
  rw [bW (bQ hi), bW (bQ hj), ← jC hi, ← jC hj, dS (by omega) (by omega)]
 have hlt : ∀ i j : Nat, i < p.Persons.length → j < p.Persons.length → ltO (fun y5 y6 => fH y5 y6 p) (i : Int) (j : Int) = decide ((pp p i).Player < (pp p j).Player) := by
  intro i j hi hj
  unfold ltO
  simp only [hc i j hi hj]
  by_cases h : (pp p i).Player < (pp p j).Player
  ·rw [decide_eq_true h]; exact decide_eq_true (by omega)
  ·rw [decide_eq_false h]; exact decide_eq_false (by omega)
 have hok : aEd ((List.range p.Persons.length).map Int.ofNat) (fun y5 y6 => fH y5 y6 p) = true := by
  unfold aEd
  simp only [List.all_eq_true, Bool.and_eq_true, Bool.or_eq_true, Bool.not_eq_true', decide_eq_true_eq]
  intro x hx
  obtain ⟨i, hi, rfl⟩ := hm x hx
  refine ⟨by rw [hlt i i hi hi]; exact decide_eq_false (by omega), fun y hy => ?_⟩
  obtain ⟨j, hj, rfl⟩ := hm y hy
  refine ⟨⟨by rw [hc i j hi hj]; rfl, ?_⟩, fun z hz => ?_⟩
  ·rw [hlt i j hi hj, hlt j i hj hi, decide_eq_true_eq, decide_eq_true_eq]
   rcases Int.lt_trichotomy (pp p i).Player (pp p j).Player with h | h | h
   ·exact .inl (.inr h)
   ·exact .inl (.inl (by rw [aMd hp hi hj h]))
   ·exact .inr h
  ·obtain ⟨q, hq, rfl⟩ := hm z hz
   rw [hlt i j hi hj, hlt j q hj hq, hlt i q hi hq]
   constructor
   ·by_cases h1 : (pp p i).Player < (pp p j).Player
    ·by_cases h2 : (pp p j).Player < (pp p q).Player
     ·exact .inr (decide_eq_true (by omega))
     ·exact .inl (by simp [h2])
    ·exact .inl (by simp [h1])
   ·by_cases h1 : (pp p i).Player < (pp p j).Player
    ·exact .inl (.inl (decide_eq_true h1))
    ·by_cases h2 : (pp p j).Player < (pp p q).Player
     ·exact .inl (.inr (decide_eq_true h2))
     ·exact .inr (decide_eq_false (by omega))
 have hperm : (jD (fun y5 y6 => fH y5 y6 p) ((List.range p.Persons.length).map Int.ofNat)).Perm ((List.range p.Persons.length).map Int.ofNat) := List.mergeSort_perm _ _
 refine ⟨-1 :: jD (fun y5 y6 => fH y5 y6 p) ((List.range p.Persons.length).map Int.ofNat), ?_, fun x hx => ?_, ?_⟩
 ·rw [h1, lE, nD, aIa, if_pos ⟨hok, by simp; omega⟩, Option.bind_some, bW (eB (by rw [hperm.length_eq]; simp; omega))]
  rfl
 ·rcases List.mem_cons.1 hx with rfl | hx
  ·exact .inl rfl
  ·obtain ⟨i, hi, rfl⟩ := hm x (hperm.mem_iff.1 hx)
   exact .inr ⟨by omega, by omega⟩
 ·rw [List.length_cons, hperm.length_eq]; simp; omega
end
theorem aFd (p : aR) (ranks : List Int) (h : ranks.length ≤ 9) : ∀ (k : Nat) (l : List Int) (b : Int), (iQ p ranks k l b).length ≤ 9 ^ k
 | 0, _, _ => by simp [iQ]
 | k + 1, l, b => by
  have key : ∀ rs : List Int, (rs.flatMap fun n => if okN p l b n = true then iQ p ranks k (l ++ [n]) (oL b n) else []).length ≤ rs.length * 9 ^ k := by
   intro rs
   induction rs with
   | nil => simp
   | cons n rs ih =>
    rw [List.flatMap_cons, List.length_append, List.length_cons, Nat.succ_mul]
    have : (if okN p l b n = true then iQ p ranks k (l ++ [n]) (oL b n) else []).length ≤ 9 ^ k := by
     split
     ·exact aFd p ranks h k _ _
     ·simp
    omega
  have h1 := key ranks
  have h2 : ranks.length * 9 ^ k ≤ 9 * 9 ^ k := Nat.mul_le_mul_right _ h
  rw [iQ, Nat.pow_succ, Nat.mul_comm (9 ^ k) 9]
  omega
theorem aHd : ∀ (xs : List (List Int)) (s : Nat), s + xs.length ≤ 9223372036854775807 → mJ (fun (s5 : Int) (_ : List Int) => some (w64 (s5 + 1), true)) xs (s : Int) = some (((s + xs.length : Nat) : Int), true)
 | [], _, _ => rfl
 | x :: xs, s, h => by
  rw [List.length_cons] at h
  simp only [mJ, Option.bind_some, cond_true]
  rw [bT (show s < 9223372036854775807 by omega), aHd xs (s + 1) (by omega), List.length_cons]
  congr 3
  omega
def plF (p : aR) (n : Int) : Int := if n = -1 then -1 else (pn p n).Player
theorem aTr {p : aR} {l : List Int} (hl : l.length ≤ 100) (hn : ∀ x ∈ l, Num p x) : oD p l = some (l.map (plF p)) := by
 unfold oD
 rw [eR (S := List Int) (fun k i o => jV l l.length p k i o) l.length (fun _ _ => some (l.map (plF p))) (fun i o => o = (l.take i).map (plF p)) ?_ ?_ BIG [] (bY (by omega)) rfl]
 ·intro k i o hi ho ih
  subst ho
  have ht : (l.take i).map (plF p) ++ [plF p l[i]] = (l.take (i + 1)).map (plF p) := by rw [List.take_succ_eq_append_getElem hi, List.map_append]; rfl
  have hlen : (((l.take i).map (plF p)).length + 1) * 8 ≤ 140737488355328 := by rw [List.length_map, List.length_take]; omega
  simp only [jV, Int.ofNat_lt, hi, decide_true, cond_true, bT (show i < 9223372036854775807 by omega)]
  rw [bW (bQ hi)]
  by_cases hb : l[i] = -1
  ·have hc : plF p l[i] = -1 := by rw [plF, if_pos hb]
   rw [hc] at ht
   rw [decide_eq_true hb, cond_true, bW (eB (by simpa using hlen))]
   exact ih _ ht
  ·have hc : plF p l[i] = (pn p l[i]).Player := by rw [plF, if_neg hb]
   rw [hc] at ht
   rw [decide_eq_false hb, cond_false, bW ((hn _ (List.getElem_mem hi)).idx hb), bW (eB (by simpa using hlen))]
   exact ih _ ht
 ·intro k o ho
  subst ho
  simp [jV, uV]
theorem aJi {p : aR} : ∀ (xs : List (List Int)) (n : Nat) (o : List Int × Bool), (∀ l ∈ xs, l.length ≤ 100 ∧ ∀ x ∈ l, Num p x) → n ≤ 9223372036854775807 →
  ∃ q, mJ (fun (s6 : Int × List Int × Bool) (x7 : List Int) => bif decide (s6.1 = 0) then ((oD p x7).bind fun r8 => some ((s6.1, r8, true), false)) else (some ((w64 (s6.1 - 1), s6.2.1, s6.2.2), true))) xs ((n : Int), o) =
   some (match xs[n]? with | some l => ((0, l.map (plF p), true), false) | none => ((q, o), true))
 | [], n, o, _, _ => ⟨n, by simp [mJ]⟩
 | x :: xs, 0, o, h, _ => ⟨0, by
  obtain ⟨h1, h2⟩ := h x (by simp)
  simp only [mJ, Int.natCast_zero, decide_true, cond_true]
  rw [bW (aTr h1 h2)]
  rfl⟩
 | x :: xs, n + 1, o, h, hn => by
  obtain ⟨q, hq⟩ := aJi (p := p) xs n o (fun l hl => h l (List.mem_cons_of_mem _ hl)) (by omega)
  have hz : decide (((n + 1 : Nat) : Int) = 0) = false := decide_eq_false (by omega)
  refine ⟨q, ?_⟩
  simp only [mJ, hz, cond_false, Option.bind_some, cond_true]
  rw [yA (show 0 < n + 1 by omega) hn]
  simpa using hq
end Go.Am
end
section
namespace Go.Am
def oB (p : aR) : List (List Int) := match jA p with
 | some ranks => iQ p ranks p.Size.toNat [] (p.Size - p.Persons.length)
 | none => []
structure PreL (p : aR) (l : List Int) (b : Int) : Prop where
 num : ∀ x ∈ l, Num p x
 nd : ∀ i j, i < j → j < l.length → l.getD i 0 = l.getD j 0 → l.getD j 0 = -1
 seat : ∀ i, i < l.length → wP p i (l.getD i 0) = true
 pair : ∀ j, 2 * j + 1 < l.length → sM p (l.getD (2 * j) 0) (l.getD (2 * j + 1) 0) = true
 byes : (l.count (-1) : Int) + b = p.Size - p.Persons.length
 left : 0 ≤ b
theorem lQ {l : List Int} {n : Int} {i : Nat} (h : i < l.length) : (l ++ [n]).getD i 0 = l.getD i 0 := by
 rw [List.getD, List.getD, List.getElem?_append_left h]
theorem tZ (l : List Int) (n : Int) : (l ++ [n]).getD l.length 0 = n := by
 rw [List.getD, List.getElem?_append_right (Nat.le_refl _), Nat.sub_self]; rfl
theorem PreL.next {p : aR} {l : List Int} {b n : Int} (h : PreL p l b) (hn : Num p n) (hok : okN p l b n = true) : PreL p (l ++ [n]) (oL b n) := by
 unfold okN at hok
 simp only [Bool.not_eq_true', Bool.or_eq_false_iff, decide_eq_false_iff_not, Bool.and_eq_false_iff, Bool.not_eq_false'] at hok
 obtain ⟨⟨⟨h1, h2⟩, h3⟩, h4⟩ := hok
 refine ⟨fun x hx => ?_, fun i j hij hj he => ?_, fun i hi => ?_, fun j hj => ?_, ?_, ?_⟩
 ·rcases List.mem_append.1 hx with hx | hx
  ·exact h.num x hx
  ·rw [List.mem_singleton.1 hx]; exact hn
 ·rw [List.length_append, List.length_singleton] at hj
  rcases Nat.lt_or_ge j l.length with hjl | hjl
  ·rw [lQ (by omega), lQ hjl] at he
   rw [lQ hjl]
   exact h.nd i j hij hjl he
  ·have : j = l.length := by omega
   subst this
   rw [tZ, lQ hij, bC hij] at he
   rw [tZ]
   rcases h2 with h2 | h2
   ·exact of_decide_eq_true h2
   ·exact absurd (he ▸ List.getElem_mem hij) h2
 ·rw [List.length_append, List.length_singleton] at hi
  rcases Nat.lt_or_ge i l.length with hil | hil
  ·rw [lQ hil]; exact h.seat i hil
  ·have : i = l.length := by omega
   subst this
   rw [tZ]; exact h3
 ·rw [List.length_append, List.length_singleton] at hj
  rcases Nat.lt_or_ge (2 * j + 1) l.length with hjl | hjl
  ·rw [lQ (by omega), lQ hjl]; exact h.pair j hjl
  ·have e : 2 * j + 1 = l.length := by omega
   have e2 : 2 * j = l.length - 1 := by omega
   rw [lQ (by omega), e, tZ, e2]
   rcases h4 with h4 | h4
   ·exact absurd (by omega : l.length % 2 = 1) h4
   ·exact h4
 ·rw [List.count_append, ← h.byes]
  unfold oL
  split
  ·rename_i hb
   subst hb
   simp
   omega
  ·rename_i hb
   rw [List.count_singleton]
   have : (n == (-1 : Int)) = false := by simpa using hb
   rw [this]
   simp
 ·unfold oL
  exact Int.not_lt.1 h1
theorem aFe {p : aR} {ranks : List Int} (hr : ∀ x ∈ ranks, Num p x) : ∀ (k : Nat) (l : List Int) (b : Int), PreL p l b → ∀ l' ∈ iQ p ranks k l b, l'.length = l.length + k ∧ ∃ b', PreL p l' b'
 | 0, l, b, h, l', hl => by
  rw [iQ, List.mem_singleton] at hl
  subst hl
  exact ⟨rfl, b, h⟩
 | k + 1, l, b, h, l', hl => by
  rw [iQ, List.mem_flatMap] at hl
  obtain ⟨n, hn, hl⟩ := hl
  split at hl
  ·rename_i hok
   obtain ⟨h1, h2⟩ := aFe hr k _ _ (h.next (hr n hn) hok) l' hl
   exact ⟨by rw [h1, List.length_append, List.length_singleton]; omega, h2⟩
  ·cases hl
structure aKu (p : aR) (l : List Int) : Prop where
 len : (l.length : Int) = p.Size
 num : ∀ x ∈ l, Num p x
 nd : ∀ i j, i < j → j < l.length → l.getD i 0 = l.getD j 0 → l.getD j 0 = -1
 seat : ∀ i, i < l.length → wP p i (l.getD i 0) = true
 pair : ∀ j, 2 * j + 1 < l.length → sM p (l.getD (2 * j) 0) (l.getD (2 * j + 1) 0) = true
 byes : (l.count (-1) : Int) ≤ p.Size - p.Persons.length
section
variable {p : aR} (hp : jY p = true)
include hp
theorem aAa {l : List Int} (h : l ∈ oB p) : aKu p l := by
 obtain ⟨ranks, hd, hr, _⟩ := rS hp
 have hsz := eG (shp hp)
 unfold oB at h
 rw [hd] at h
 obtain ⟨h1, b, h2⟩ := aFe hr p.Size.toNat [] (p.Size - p.Persons.length) ⟨by simp, by simp, by simp, by simp, by simp, by omega⟩ l h
 refine ⟨by rw [h1]; simp; omega, h2.num, h2.nd, h2.seat, h2.pair, ?_⟩
 have a := h2.byes
 have b := h2.left
 omega
theorem aKy : (oB p).length ≤ 43046721 := by
 obtain ⟨ranks, hd, _, hl⟩ := rS hp
 have hsz := eG (shp hp)
 unfold oB
 rw [hd]
 have h1 := aFd p ranks hl p.Size.toNat [] (p.Size - p.Persons.length)
 have h2 : 9 ^ p.Size.toNat ≤ 9 ^ 8 := Nat.pow_le_pow_right (by decide) (by omega)
 have h3 : (9 ^ 8 : Nat) = 43046721 := by decide
 simp only
 omega
theorem aSj : oC p = some (((oB p).length : Int), 0) := by
 obtain ⟨ranks, hd, hr, hl⟩ := rS hp
 have hlen := aKy hp
 have hc : qF p = some 0 := by rw [aIh, if_pos hp]
 have hA : oB p = iQ p ranks p.Size.toNat [] (p.Size - p.Persons.length) := by unfold oB; rw [hd]
 have hf := aHd (oB p) 0 (by omega)
 rw [Nat.zero_add] at hf
 have h2 := aIz (shp hp) hr (by omega) (fun (s5 : Int) (_ : List Int) => some (w64 (s5 + 1), true)) 0
 rw [← hA] at h2
 unfold oC
 rw [bW hc]
 simp only [decide_true, Bool.not_true, cond_false]
 rw [bW hd, bW (h2.trans hf)]
 rfl
theorem aVg (n : Nat) (hn : n ≤ 9223372036854775807) : pU p n = some (match (oB p)[n]? with | some l => (l.map (plF p), true) | none => ([], false)) := by
 obtain ⟨ranks, hd, hr, hl⟩ := rS hp
 have hA : oB p = iQ p ranks p.Size.toNat [] (p.Size - p.Persons.length) := by unfold oB; rw [hd]
 have hsz := eG (shp hp)
 obtain ⟨q, hf⟩ := aJi (p := p) (oB p) n ([], false) (fun l h => ⟨by have := (aAa hp h).len; omega, (aAa hp h).num⟩) hn
 have h2 := aIz (shp hp) hr (by omega) (fun (s6 : Int × List Int × Bool) (x7 : List Int) => bif decide (s6.1 = 0) then ((oD p x7).bind fun r8 => some ((s6.1, r8, true), false)) else (some ((w64 (s6.1 - 1), s6.2.1, s6.2.2), true))) ((n : Int), ([], false))
 rw [← hA] at h2
 unfold pU
 rw [bW hd, bW (h2.trans hf)]
 cases (oB p)[n]? <;> rfl
theorem aQl (many : Int) : ∃ s : Nat, s ≤ 100000000 ∧ iO many p.Lots p.Lots.length p BIG 0 0 = mD many s p := by
 have hsz := eG (shp hp)
 have hlots : ∀ x ∈ p.Lots, 0 ≤ x ∧ x ≤ 999999 := by
  simp only [jY, Bool.and_eq_true, List.all_eq_true, fO] at hp
  exact hp.2.2
 have := iV (S := Int) (fun k i s => iO many p.Lots p.Lots.length p k s i) p.Lots.length (fun o => ∃ s : Nat, s ≤ 100000000 ∧ o = mD many s p) (fun i s => i ≤ p.Lots.length ∧ 0 ≤ s ∧ s ≤ 999999 * i) (fun k i s hi hI ih => ?_) (fun k i s h5 h6 => ?_) BIG 0 0 (bY (by omega)) ⟨Nat.zero_le _, by omega, by omega⟩
 ·exact this
 ·have hx := hlots _ (List.getElem_mem hi)
  simp only [iO, Int.ofNat_lt, hi, decide_true, cond_true, bT (show i < 9223372036854775807 by omega)]
  rw [bW (bQ hi), dS (n := s + p.Lots[i]) (by omega) (by omega)]
  exact ih (s + p.Lots[i]) ⟨by omega, by omega, by omega⟩
 ·have : i = p.Lots.length := by omega
  subst this
  simp only [iO, Int.lt_irrefl, decide_false, cond_false]
  exact ⟨s.toNat, by omega, by rw [Int.toNat_of_nonneg h6.2.1]⟩
theorem aUj : lI p = some ([], 3) ∨ ∃ l ∈ oB p, lI p = some (l.map (plF p), 0) := by
 have hlen := aKy hp
 unfold lI
 rw [bW (aSj hp)]
 simp only [decide_true, Bool.not_true, cond_false]
 by_cases h0 : ((oB p).length : Int) = 0
 ·rw [decide_eq_true h0, cond_true]
  exact .inl rfl
 ·rw [decide_eq_false h0, cond_false]
  obtain ⟨s, hs, e⟩ := aQl hp ((oB p).length : Int)
  rw [e]
  unfold mD
  have hchk : chk (!decide (((oB p).length : Int) = 0)) = some () := by rw [decide_eq_false h0]; rfl
  have hm : (s : Int).tmod ((oB p).length : Int) = ((s % (oB p).length : Nat) : Int) := rfl
  have hlt : s % (oB p).length < (oB p).length := Nat.mod_lt _ (by omega)
  rw [bW hchk, hm, bW (aVg hp _ (by omega)), List.getElem?_eq_getElem hlt]
  exact .inr ⟨_, List.getElem_mem hlt, rfl⟩
end
end Go.Am
end
