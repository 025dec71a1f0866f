/- Plain laws, one behind the other. -/
import Derived.Test.YtiohgpipanopaaaGreatBbDet
section
namespace Go.Am
theorem wU (n lo hi : Int) : eA n lo hi = some (wi n lo hi) := by simp [eA, eJ, wi]
theorem tE (n lo hi : Int) : fS n lo hi = some (wi n lo hi) := by simp [fS, eJ, wi]
def lR (p : aU) : Bool :=
 (decide (p.Size = 4) || decide (p.Size = 8)) && (wi p.Persons.length 2 p.Size && (wi p.Seeds 0 (min p.Persons.length (p.Size / 2)) && (!decide (p.Size / 2 < p.Size - p.Persons.length) && !decide (10 < (p.Lots.length : Int)))))
def pp (p : aU) (i : Nat) : aP := p.Persons.getD i default
def aBz (p : aU) (i : Nat) : Bool :=
 (wi (pp p i).Player 0 999 && wi (pp p i).Nation 0 9 && !(decide ((i : Int) < p.Seeds) && (pp p i).Qualified)) && !((p.Persons.take i).any fun y => decide (y.Player = (pp p i).Player))
def kU (p : aU) : Bool := lR p && ((List.range p.Persons.length).all (aBz p) && p.Lots.all fun n => wi n 0 999999)
theorem aIh {p : aU} (h : p.Size = 4 ∨ p.Size = 8) : w64 (p.Size.tdiv 2) = p.Size / 2 := by
 rcases h with h | h <;> rw [h] <;> decide +kernel
theorem oJ {p : aU} (h : lR p = true) : (p.Size = 4 ∨ p.Size = 8) ∧ 2 ≤ p.Persons.length ∧ (p.Persons.length : Int) ≤ p.Size ∧ p.Persons.length ≤ 8 ∧ p.Lots.length ≤ 10 ∧ 0 ≤ p.Seeds ∧ p.Seeds ≤ p.Persons.length ∧ p.Seeds ≤ p.Size / 2 ∧ p.Size - p.Persons.length ≤ p.Size / 2 := by
 simp only [lR, Bool.and_eq_true, Bool.or_eq_true, decide_eq_true_eq, fU, Bool.not_eq_true', decide_eq_false_iff_not] at h
 omega
theorem aPr {α : Type} (p : aU) (a b : Option α) :
  ((bif !decide (p.Size = 4) then (some (!decide (p.Size = 8))) else (some false)).bind fun b2 =>
  (bif b2 then (some true) else ((eA (p.Persons.length : Int) 2 p.Size).bind fun r3 => some (!r3))).bind fun b4 =>
  (bif b4 then (some true) else ((eA p.Seeds 0 (min (p.Persons.length : Int) (w64 (p.Size.tdiv 2)))).bind fun r5 => some (!r5))).bind fun b6 =>
  (bif b6 then (some true) else (some (decide ((w64 (p.Size.tdiv 2)) < (w64 (p.Size - (p.Persons.length : Int))))))).bind fun b7 =>
  (bif b7 then (some true) else (some (decide (10 < (p.Lots.length : Int))))).bind fun b8 => bif b8 then a else b) = bif lR p then b else a := by
 simp only [wU, Option.bind_some, eJ, kS]
 by_cases hs : p.Size = 4 ∨ p.Size = 8
 ·have h0 : (!decide (p.Size = 4) && !decide (p.Size = 8)) = false := by rcases hs with h | h <;> simp [h]
  have h1 : (decide (p.Size = 4) || decide (p.Size = 8)) = true := by rcases hs with h | h <;> simp [h]
  rw [h0, aIh hs]
  simp only [Bool.false_or, lR, h1, Bool.true_and]
  cases hw : wi p.Persons.length 2 p.Size with
  | false => simp
  | true =>
   have := fU.1 hw
   rw [dP (n := p.Size - p.Persons.length) (by omega) (by omega)]
   cases wi p.Seeds 0 (min p.Persons.length (p.Size / 2)) <;> cases decide (p.Size / 2 < p.Size - p.Persons.length) <;> cases decide (10 < (p.Lots.length : Int)) <;> rfl
 ·have h0 : (!decide (p.Size = 4) && !decide (p.Size = 8)) = true := by simp; omega
  have h1 : (decide (p.Size = 4) || decide (p.Size = 8)) = false := by simp; omega
  simp [h0, lR, h1]
theorem aOa {α : Type} (p : aU) (a b : Option α) :
  ((bif !decide (p.Size = 4) then (some (!decide (p.Size = 8))) else (some false)).bind fun b2 =>
  (bif b2 then (some true) else ((fS (p.Persons.length : Int) 2 p.Size).bind fun r3 => some (!r3))).bind fun b4 =>
  (bif b4 then (some true) else (some (decide ((w64 (p.Size.tdiv 2)) < (w64 (p.Size - (p.Persons.length : Int))))))).bind fun b5 =>
  (bif b5 then (some true) else ((fS p.Seeds 0 (min (w64 (p.Size.tdiv 2)) (p.Persons.length : Int))).bind fun r6 => some (!r6))).bind fun b7 =>
  (bif b7 then (some true) else (some (decide (10 < (p.Lots.length : Int))))).bind fun b8 => bif b8 then a else b) = bif lR p then b else a := by
 simp only [tE, Option.bind_some, eJ, kS]
 by_cases hs : p.Size = 4 ∨ p.Size = 8
 ·have h0 : (!decide (p.Size = 4) && !decide (p.Size = 8)) = false := by rcases hs with h | h <;> simp [h]
  have h1 : (decide (p.Size = 4) || decide (p.Size = 8)) = true := by rcases hs with h | h <;> simp [h]
  rw [h0, aIh hs, Int.min_comm (p.Size / 2)]
  simp only [Bool.false_or, lR, h1, Bool.true_and]
  cases hw : wi p.Persons.length 2 p.Size with
  | false => simp
  | true =>
   have := fU.1 hw
   rw [dP (n := p.Size - p.Persons.length) (by omega) (by omega)]
   cases wi p.Seeds 0 (min p.Persons.length (p.Size / 2)) <;> cases decide (p.Size / 2 < p.Size - p.Persons.length) <;> cases decide (10 < (p.Lots.length : Int)) <;> rfl
 ·have h0 : (!decide (p.Size = 4) && !decide (p.Size = 8)) = true := by simp; omega
  have h1 : (decide (p.Size = 4) || decide (p.Size = 8)) = false := by simp; omega
  simp [h0, lR, h1]
theorem tS (l : List aP) (hl : l.length ≤ 9223372036854775807) (f : aP → Option Bool) (g : aP → Bool) (hf : ∀ x ∈ l, f x = some (g x)) : eN l f = some (match l.findIdx? g with | some i => (i : Int) | none => -1) := by
 unfold eN
 rw [eF (S := Unit) (fun k i _ => dF l f l.length k i) l.length (fun i _ => some (match (l.drop i).findIdx? g with | some j => ((i + j : Nat) : Int) | none => -1)) (fun _ _ => True) ?_ ?_ BIG () (cC hl) trivial]
 ·simp
 ·intro k i _ hi _ ih
  have := ih () trivial
  simp only [dF, bS hi, Option.bind_some, bW (show i < 9223372036854775807 by omega), Int.ofNat_lt, hi, decide_true, cond_true, this, hf _ (List.getElem_mem hi)]
  rw [List.drop_eq_getElem_cons hi, List.findIdx?_cons]
  cases h : g l[i] with
  | true => simp
  | false =>
   simp only [cond_false, Bool.false_eq_true, if_false]
   cases List.findIdx? g (List.drop (i + 1) l) with
   | none => rfl
   | some j => simp; omega
 ·intro k _ _
  simp [dF, jS]
theorem aMj {α : Type} (l : List α) (g : α → Bool) : decide ((0 : Int) ≤ (match l.findIdx? g with | some i => (i : Int) | none => -1)) = l.any g := by
 cases h : l.findIdx? g with
 | none =>
  have h' := List.findIdx?_eq_none_iff.1 h
  have : l.any g = false := by rw [Bool.eq_false_iff]; intro h2; obtain ⟨x, hx, hg⟩ := List.any_eq_true.1 h2; rw [h' x hx] at hg; cases hg
  rw [this]; decide
 | some i =>
  obtain ⟨h1, h2, _⟩ := List.findIdx?_eq_some_iff_getElem.1 h
  have : l.any g = true := List.any_eq_true.2 ⟨_, List.getElem_mem h1, h2⟩
  rw [this]; exact decide_eq_true (Int.natCast_nonneg i)
theorem xX (l : List aP) (hl : l.length ≤ 9223372036854775807) (f : aP → Option Bool) (g : aP → Bool) (hf : ∀ x ∈ l, f x = some (g x)) : eW l f = some (l.any g) := by
 unfold eW
 rw [tS l hl f g hf, Option.bind_some, aMj]
theorem aDs (l : List Int) (hl : l.length ≤ 9223372036854775807) (f : Int → Option Bool) (g : Int → Bool) (hf : ∀ x ∈ l, f x = some (g x)) : jT l f = some (match l.findIdx? g with | some i => (i : Int) | none => -1) := by
 unfold jT
 rw [eF (S := Unit) (fun k i _ => eQ l f l.length k i) l.length (fun i _ => some (match (l.drop i).findIdx? g with | some j => ((i + j : Nat) : Int) | none => -1)) (fun _ _ => True) ?_ ?_ BIG () (cC hl) trivial]
 ·simp
 ·intro k i _ hi _ ih
  have := ih () trivial
  simp only [eQ, bS hi, Option.bind_some, bW (show i < 9223372036854775807 by omega), Int.ofNat_lt, hi, decide_true, cond_true, this, hf _ (List.getElem_mem hi)]
  rw [List.drop_eq_getElem_cons hi, List.findIdx?_cons]
  cases h : g l[i] with
  | true => simp
  | false =>
   simp only [cond_false, Bool.false_eq_true, if_false]
   cases List.findIdx? g (List.drop (i + 1) l) with
   | none => rfl
   | some j => simp; omega
 ·intro k _ _
  simp [eQ, mU]
theorem aAx (l : List Int) (hl : l.length ≤ 9223372036854775807) (f : Int → Option Bool) (g : Int → Bool) (hf : ∀ x ∈ l, f x = some (g x)) : iA l f = some (l.any g) := by
 unfold iA
 rw [aDs l hl f g hf, Option.bind_some, aMj]
theorem tK {p : aU} {i : Nat} (h : i < p.Persons.length) : pp p i = p.Persons[i] := by simp [pp, h]
theorem aGu (p : aU) : pK p = some (if kU p then 0 else 60) := by
 unfold pK
 rw [aOa]
 cases hs : lR p with
 | false => simp [kU, hs]
 | true =>
  obtain ⟨_, _, _, h8, h10, _⟩ := oJ hs
  rw [cond_true, jO (fun k i => kN p.Persons p.Persons.length p k i) p.Persons.length (aBz p) (some 60) (qT p) ?_ ?_ BIG (cC (by omega))]
  ·simp only [kU, hs, Bool.true_and]
   cases (List.range p.Persons.length).all (aBz p) with
   | false => rfl
   | true =>
    simp only [cond_true, Bool.true_and, qT]
    rw [aAx p.Lots (by omega) _ (fun n => !wi n 0 999999) (fun x _ => by simp [rO, tE]), Option.bind_some]
    have : (p.Lots.any fun n => !wi n 0 999999) = !(p.Lots.all fun n => wi n 0 999999) := by rw [List.not_all_eq_any_not]
    rw [this]
    cases p.Lots.all fun n => wi n 0 999999 <;> rfl
  ·intro k i hi
   simp only [kN, Int.ofNat_lt, hi, decide_true, cond_true, bS hi, Option.bind_some, aHe (Nat.le_of_lt hi), tE, eJ, kS, bW (show i < 9223372036854775807 by omega)]
   rw [xX (p.Persons.take i) (by rw [List.length_take]; omega) (fun y12 => rN y12 p.Persons[i]) (fun y => decide (y.Player = p.Persons[i].Player)) (fun y _ => rfl), Option.bind_some]
   simp only [aBz, tK hi]
   cases (p.Persons.take i).any fun y => decide (y.Player = p.Persons[i].Player) <;> cases wi p.Persons[i].Player 0 999 <;> cases wi p.Persons[i].Nation 0 9 <;> cases decide ((i : Int) < p.Seeds) <;> cases p.Persons[i].Qualified <;> rfl
  ·intro k
   simp [kN]
theorem aIt (p : aU) : mI p = some (if kU p then 0 else 60) := by
 unfold mI
 rw [aPr]
 cases hs : lR p with
 | false => simp [kU, hs]
 | true =>
  obtain ⟨_, _, _, h8, h10, _⟩ := oJ hs
  rw [cond_true, jO (fun k i => dV p.Persons.length p k i) p.Persons.length (aBz p) (some 60) (mO p) ?_ ?_ BIG (cC (by omega))]
  ·simp only [kU, hs, Bool.true_and]
   cases (List.range p.Persons.length).all (aBz p) with
   | false => rfl
   | true =>
    simp only [cond_true, Bool.true_and, mO]
    rw [jO (fun k i => gD p k i) p.Lots.length (fun i => wi (p.Lots.getD i 0) 0 999999) (some 60) (some 0) ?_ ?_ BIG (cC (by omega))]
    ·have : ((List.range p.Lots.length).all fun i => wi (p.Lots.getD i 0) 0 999999) = p.Lots.all fun n => wi n 0 999999 := by
      rw [Bool.eq_iff_iff, fD, List.all_eq_true]
      constructor
      ·intro h x hx
       obtain ⟨i, hi, rfl⟩ := List.getElem_of_mem hx
       have := h i hi
       rwa [aZ hi] at this
      ·intro h i hi
       rw [aZ hi]
       exact h _ (List.getElem_mem hi)
     rw [this]
     cases p.Lots.all fun n => wi n 0 999999 <;> rfl
    ·intro k i hi
     simp only [gD, Int.ofNat_lt, hi, decide_true, cond_true, bS hi, Option.bind_some, wU, bW (show i < 9223372036854775807 by omega), aZ hi]
     cases wi p.Lots[i] 0 999999 <;> rfl
    ·intro k
     simp [gD, pR]
  ·intro k i hi
   simp only [dV, Int.ofNat_lt, hi, decide_true, cond_true, bS hi, Option.bind_some, wU, eJ, kS]
   rw [jO (fun k2 j => gC (dV p.Persons.length p k) p.Persons.length i p p.Persons[i] k2 j) i (fun j => !decide ((pp p j).Player = p.Persons[i].Player)) (some 60) (dV p.Persons.length p k ((i + 1 : Nat) : Int)) ?_ ?_ BIG (cC (by omega))]
   ·have e : ((List.range i).all fun j => !decide ((pp p j).Player = p.Persons[i].Player)) = !((p.Persons.take i).any fun y => decide (y.Player = p.Persons[i].Player)) := by
     rw [Bool.eq_iff_iff, fD, Bool.not_eq_true', Bool.eq_false_iff]
     constructor
     ·intro h h2
      obtain ⟨x, hx, hp⟩ := List.any_eq_true.1 h2
      obtain ⟨j, hj, rfl⟩ := List.getElem_of_mem hx
      rw [List.length_take] at hj
      have := h j (by omega)
      rw [tK (by omega)] at this
      rw [List.getElem_take] at hp
      rw [hp] at this
      cases this
     ·intro h j hj
      cases hd : decide ((pp p j).Player = p.Persons[i].Player) with
      | false => rfl
      | true =>
       refine absurd (List.any_eq_true.2 ⟨p.Persons[j], ?_, ?_⟩) h
       ·refine List.mem_of_getElem? (i := j) ?_
        rw [List.getElem?_take_of_lt hj, List.getElem?_eq_getElem (by omega)]
       ·rwa [tK (by omega)] at hd
    rw [e]
    simp only [aBz, tK hi]
    cases (p.Persons.take i).any fun y => decide (y.Player = p.Persons[i].Player) <;> cases wi p.Persons[i].Player 0 999 <;> cases wi p.Persons[i].Nation 0 9 <;> cases decide ((i : Int) < p.Seeds) <;> cases p.Persons[i].Qualified <;> rfl
   ·intro k2 j hj
    simp only [gC, Int.ofNat_lt, hj, decide_true, cond_true, bS (show j < p.Persons.length by omega), Option.bind_some, bW (show j < 9223372036854775807 by omega), tK (show j < p.Persons.length by omega)]
    cases decide (p.Persons[j].Player = p.Persons[i].Player) <;> rfl
   ·intro k2
    simp [gC, pQ, pP, bW (show i < 9223372036854775807 by omega)]
  ·intro k
   simp [dV]
end Go.Am
end
section
namespace Go.Am
def wS (p : aU) (x : Int) : Option Nat := p.Persons.findIdx? fun y => decide (y.Player = x)
theorem uS {p : aU} {x : Int} {i : Nat} (h : wS p x = some i) : i < p.Persons.length ∧ (pp p i).Player = x := by
 obtain ⟨h1, h2, _⟩ := List.findIdx?_eq_some_iff_getElem.1 h
 exact ⟨h1, by rw [tK h1]; simpa using h2⟩
def lW (p : aU) (x : Int) : Int := match wS p x with | some i => (i : Int) | none => -1
theorem uH (p : aU) (hl : p.Persons.length ≤ 9223372036854775807) (x : Int) : fX p x = some (lW p x) := by
 unfold fX
 rw [eF (S := Unit) (fun k i _ => fO x p k i) p.Persons.length (fun i _ => some (match (p.Persons.drop i).findIdx? (fun y => decide (y.Player = x)) with | some j => ((i + j : Nat) : Int) | none => -1)) (fun _ _ => True) ?_ ?_ BIG () (cC hl) trivial]
 ·simp [lW, wS]
 ·intro k i _ hi _ ih
  have := ih () trivial
  simp only [fO, bS hi, Option.bind_some, bW (show i < 9223372036854775807 by omega), Int.ofNat_lt, hi, decide_true, cond_true, this]
  rw [List.drop_eq_getElem_cons hi, List.findIdx?_cons]
  cases h : decide (p.Persons[i].Player = x) with
  | true => simp
  | false =>
   simp only [cond_false, Bool.false_eq_true, if_false]
   cases List.findIdx? (fun y => decide (y.Player = x)) (List.drop (i + 1) p.Persons) with
   | none => rfl
   | some j => simp; omega
 ·intro k _ _
  simp [fO, oQ]
theorem aFp (p : aU) (hl : p.Persons.length ≤ 9223372036854775807) (x : Int) : qJ p x = some (lW p x) := by
 unfold qJ
 rw [tS p.Persons hl (fun y3 => qX y3 x) (fun y => decide (y.Player = x)) (fun y _ => rfl)]
 rfl
theorem aGk (l : List Int) (hl : l.length ≤ 9223372036854775807) (n : Int) : mW l n = some (decide (n ∈ l)) := by
 unfold mW
 rw [eF (S := Unit) (fun k i _ => iT l n k i) l.length (fun i _ => some (decide (n ∈ l.drop i))) (fun _ _ => True) ?_ ?_ BIG () (cC hl) trivial]
 ·simp
 ·intro k i _ hi _ ih
  have := ih () trivial
  simp only [iT, bS hi, Option.bind_some, bW (show i < 9223372036854775807 by omega), Int.ofNat_lt, hi, decide_true, cond_true, this]
  rw [List.drop_eq_getElem_cons hi]
  by_cases h : l[i] = n
  ·simp [h]
  ·have h' : ¬ n = l[i] := fun e => h e.symm
   simp only [h, decide_false, cond_false, List.mem_cons, h', false_or]
 ·intro k _ _
  simp [iT, rW]
def nN (p : aU) (S : List Int) (i : Nat) : Bool := decide (S.getD i 0 = -1) || (wS p (S.getD i 0)).isSome && !decide (S.getD i 0 ∈ S.take i)
theorem aKq (p : aU) (x : Int) : decide (lW p x < 0) = !(wS p x).isSome := by
 unfold lW
 cases wS p x with
 | none => rfl
 | some i => exact decide_eq_false (Int.not_lt.2 (Int.natCast_nonneg i))
theorem aMw {p : aU} {S : List Int} (hp : p.Persons.length ≤ 40) (hS : S.length ≤ 40) : kW p S = some ((List.range S.length).all (nN p S) && decide ((S.length : Int) = p.Size)) := by
 unfold kW
 rw [jO (fun k i => fE S p k i) S.length (nN p S) (some false) (some (decide ((S.length : Int) = p.Size))) ?_ ?_ BIG (cC (by omega))]
 ·cases (List.range S.length).all (nN p S) <;> simp
 ·intro k i hi
  simp only [fE, Int.ofNat_lt, hi, decide_true, cond_true, bS hi, Option.bind_some, uH p (by omega), aHe (Nat.le_of_lt hi), aKq, bW (show i < 9223372036854775807 by omega)]
  rw [aGk _ (by rw [List.length_take]; omega)]
  simp only [Option.bind_some, kS, eJ, nN, aZ hi]
  cases decide (S[i] = -1) <;> cases (wS p S[i]).isSome <;> cases decide (S[i] ∈ S.take i) <;> rfl
 ·intro k
  simp [fE, oA]
def xK (p : aU) (a b : Int) : Bool :=
 if a = -1 ∨ b = -1 then !decide (a = b) else
 (decide ((pp p (lW p a).toNat).Nation = 0) || !decide ((pp p (lW p a).toNat).Nation = (pp p (lW p b).toNat).Nation)) && !((pp p (lW p a).toNat).Qualified && (pp p (lW p b).toNat).Qualified)
def IsP (p : aU) (x : Int) : Prop := x = -1 ∨ ∃ i, wS p x = some i
theorem aKp {p : aU} {x : Int} {i : Nat} (h : wS p x = some i) : idx p.Persons (lW p x) = some (pp p (lW p x).toNat) := by
 have e : lW p x = (i : Int) := by unfold lW; rw [h]
 rw [e, bS (uS h).1, Int.toNat_natCast, ← tK (uS h).1]
theorem aNl {p : aU} (hp : p.Persons.length ≤ 40) {a b : Int} (ha : IsP p a) (hb : IsP p b) : kX p a b = some (xK p a b) := by
 unfold kX
 simp only [kS, eJ, Option.bind_some, uH p (show p.Persons.length ≤ 9223372036854775807 by omega)]
 by_cases h : a = -1 ∨ b = -1
 ·have : (decide (a = -1) || decide (b = -1)) = true := by simpa using h
  rw [this]
  simp only [cond_true, xK, if_pos h]
 ·have h0 : (decide (a = -1) || decide (b = -1)) = false := by simpa using h
  rw [h0]
  obtain ⟨i, hi⟩ := ha.resolve_left fun e => h (.inl e)
  obtain ⟨j, hj⟩ := hb.resolve_left fun e => h (.inr e)
  rw [cond_false, aKp hi, Option.bind_some, aKp hj, Option.bind_some]
  simp only [xK, if_neg h]
theorem aKx (l : List Int) (hl : l.length ≤ 9223372036854775807) (v : Int) : nB l v = some (match l.findIdx? (fun x => decide (x = v)) with | some i => (i : Int) | none => -1) := by
 unfold nB
 rw [eF (S := Unit) (fun k i _ => gO l v k i) l.length (fun i _ => some (match (l.drop i).findIdx? (fun x => decide (x = v)) with | some j => ((i + j : Nat) : Int) | none => -1)) (fun _ _ => True) ?_ ?_ BIG () (cC hl) trivial]
 ·simp
 ·intro k i _ hi _ ih
  have := ih () trivial
  simp only [gO, bS hi, Option.bind_some, bW (show i < 9223372036854775807 by omega), Int.ofNat_lt, hi, decide_true, cond_true, this]
  rw [List.drop_eq_getElem_cons hi, List.findIdx?_cons]
  by_cases h : l[i] = v
  ·simp [h]
  ·simp only [h, decide_false, cond_false, Bool.false_eq_true, if_false]
   cases List.findIdx? (fun x => decide (x = v)) (List.drop (i + 1) l) with
   | none => rfl
   | some j => simp; omega
 ·intro k _ _
  simp [gO, qF]
theorem aOv (p : aU) (hp : p.Persons.length ≤ 40) (S : List Int) (hS : S.length ≤ 40) : lO p S = some ((List.range p.Persons.length).all fun i => decide ((pp p i).Player ∈ S)) := by
 unfold lO
 rw [jO (fun k i => fP S p k i) p.Persons.length (fun i => decide ((pp p i).Player ∈ S)) (some false) (some true) ?_ ?_ BIG (cC (by omega))]
 ·cases (List.range p.Persons.length).all fun i => decide ((pp p i).Player ∈ S) <;> rfl
 ·intro k i hi
  simp only [fP, Int.ofNat_lt, hi, decide_true, cond_true, bS hi, Option.bind_some, bW (show i < 9223372036854775807 by omega), aGk S (show S.length ≤ 9223372036854775807 by omega), tK hi]
  cases decide (p.Persons[i].Player ∈ S) <;> rfl
 ·intro k
  simp [fP, oS]
theorem aSu {T : Type} (F : Nat → Int → Option T) (n : Nat) (hstep : ∀ k i, i < n → (∀ b, F k ((i + 1 : Nat) : Int) = some b → ∃ b, F (k + 1) (i : Int) = some b)) (hstop : ∀ k, ∃ b, F (k + 1) (n : Int) = some b) : ∀ k, n < k → ∃ b, F k 0 = some b := by
 intro k hk
 have := sP (S := Unit) (fun k i _ => F k i) n (fun o => ∃ b, o = some b) (fun i _ => i ≤ n) (fun k i _ hi _ ih => by
  obtain ⟨b, hb⟩ := ih () (by omega)
  exact hstep k i hi b hb) (fun k i _ h1 h2 => by
  have : i = n := by omega
  subst this
  exact hstop k) k 0 () (by omega) (by omega)
 simpa using this
theorem aFa {p : aU} (hp : kU p = true) {S : List Int} (hl : (S.length : Int) = p.Size) (hS : ∀ x ∈ S, IsP p x) :
  ∃ b, mJ p S = some b ∧ (b = true → ∀ j (_ : 2 * j + 1 < S.length), xK p (S.getD (2 * j) 0) (S.getD (2 * j + 1) 0) = true) := by
 have hsh : lR p = true := by simp only [kU, Bool.and_eq_true] at hp; exact hp.1
 obtain ⟨hsz, hn2, hns, h8, _, hs0, hsn, hs2, _⟩ := oJ hsh
 have hS8 : S.length ≤ 8 := by omega
 unfold mJ
 rw [aOv p (by omega) S (by omega), Option.bind_some]
 cases hf : (List.range p.Persons.length).all fun i => decide ((pp p i).Player ∈ S) with
 | false => exact ⟨false, rfl, fun h => by cases h⟩
 | true =>
  have hfull := fun i hi => of_decide_eq_true (fD.1 hf i hi)
  rw [Bool.not_true, cond_false]
  have hK : ∃ b, kG S p = some b := by
   unfold kG
   have h0 : p.Seeds = ((p.Seeds.toNat : Nat) : Int) := by omega
   refine aSu (fun k i => gF S (w64 (p.Size - (p.Persons.length : Int))) p k i) p.Seeds.toNat (fun k i hi b hb => ?_) (fun k => ?_) BIG (cC (by omega))
   ·have hin : i < p.Persons.length := by omega
    have hlt : decide ((i : Int) < p.Seeds) = true := decide_eq_true (by omega)
    have hm := hfull i hin
    rw [tK hin] at hm
    obtain ⟨r, hr⟩ : ∃ r, S.findIdx? (fun x => decide (x = p.Persons[i].Player)) = some r := by
     cases hx : S.findIdx? (fun x => decide (x = p.Persons[i].Player)) with
     | some r => exact ⟨r, rfl⟩
     | none =>
      have := List.findIdx?_eq_none_iff.1 hx _ hm
      simp at this
    obtain ⟨hr1, _, _⟩ := List.findIdx?_eq_some_iff_getElem.1 hr
    have hx := aRx ⟨r, by omega⟩
    simp only at hx
    have hj : (if r % 2 = 0 then r + 1 else r - 1) < S.length := by split <;> omega
    simp only [gF, hlt, cond_true, bS hin, Option.bind_some, aKx S (show S.length ≤ 9223372036854775807 by omega), hr, eJ, kS, oR, hx, bS hj, bW (show i < 9223372036854775807 by omega)]
    cases (decide ((i : Int) = 0) && !decide ((r : Int) = 0) || decide ((i : Int) = 1) && !decide ((r : Int) = w64 (p.Size - 1)) || decide (2 ≤ (i : Int)) && !decide ((r : Int) = w64 (p.Size.tdiv 4)) && !decide ((r : Int) = w64 (w64 (p.Size - 1) - w64 (p.Size.tdiv 4)))) with
    | true => exact ⟨_, rfl⟩
    | false =>
     rw [cond_false]
     cases (!decide (decide ((i : Int) < w64 (p.Size - ↑p.Persons.length)) = decide (S[if r % 2 = 0 then r + 1 else r - 1] = -1))) with
     | true => exact ⟨_, rfl⟩
     | false => exact ⟨b, hb⟩
   ·have hlt : decide (((p.Seeds.toNat : Nat) : Int) < p.Seeds) = false := decide_eq_false (by omega)
    exact ⟨true, by simp only [gF, hlt, cond_false, pS]⟩
  obtain ⟨b, hb⟩ := hK
  have main := jO (fun k i => gE S p k (2 * i)) (S.length / 2) (fun j => xK p (S.getD (2 * j) 0) (S.getD (2 * j + 1) 0)) (some false) (kG S p) ?_ ?_ BIG (cC (by omega))
  ·simp only [Int.mul_zero] at main
   rw [main, hb]
   cases ha : (List.range (S.length / 2)).all fun j => xK p (S.getD (2 * j) 0) (S.getD (2 * j + 1) 0) with
   | false => exact ⟨false, rfl, fun h => by cases h⟩
   | true => exact ⟨b, rfl, fun _ j hj => fD.1 ha j (by omega)⟩
  ·intro k j hj
   have h1 : 2 * j < S.length := by omega
   have h2 : 2 * j + 1 < S.length := by omega
   have hlt : decide (2 * (j : Int) < p.Size) = true := decide_eq_true (by omega)
   have e1 : w64 (2 * (j : Int) + 1) = ((2 * j + 1 : Nat) : Int) := by rw [dP (by omega) (by omega)]; omega
   have e2 : w64 (2 * (j : Int) + 2) = 2 * ((j + 1 : Nat) : Int) := by rw [dP (by omega) (by omega)]; omega
   have e0 : 2 * (j : Int) = ((2 * j : Nat) : Int) := by omega
   simp only [gE, hlt, cond_true, e1, e2]
   rw [e0, bS h1, Option.bind_some, bS h2, Option.bind_some, aNl (by omega) (hS _ (List.getElem_mem h1)) (hS _ (List.getElem_mem h2)), Option.bind_some, aZ h1, aZ h2]
   cases xK p S[2 * j] S[2 * j + 1] <;> rfl
  ·intro k
   have hlt : decide (2 * ((S.length / 2 : Nat) : Int) < p.Size) = false := decide_eq_false (by omega)
   simp only [gE, hlt, cond_false]
end Go.Am
end
section
namespace Go.Am
theorem aRf {p : aU} {x y : Int} {i j : Nat} (hx : wS p x = some i) (hy : wS p y = some j) (h : lW p x = lW p y) : x = y := by
 unfold lW at h
 rw [hx, hy] at h
 have h : ((i : Nat) : Int) = (j : Int) := h
 have : i = j := by omega
 subst this
 rw [← (uS hx).2, ← (uS hy).2]
def oP (p : aU) (x : Int) : Int := if x = -1 then -1 else lW p x
theorem aGv {p : aU} (hp : kU p = true) {S : List Int} (hS : (List.range S.length).all (nN p S) = true) (hl : (S.length : Int) = p.Size) : rL p S = some (S.map (oP p), 0) := by
 have hsh : lR p = true := by simp only [kU, Bool.and_eq_true] at hp; exact hp.1
 obtain ⟨hsz, _, _, h8, _⟩ := oJ hsh
 have hS8 : S.length ≤ 8 := by omega
 have hs := fD.1 hS
 unfold rL
 rw [aGu, hp]
 have key : pF p S = some (S.map (oP p), true) := by
  unfold pF
  rw [eF (S := List Int) (fun k i o => gQ S S.length p k i o) S.length (fun _ _ => some (S.map (oP p), true)) (fun i o => o = (S.take i).map (oP p)) ?_ ?_ BIG [] (cC (by omega)) rfl]
  ·intro k i o hi ho ih
   subst ho
   have hb := hs i hi
   simp only [nN, aZ hi, Bool.or_eq_true, decide_eq_true_eq, Bool.and_eq_true, Bool.not_eq_true', decide_eq_false_iff_not] at hb
   have ht : (S.take i).map (oP p) ++ [oP p S[i]] = (S.take (i + 1)).map (oP p) := by rw [List.take_succ_eq_append_getElem hi, List.map_append]; rfl
   have hlen : (((S.take i).map (oP p)).length + 1) * 8 ≤ 140737488355328 := by rw [List.length_map, List.length_take]; omega
   simp only [gQ, Int.ofNat_lt, hi, decide_true, cond_true, bS hi, Option.bind_some, bW (show i < 9223372036854775807 by omega)]
   by_cases hbye : S[i] = -1
   ·have hc : oP p S[i] = -1 := by rw [oP, if_pos hbye]
    rw [hc] at ht
    simp only [hbye, decide_true, Bool.not_true, cond_false]
    rw [gZ (by simpa using hlen), Option.bind_some]
    exact ih _ ht
   ·obtain ⟨hns, hnt⟩ := hb.resolve_left hbye
    obtain ⟨j, hj⟩ := Option.isSome_iff_exists.1 hns
    have hc : oP p S[i] = lW p S[i] := by rw [oP, if_neg hbye]
    rw [hc] at ht
    have hnn : decide (lW p S[i] < 0) = false := by rw [aKq, hj]; rfl
    have hnot : lW p S[i] ∉ (S.take i).map (oP p) := by
     intro hm
     obtain ⟨y, hy, he⟩ := List.mem_map.1 hm
     obtain ⟨q, hq, rfl⟩ := List.getElem_of_mem hy
     rw [List.length_take] at hq
     have hq' := hs q (by omega)
     simp only [nN, aZ (show q < S.length by omega), Bool.or_eq_true, decide_eq_true_eq, Bool.and_eq_true] at hq'
     rw [List.getElem_take] at he hy
     unfold oP at he
     split at he
     ·have : lW p S[i] = (j : Int) := by unfold lW; rw [hj]
      omega
     ·rename_i hne
      obtain ⟨m, hm⟩ := Option.isSome_iff_exists.1 (hq'.resolve_left hne).1
      rw [aRf hm hj he] at hy
      exact hnt hy
    simp only [hbye, decide_false, Bool.not_false, cond_true, aFp p (show p.Persons.length ≤ 9223372036854775807 by omega), Option.bind_some, hnn, cond_false]
    rw [iD _ (by rw [List.length_map, List.length_take]; omega)]
    simp only [Option.bind_some, hnot, decide_false, cond_false]
    rw [gZ (by simpa using hlen), Option.bind_some]
    exact ih _ ht
  ·intro k o ho
   subst ho
   have : (((S.take S.length).map (oP p)).length : Int) = p.Size := by simpa using hl
   simp [gQ, rZ, hl]
 simp only [if_true, Option.bind_some, decide_true, Bool.not_true, cond_false, key]
def dM (P : List Int) : List Int → List Int → List Int
 | [], _ => []
 | s :: ss, lucky => if s = -1 ∨ s ∉ P then s :: dM P ss lucky else match lucky with
  | [] => -1 :: dM P ss []
  | x :: xs => x :: dM P ss xs
theorem qP (P : List Int) : ∀ (S lucky : List Int), (dM P S lucky).length = S.length
 | [], _ => rfl
 | s :: ss, lucky => by
  unfold dM
  split
  ·simp [qP P ss]
  ·cases lucky with
   | nil => simp [qP P ss]
   | cons x xs => simp [qP P ss]
theorem sQ (P : List Int) : ∀ (S lucky : List Int) (i : Nat), i < S.length → (dM P S lucky).getD i 0 = S.getD i 0 ∨ (dM P S lucky).getD i 0 = -1 ∨ (dM P S lucky).getD i 0 ∈ lucky
 | [], _, i, h => by simp at h
 | s :: ss, lucky, i, h => by
  unfold dM
  split
  ·cases i with
   | zero => exact .inl rfl
   | succ i => simpa using sQ P ss lucky i (by simpa using h)
  ·cases lucky with
   | nil => cases i with
    | zero => exact .inr (.inl rfl)
    | succ i => simpa using sQ P ss [] i (by simpa using h)
   | cons x xs => cases i with
    | zero => exact .inr (.inr (by simp))
    | succ i =>
     rcases sQ P ss xs i (by simpa using h) with h | h | h
     ·exact .inl (by simpa using h)
     ·exact .inr (.inl (by simpa using h))
     ·exact .inr (.inr (by simp only [List.getD_cons_succ]; exact List.mem_cons_of_mem _ h))
theorem xR (P : List Int) : ∀ (S lucky : List Int) (i : Nat), i < S.length → S.getD i 0 = -1 → (dM P S lucky).getD i 0 = -1
 | [], _, i, h, _ => by simp at h
 | s :: ss, lucky, i, h, hb => by
  unfold dM
  split
  ·cases i with
   | zero => exact hb
   | succ i => simpa using xR P ss lucky i (by simpa using h) (by simpa using hb)
  ·rename_i h0
   cases i with
   | zero => exact absurd (.inl (by simpa using hb)) h0
   | succ i => cases lucky with
    | nil => simpa using xR P ss [] i (by simpa using h) (by simpa using hb)
    | cons x xs => simpa using xR P ss xs i (by simpa using h) (by simpa using hb)
theorem aCb (P : List Int) : ∀ (S lucky : List Int), lucky.Nodup → (∀ x ∈ lucky, x ∉ S) → (∀ x ∈ lucky, x ≠ -1) → ∀ i j, i < j → j < S.length → (dM P S lucky).getD i 0 ∈ lucky → (dM P S lucky).getD i 0 ≠ (dM P S lucky).getD j 0
 | [], _, _, _, _, i, j, _, h, _ => by simp at h
 | s :: ss, lucky, hn, hd, h9, i, j, hij, hj, hm => by
  have hss : ∀ l : List Int, (∀ x ∈ l, x ∈ lucky) → ∀ x ∈ l, x ∉ ss := fun l hl x hx h => hd x (hl x hx) (List.mem_cons_of_mem _ h)
  obtain ⟨j, rfl⟩ : ∃ j', j = j' + 1 := ⟨j - 1, by omega⟩
  have hj' : j < ss.length := by simpa using hj
  unfold dM at hm ⊢
  split at hm
  ·rename_i h0
   rw [if_pos h0]
   cases i with
   | zero =>
    refine absurd ?_ (hd s (by simpa using hm))
    simp
   | succ i =>
    simp only [List.getD_cons_succ] at hm ⊢
    exact aCb P ss lucky hn (hss _ fun _ h => h) h9 i j (by omega) hj' hm
  ·rename_i h0
   rw [if_neg h0]
   cases lucky with
   | nil => cases hm
   | cons x xs =>
    simp only at hm ⊢
    rw [List.nodup_cons] at hn
    cases i with
    | zero =>
     simp only [List.getD_cons_zero, List.getD_cons_succ]
     intro he
     rcases sQ P ss xs j hj' with h | h | h
     ·rw [← he] at h
      refine hd x (by simp) (List.mem_cons_of_mem _ ?_)
      rw [h, aZ hj']
      exact List.getElem_mem hj'
     ·exact h9 x (by simp) (he.trans h)
     ·exact hn.1 (he ▸ h)
    | succ i =>
     simp only [List.getD_cons_succ] at hm ⊢
     rcases sQ P ss xs i (by omega) with h | h | h
     ·refine absurd ?_ (hd _ hm)
      rw [h, aZ (show i < ss.length by omega)]
      exact List.mem_cons_of_mem _ (List.getElem_mem _)
     ·exact absurd h (h9 _ hm)
     ·exact aCb P ss xs hn.2 (hss _ fun x h => List.mem_cons_of_mem _ h) (fun x h => h9 x (List.mem_cons_of_mem _ h)) i j (by omega) hj' h
theorem jH {α β : Type} {A : Option α} {x : α} (h : A = some x) (f : α → Option β) : A.bind f = f x := by subst h; rfl
theorem aRi {A L : Option (List Int × Int)} {l : List Int} (hA : A = some (l, 0)) : (A.bind fun r2 => bif !decide (r2.2 = 0) then (some (([] : List Int), r2.2)) else L) = L := by subst hA; rfl
theorem aJg {S : List Int} (h : S.length ≤ 1000) : fA S = some S := by
 unfold fA
 rw [gZ (by simp; omega)]
 simp
theorem aEa {p : aU} (hp : kU p = true) {S : List Int} (hS : (List.range S.length).all (nN p S) = true) (hl : (S.length : Int) = p.Size) (P lucky : List Int) (hP : P.length ≤ 100) (hL : lucky.length ≤ 100) :
  pE p S P lucky = some (if (∀ x ∈ P, x ≠ -1 ∧ x ∈ S) ∧ (∀ i (_ : i < lucky.length), wi lucky[i] 0 999 = true ∧ lucky[i] ∉ S ∧ lucky[i] ∉ lucky.take i) then (dM P S lucky, 0) else ([], 1)) := by
 have hsh : lR p = true := by simp only [kU, Bool.and_eq_true] at hp; exact hp.1
 obtain ⟨hsz, _, _, h8, _⟩ := oJ hsh
 have hS8 : S.length ≤ 8 := by omega
 unfold pE
 rw [aRi (aGv hp hS hl)]
 have h4 : mM S P lucky = some (dM P S lucky, 0) := by
  unfold mM
  rw [jH (aJg (show S.length ≤ 1000 by omega))]
  have main := eF (S := List Int × List Int) (fun k i s => fQ P S.length k s.1 i s.2) S.length (fun i s => some (s.2.take i ++ dM P (S.drop i) s.1, 0)) (fun i s => s.2.length = S.length ∧ s.2.drop i = S.drop i) ?_ ?_ BIG (lucky, S) (cC (by omega)) ⟨rfl, rfl⟩
  ·simpa using main
  ·rintro k i ⟨lk, o⟩ hi ⟨h1, h2⟩ ih
   simp only at h1 h2
   have hio : i < o.length := by omega
   have he : o[i] = S[i] := by
    have e1 := List.drop_eq_getElem_cons hio
    rw [h2, List.drop_eq_getElem_cons hi] at e1
    exact (List.cons.inj e1).1.symm
   have hd : o.drop (i + 1) = S.drop (i + 1) := by
    have e1 := List.drop_eq_getElem_cons hio
    rw [h2, List.drop_eq_getElem_cons hi] at e1
    exact (List.cons.inj e1).2.symm
   have hset : ∀ v : Int, (o.set i v).take (i + 1) = o.take i ++ [v] := fun v => by
    rw [List.take_succ_eq_append_getElem (by simpa using hio)]
    simp [List.take_set_of_le (Nat.le_refl i)]
   have hsetd : ∀ v : Int, (o.set i v).drop (i + 1) = S.drop (i + 1) := fun v => by rw [List.drop_set_of_lt (by omega), hd]
   have h0 : o.take i ++ [S[i]] = o.take (i + 1) := by rw [List.take_succ_eq_append_getElem hio, he]
   simp only [fQ, Int.ofNat_lt, hi, decide_true, cond_true, bS hio, he, Option.bind_some, bW (show i < 9223372036854775807 by omega), iD P (show P.length ≤ 9223372036854775807 by omega), kS, Int.toNat_natCast]
   rw [List.drop_eq_getElem_cons hi]
   unfold dM
   by_cases hc : S[i] = -1 ∨ S[i] ∉ P
   ·have : (decide (S[i] = -1) || !decide (S[i] ∈ P)) = true := by simpa using hc
    rw [this, cond_true, if_pos hc]
    have := ih (lk, o) ⟨h1, hd⟩
    simp only at this
    rw [this, ← h0]
    simp
   ·have : (decide (S[i] = -1) || !decide (S[i] ∈ P)) = false := by simpa using hc
    rw [this, cond_false, if_neg hc]
    cases lk with
    | nil =>
     simp only [List.length_nil, Int.natCast_zero, Int.lt_irrefl, decide_false, cond_false]
     have := ih ([], o.set i (-1)) ⟨by simpa using h1, hsetd _⟩
     simp only at this
     rw [this, hset]
     simp
    | cons x xs =>
     have hpos : decide ((0 : Int) < ((x :: xs).length : Int)) = true := decide_eq_true (by rw [List.length_cons]; omega)
     have hsub : sub (x :: xs) 1 ((x :: xs).length : Int) = some xs := by
      unfold sub
      rw [if_pos ⟨by omega, by simp; omega, Int.le_refl _⟩]
      simp
     have hi2 : i < (o.set i (-1)).length := by simpa using hio
     simp only [hpos, cond_true, aEm, Option.bind_some, hsub, bS hi2]
     have := ih (xs, (o.set i (-1)).set i x) ⟨by simpa using h1, by rw [List.set_set]; exact hsetd _⟩
     simp only at this
     rw [this, List.set_set, hset]
     simp
  ·rintro k ⟨lk, o⟩ ⟨h1, _⟩
   simp only at h1
   simp only [fQ, Int.lt_irrefl, decide_false, cond_false, rY, List.drop_length, dM, List.append_nil]
   rw [← h1, List.take_length]
 have h2 : mL S P lucky = some (if (∀ i (_ : i < lucky.length), wi lucky[i] 0 999 = true ∧ lucky[i] ∉ S ∧ lucky[i] ∉ lucky.take i) then (dM P S lucky, 0) else ([], 1)) := by
  unfold mL
  rw [jO (fun k i => iV S P lucky lucky lucky.length k i) lucky.length (fun i => wi (lucky.getD i 0) 0 999 && !decide (lucky.getD i 0 ∈ S) && !decide (lucky.getD i 0 ∈ lucky.take i)) (some ([], 1)) (mM S P lucky) ?_ ?_ BIG (cC (by omega))]
  ·rw [h4]
   cases ha : (List.range lucky.length).all fun i => wi (lucky.getD i 0) 0 999 && !decide (lucky.getD i 0 ∈ S) && !decide (lucky.getD i 0 ∈ lucky.take i) with
   | true =>
    rw [if_pos]
    ·rfl
    ·intro i hi
     have := fD.1 ha i hi
     simp only [aZ hi, Bool.and_eq_true, Bool.not_eq_true', decide_eq_false_iff_not] at this
     exact ⟨this.1.1, this.1.2, this.2⟩
   | false =>
    rw [cond_false, if_neg]
    ·intro h
     rw [fD.2 fun i hi => ?_] at ha
     ·cases ha
     ·obtain ⟨a, b, c⟩ := h i hi
      simp only [aZ hi, a, b, c, decide_false, Bool.not_false, Bool.and_self]
  ·intro k i hi
   simp only [iV, Int.ofNat_lt, hi, decide_true, cond_true, bS hi, Option.bind_some, tE, aHe (Nat.le_of_lt hi), bW (show i < 9223372036854775807 by omega), iD S (show S.length ≤ 9223372036854775807 by omega), aZ hi]
   rw [iD _ (by rw [List.length_take]; omega)]
   simp only [Option.bind_some, kS]
   cases wi lucky[i] 0 999 <;> cases decide (lucky[i] ∈ S) <;> cases decide (lucky[i] ∈ lucky.take i) <;> rfl
  ·intro k
   simp [iV]
 rw [jO (fun k i => iU S P lucky P P.length k i) P.length (fun i => !decide (P.getD i 0 = -1) && decide (P.getD i 0 ∈ S)) (some ([], 1)) (mL S P lucky) ?_ ?_ BIG (cC (by omega))]
 ·rw [h2]
  cases ha : (List.range P.length).all fun i => !decide (P.getD i 0 = -1) && decide (P.getD i 0 ∈ S) with
  | true =>
   have hPS : ∀ x ∈ P, x ≠ -1 ∧ x ∈ S := by
    intro x hx
    obtain ⟨i, hi, rfl⟩ := List.getElem_of_mem hx
    have := fD.1 ha i hi
    simp only [aZ hi, Bool.and_eq_true, Bool.not_eq_true', decide_eq_false_iff_not, decide_eq_true_eq] at this
    exact this
   simp only [cond_true]
   by_cases hb : ∀ i (_ : i < lucky.length), wi lucky[i] 0 999 = true ∧ lucky[i] ∉ S ∧ lucky[i] ∉ lucky.take i
   ·rw [if_pos hb, if_pos ⟨hPS, hb⟩]
   ·rw [if_neg hb, if_neg (fun h => hb h.2)]
  | false =>
   rw [cond_false, if_neg]
   rintro ⟨h, _⟩
   rw [fD.2 fun i hi => ?_] at ha
   ·cases ha
   ·obtain ⟨a, b⟩ := h _ (List.getElem_mem hi)
    simp only [aZ hi, a, b, decide_false, decide_true, Bool.not_false, Bool.and_self]
 ·intro k i hi
  simp only [iU, Int.ofNat_lt, hi, decide_true, cond_true, bS hi, Option.bind_some, bW (show i < 9223372036854775807 by omega), iD S (show S.length ≤ 9223372036854775807 by omega), kS, aZ hi]
  cases decide (P[i] = -1) <;> cases decide (P[i] ∈ S) <;> rfl
 ·intro k
  simp [iU]
end Go.Am
end
