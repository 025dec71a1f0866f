/- Plain laws, one behind the other. -/
import Derived.Test.YtfdappeickbpeaaGreatEnDet
import Derived.KernelRfl
section
namespace Go.Am
def wi (n lo hi : Int) : Bool := decide (lo ≤ n) && decide (n ≤ hi)
theorem xI {n lo hi : Int} : wi n lo hi = true ↔ lo ≤ n ∧ n ≤ hi := by simp [wi]
theorem aEz (n lo hi : Int) : cJ n lo hi = some (wi n lo hi) := by
 unfold cJ wi
 cases decide (lo ≤ n) <;> rfl
theorem aBq (n lo hi : Int) : cN n lo hi = some (wi n lo hi) := by
 unfold cN wi
 cases decide (lo ≤ n) <;> rfl
def rI (f : aY) : Bool := wi f.Places 1 32 && wi f.Wilds 0 32 && wi f.Guards 0 32 && wi f.Close 0 9999 && wi f.Freeze f.Close 9999
def iJ (n : aM) : Bool := wi n.Id 0 999 && wi n.Player 0 999 && wi n.Hour 0 9999 &&
 (bif decide (n.Kind = 1) then wi n.Rank 0 9999 else bif decide (n.Kind = 2) then wi n.Rank 1 9999 else bif (decide (n.Kind = 3) || decide (n.Kind = 4) || decide (n.Kind = 5)) then decide (n.Rank = 0) else false)
theorem aLb (f : aY) : pQ f = some (rI f) := by
 unfold pQ rI
 simp only [aEz, Option.bind_some]
 cases wi f.Places 1 32 <;> cases wi f.Wilds 0 32 <;> cases wi f.Guards 0 32 <;> cases wi f.Close 0 9999 <;> cases wi f.Freeze f.Close 9999 <;> rfl
theorem aRc (n : Int) : wi n 0 0 = decide (n = 0) := by
 unfold wi
 by_cases h : n = 0
 ·subst h; rfl
 ·have : ¬ (0 ≤ n ∧ n ≤ 0) := by omega
  cases h1 : decide (0 ≤ n) <;> cases h2 : decide (n ≤ 0) <;> simp_all <;> omega
theorem aLd (n : aM) : oV n = some (iJ n) := by
 unfold oV iJ
 simp only [aEz, Option.bind_some, aRc]
 by_cases h1 : n.Kind = 1
 ·simp only [h1, decide_true, cond_true]
  cases wi n.Id 0 999 <;> cases wi n.Player 0 999 <;> cases wi n.Hour 0 9999 <;> cases wi n.Rank 0 9999 <;> rfl
 ·by_cases h2 : n.Kind = 2
  ·simp only [h2, decide_true, cond_true, show decide ((2 : Int) = 1) = false from rfl, cond_false]
   cases wi n.Id 0 999 <;> cases wi n.Player 0 999 <;> cases wi n.Hour 0 9999 <;> cases wi n.Rank 1 9999 <;> rfl
  ·cases wi n.Id 0 999 <;> cases wi n.Player 0 999 <;> cases wi n.Hour 0 9999 <;> cases decide (n.Rank = 0) <;> cases decide (n.Kind = 3) <;> cases decide (n.Kind = 4) <;> cases decide (n.Kind = 5) <;> simp [h1, h2]
theorem aLc (n : aM) : lD n = some (iJ n) := by
 unfold lD iJ
 simp only [aBq, Option.bind_some]
 by_cases h1 : n.Kind = 1
 ·simp only [h1, decide_true, cond_true]
  cases wi n.Id 0 999 <;> cases wi n.Player 0 999 <;> cases wi n.Hour 0 9999 <;> cases wi n.Rank 0 9999 <;> rfl
 ·by_cases h2 : n.Kind = 2
  ·simp only [h2, decide_true, cond_true, show decide ((2 : Int) = 1) = false from rfl, cond_false]
   cases wi n.Id 0 999 <;> cases wi n.Player 0 999 <;> cases wi n.Hour 0 9999 <;> cases wi n.Rank 1 9999 <;> rfl
  ·cases wi n.Id 0 999 <;> cases wi n.Player 0 999 <;> cases wi n.Hour 0 9999 <;> cases decide (n.Rank = 0) <;> cases decide (n.Kind = 3) <;> cases decide (n.Kind = 4) <;> cases decide (n.Kind = 5) <;> simp [h1, h2]
def sF (l : List aM) (i : Nat) : Bool := match l[i]? with
 | some x => iJ x && (l.take i).all fun y => !decide (y.Id = x.Id) || decide (y = x)
 | none => false
def hZ (f : aY) (l : List aM) : Int := bif !rI f then 50 else bif decide (60 < (l.length : Int)) then 51 else bif (List.range l.length).all (sF l) then 0 else 51
theorem vF {l : List aM} {i : Nat} (h : i < l.length) : sF l i = (iJ l[i] && (l.take i).all fun y => !decide (y.Id = l[i].Id) || decide (y = l[i])) := by
 unfold sF
 rw [List.getElem?_eq_getElem h]
theorem aMa (l : List aM) (hl : l.length ≤ 60) (i : Nat) (hi : i < l.length) (again : Int → Option Int) : ∀ k, i < k → gS again l (i : Int) k 0 =
  bif (List.range i).all (fun j => match l[j]? with | some y => !decide (y.Id = l[i].Id) || decide (y = l[i]) | none => false) then again (w64 ((i : Int) + 1)) else some 51 := by
 refine aIj (gS again l (i : Int)) i _ _ _ (fun k j hj => ?_) fun k => ?_
 ·have hj2 : j < l.length := by omega
  simp only [gS, show decide ((j : Int) < (i : Int)) = true by simpa using hj, cond_true, dP hj2, dP hi, Option.bind_some, List.getElem?_eq_getElem hj2, cZ (i := j) (by omega)]
  cases h1 : decide (l[j].Id = l[i].Id) <;> cases h2 : decide (l[j] = l[i]) <;> simp
 ·simp [gS, qE, qD]
theorem aNr (l : List aM) (p : aM → Bool) (i : Nat) (hi : i ≤ l.length) : (List.range i).all (fun j => match l[j]? with | some y => p y | none => false) = (l.take i).all p := by
 rw [Bool.eq_iff_iff]
 simp only [List.all_eq_true, List.mem_range]
 constructor
 ·intro h y hy
  obtain ⟨j, hj, rfl⟩ := List.getElem_of_mem hy
  simp only [List.length_take] at hj
  have := h j (by omega)
  rw [List.getElem?_eq_getElem (by omega)] at this
  simpa using this
 ·intro h j hj
  rw [List.getElem?_eq_getElem (by omega)]
  refine h _ (List.mem_take_iff_getElem.2 ⟨j, by omega, rfl⟩)
theorem aFq (f : aY) (l : List aM) : lJ f l = some (hZ f l) := by
 have hF : ∀ {b : Option Int}, ((cN f.Places 1 32).bind fun r2 =>
  (bif !r2 then (some true) else ((cN f.Wilds 0 32).bind fun r3 => some (!r3))).bind fun b4 =>
  (bif b4 then (some true) else ((cN f.Guards 0 32).bind fun r5 => some (!r5))).bind fun b6 =>
  (bif b6 then (some true) else ((cN f.Close 0 9999).bind fun r7 => some (!r7))).bind fun b8 =>
  (bif b8 then (some true) else ((cN f.Freeze f.Close 9999).bind fun r9 => some (!r9))).bind fun b10 =>
  bif b10 then (some 50) else b) = bif !rI f then some 50 else b := by
  intro b
  simp only [aBq, Option.bind_some]
  unfold rI
  cases wi f.Places 1 32 <;> cases wi f.Wilds 0 32 <;> cases wi f.Guards 0 32 <;> cases wi f.Close 0 9999 <;> cases wi f.Freeze f.Close 9999 <;> rfl
 unfold lJ hZ
 rw [hF]
 cases rI f with
 | false => rfl
 | true =>
  simp only [Bool.not_true, cond_false]
  cases hl : decide (60 < (l.length : Int)) with
  | true => rfl
  | false =>
   simp only [cond_false]
   have hl' : l.length ≤ 60 := by simp at hl; omega
   have := aIj (gR l) l.length (sF l) (some 51) (some 0) (fun k i hi => ?_) (fun k => ?_) BIG (eK (by omega))
   ·rw [this]
    cases (List.range l.length).all (sF l) <;> rfl
   ·simp only [gR, show decide ((i : Int) < (l.length : Int)) = true by simpa using hi, cond_true, dP hi, Option.bind_some, aLc]
    rw [vF hi, aMa l hl' i hi _ BIG (eK (by omega)), aNr l (fun y => !decide (y.Id = l[i].Id) || decide (y = l[i])) i (by omega), cZ (by omega)]
    cases iJ l[i] <;> cases (l.take i).all (fun y => !decide (y.Id = l[i].Id) || decide (y = l[i])) <;> rfl
   ·simp [gR, qC]
theorem aGk {α β : Type} [DecidableEq α] (a b : α) (v : β) : ∀ m : List (α × β), hM a (cT b v m) = (decide (a = b) || hM a m)
 | [] => by simp [cT, hM]
 | (c, u) :: m => by
  simp only [cT]
  by_cases hbc : b = c
  ·subst hbc
   simp [hM]
  ·simp only [hbc, decide_false, cond_false, hM, aGk a b v m]
   by_cases h1 : a = c <;> by_cases h2 : a = b <;> simp [h1, h2]
theorem aAz {α β : Type} [DecidableEq α] (a b : α) (v z : β) : ∀ m : List (α × β), aK a z (cT b v m) = bif decide (a = b) then v else aK a z m
 | [] => by simp [cT, aK]
 | (c, u) :: m => by
  simp only [cT]
  by_cases hbc : b = c
  ·subst hbc
   by_cases h : a = b <;> simp [aK, h]
  ·simp only [hbc, decide_false, cond_false, aK, aAz a b v z m]
   by_cases h1 : a = c
   ·subst h1
    simp [Ne.symm hbc, Ne.symm (a := a) (b := b) (fun e => hbc e.symm)]
   ·simp [h1]
def aSb (l : List aM) (m : List (Int × aM)) : Prop := ∀ id, (hM id m = true → aK id (aM.mk 0 0 0 0 0) m ∈ l ∧ (aK id (aM.mk 0 0 0 0 0) m).Id = id) ∧ (∀ y ∈ l, y.Id = id → hM id m = true)
theorem aFr (f : aY) (l : List aM) : pX f l = some (hZ f l) := by
 unfold pX hZ
 rw [aLb]
 simp only [Option.bind_some]
 cases rI f with
 | false => rfl
 | true =>
  simp only [Bool.not_true, cond_false]
  cases hl : decide (60 < (l.length : Int)) with
  | true => rfl
  | false =>
   simp only [cond_false]
   have hl' : l.length ≤ 60 := by simp at hl; omega
   have key := kX (jY l (l.length : Int)) l.length (fun i _ => some (bif (List.range' i (l.length - i)).all (sF l) then (0 : Int) else 51))
    (fun i m => aSb (l.take i) m ∧ ∀ j, j < i → sF l j = true) (fun k i m hi hI ih => ?_) (fun k m hI => ?_) BIG [] (eK (by omega)) ⟨fun id => ⟨fun h => by simp [hM] at h, fun y hy => by simp at hy⟩, fun j hj => by omega⟩
   ·rw [key]
    simp [List.range_eq_range']
   ·obtain ⟨hK, hg⟩ := hI
    have hrest : List.range' i (l.length - i) = i :: List.range' (i + 1) (l.length - (i + 1)) := by
     rw [show l.length - i = (l.length - (i + 1)) + 1 by omega, List.range'_succ]
    have hgood : sF l i = (iJ l[i] && !(hM l[i].Id m && !decide (aK l[i].Id (aM.mk 0 0 0 0 0) m = l[i]))) := by
     rw [vF hi]
     congr 1
     rw [Bool.eq_iff_iff]
     simp only [List.all_eq_true, Bool.or_eq_true, Bool.not_eq_true', decide_eq_false_iff_not, decide_eq_true_eq, Bool.and_eq_false_iff, Bool.not_eq_false']
     constructor
     ·intro h
      cases hm : hM l[i].Id m with
      | false => exact .inl rfl
      | true =>
       right
       obtain ⟨h1, h2⟩ := (hK l[i].Id).1 hm
       rcases h _ h1 with h3 | h3
       ·exact absurd h2 h3
       ·exact h3
     ·intro h y hy
      by_cases hid : y.Id = l[i].Id
      ·right
       have hm := (hK l[i].Id).2 y hy hid
       rcases h with h | h
       ·rw [hm] at h; cases h
       ·obtain ⟨h1, h2⟩ := (hK l[i].Id).1 hm
        obtain ⟨a, ha, hya⟩ := List.getElem_of_mem hy
        obtain ⟨b, hb, hmb⟩ := List.getElem_of_mem h1
        simp only [List.length_take] at ha hb
        simp only [List.getElem_take] at hya hmb
        have same : ∀ p q : Nat, p < q → q < i → ∀ (hp : p < l.length) (hq : q < l.length), l[p].Id = l[q].Id → l[p] = l[q] := by
         intro p q hpq hqi hp hq he
         have := hg q hqi
         rw [vF hq] at this
         simp only [Bool.and_eq_true, List.all_eq_true, Bool.or_eq_true, Bool.not_eq_true', decide_eq_false_iff_not, decide_eq_true_eq] at this
         rcases this.2 l[p] (List.mem_take_iff_getElem.2 ⟨p, by omega, rfl⟩) with h | h
         ·exact absurd he h
         ·exact h
        rw [← h]
        rcases Nat.lt_trichotomy a b with hab | hab | hab
        ·rw [← hya, ← hmb]
         exact same a b hab (by omega) (by omega) (by omega) (by rw [hya, hmb, hid, h2])
        ·subst hab
         rw [← hya, ← hmb]
        ·rw [← hya, ← hmb]
         exact (same b a hab (by omega) (by omega) (by omega) (by rw [hya, hmb, hid, h2])).symm
      ·exact .inl hid
    simp only [jY, show decide ((i : Int) < (l.length : Int)) = true by simpa using hi, cond_true, dP hi, Option.bind_some, aLd, cZ (i := i) (by omega)]
    rw [hrest, List.all_cons, hgood]
    have ih' : sF l i = true → jY l (l.length : Int) k ((i + 1 : Nat) : Int) (cT l[i].Id l[i] m) = some (bif (List.range' (i + 1) (l.length - (i + 1))).all (sF l) then (0 : Int) else 51) := fun hgi => by
     refine ih _ ⟨fun id => ?_, fun j hj => ?_⟩
     ·have htk : l.take (i + 1) = l.take i ++ [l[i]] := by rw [List.take_add_one, List.getElem?_eq_getElem hi]; rfl
      rw [htk, aGk, aAz]
      constructor
      ·intro h
       by_cases hid : id = l[i].Id
       ·subst hid
        simp only [decide_true, cond_true]
        exact ⟨List.mem_append.2 (.inr (List.mem_singleton.2 rfl)), trivial⟩
       ·simp only [hid, decide_false, Bool.false_or, cond_false] at h ⊢
        obtain ⟨h1, h2⟩ := (hK id).1 h
        exact ⟨List.mem_append.2 (.inl h1), h2⟩
      ·intro y hy he
       rcases List.mem_append.1 hy with hy | hy
       ·rw [(hK id).2 y hy he]; simp
       ·simp at hy; subst hy; simp [he]
     ·rcases Nat.lt_or_ge j i with h | h
      ·exact hg j h
      ·have : j = i := by omega
       subst this; exact hgi
    rw [hgood] at ih'
    revert ih'
    cases iJ l[i] <;> cases hM l[i].Id m <;> cases decide (aK l[i].Id (aM.mk 0 0 0 0 0) m = l[i]) <;> intro ih' <;> first | rfl | (simpa using ih' rfl)
   ·simp [jY, tW]
structure VL (f : aY) (l : List aM) : Prop where
 fd : rI f = true
 len : l.length ≤ 60
 nt : ∀ x ∈ l, iJ x = true
 id : ∀ x ∈ l, ∀ y ∈ l, x.Id = y.Id → x = y
theorem kE {f : aY} {l : List aM} : hZ f l = 0 ↔ VL f l := by
 unfold hZ
 constructor
 ·intro h
  cases h1 : rI f with
  | false => rw [h1] at h; simp at h
  | true =>
   rw [h1] at h
   simp only [Bool.not_true, cond_false] at h
   cases h2 : decide (60 < (l.length : Int)) with
   | true => rw [h2] at h; simp at h
   | false =>
    rw [h2] at h
    simp only [cond_false] at h
    cases h3 : (List.range l.length).all (sF l) with
    | false => rw [h3] at h; simp at h
    | true =>
     simp only [List.all_eq_true, List.mem_range] at h3
     have hg : ∀ i (hi : i < l.length), iJ l[i] = true ∧ ∀ y ∈ l.take i, y.Id = l[i].Id → y = l[i] := fun i hi => by
      have := h3 i hi
      rw [vF hi] at this
      simp only [Bool.and_eq_true, List.all_eq_true, Bool.or_eq_true, Bool.not_eq_true', decide_eq_false_iff_not, decide_eq_true_eq] at this
      exact ⟨this.1, fun y hy he => (this.2 y hy).resolve_left fun h => h he⟩
     refine ⟨h1, by simp at h2; omega, fun x hx => ?_, fun x hx y hy he => ?_⟩
     ·obtain ⟨i, hi, rfl⟩ := List.getElem_of_mem hx
      exact (hg i hi).1
     ·obtain ⟨i, hi, rfl⟩ := List.getElem_of_mem hx
      obtain ⟨j, hj, rfl⟩ := List.getElem_of_mem hy
      rcases Nat.lt_trichotomy i j with h | h | h
      ·exact (hg j hj).2 _ (List.mem_take_iff_getElem.2 ⟨i, by omega, rfl⟩) he
      ·subst h; rfl
      ·exact ((hg i hi).2 _ (List.mem_take_iff_getElem.2 ⟨j, by omega, rfl⟩) he.symm).symm
 ·rintro ⟨h1, h2, h3, h4⟩
  rw [h1]
  have : decide (60 < (l.length : Int)) = false := by simp; omega
  rw [this]
  have h5 : (List.range l.length).all (sF l) = true := by
   simp only [List.all_eq_true, List.mem_range]
   intro i hi
   rw [vF hi]
   simp only [Bool.and_eq_true, List.all_eq_true, Bool.or_eq_true, Bool.not_eq_true', decide_eq_false_iff_not, decide_eq_true_eq]
   refine ⟨h3 _ (List.getElem_mem hi), fun y hy => ?_⟩
   by_cases he : y.Id = l[i].Id
   ·exact .inr (h4 _ (List.mem_of_mem_take hy) _ (List.getElem_mem hi) he)
   ·exact .inl he
  rw [h5]
  rfl
end Go.Am
end
section
namespace Go.Am
def dH (x : aM) : Int := x.Hour * 1000 + x.Id
section
variable {α : Type}
theorem kA {A : List α} {x : α} {B : List α} {p : Int} (h : p = (A.length : Int)) : idx (A ++ x :: B) p = some x := by
 subst h; rw [dP (by simp)]; simp
theorem aFk {A : List α} {x y : α} {B : List α} {p : Nat} (h : p = A.length) : (A ++ x :: B).set p y = A ++ y :: B := by
 subst h; simp
theorem wX {A : List α} {x y : α} {B : List α} {p : Int} (h : p = ((A.length + 1 : Nat) : Int)) : idx (A ++ x :: y :: B) p = some y := by
 have : A ++ x :: y :: B = (A ++ [x]) ++ y :: B := by simp
 rw [this, kA (by simp [h])]
end
def qO (p : aM) : List aM → List aM
 | [] => []
 | y :: t => if y = p then qO p t else y :: qO y t
def qW : List aM → List aM
 | [] => []
 | x :: t => x :: qO x t
theorem aKw (again : Int → List aM → Option (List aM)) {k0 : Nat} : ∀ (t : List aM) (p : aM) (W X : List aM) (k2 k : Nat), 1 ≤ k2 → W.length + X.length + 1 = k0 + k2 → k0 ≤ W.length → (W ++ X ++ p :: t).length < 4611686018427387904 → t.length < k →
  dQ again (k0 : Nat) k (W.length : Nat) (k2 : Nat) (W ++ X ++ p :: t) = some (W ++ qO p t) := by
 intro t
 induction t with
 | nil =>
  intro p W X k2 k h1 h2 h3 hb hk
  obtain ⟨k, rfl⟩ : ∃ q, k = q + 1 := ⟨k - 1, by omega⟩
  simp only [List.length_append, List.length_cons, List.length_nil] at hb
  have t0 : ((k0 : Nat) : Int).toNat = k0 := rfl
  have t1 : ((W.length : Nat) : Int).toNat = W.length := rfl
  have hlt : decide ((k2 : Int) < (((W ++ X ++ [p]).drop k0).length : Int)) = false := decide_eq_false (by simp; omega)
  have c1 : (decide ((0 : Int) ≤ (W.length : Int)) && decide ((W.length : Int) ≤ ((W ++ X ++ [p]).length : Int))) = true := by simp; omega
  have c2 : decide (W.length ≤ (W ++ X ++ [p]).length) = true := by simp
  have c3 : decide ((0 : Int) ≤ (W.length : Int)) = true := by simp
  simp only [dQ, t0, hlt, cond_false, lQ]
  rw [c1, t1, c2, c3]
  simp [chk, qO]
 | cons y t ih =>
  intro p W X k2 k h1 h2 h3 hb hk
  obtain ⟨k, rfl⟩ : ∃ q, k = q + 1 := ⟨k - 1, by omega⟩
  simp only [List.length_append, List.length_cons] at hb hk
  have t0 : ((k0 : Nat) : Int).toNat = k0 := rfl
  have t1 : ((W.length : Nat) : Int).toNat = W.length := rfl
  have hlt : decide ((k2 : Int) < (((W ++ X ++ p :: y :: t).drop k0).length : Int)) = true := decide_eq_true (by simp; omega)
  have ed : (W ++ X ++ p :: y :: t).drop k0 = (W ++ X).drop k0 ++ p :: y :: t := by rw [List.drop_append_of_le_length (by simp; omega)]
  have hdl : ((W ++ X).drop k0).length = k2 - 1 := by simp; omega
  have i1 : idx ((W ++ X ++ p :: y :: t).drop k0) (k2 : Nat) = some y := by rw [ed]; exact wX (by rw [hdl]; omega)
  have i2 : idx ((W ++ X ++ p :: y :: t).drop k0) (w64 ((k2 : Int) - 1)) = some p := by rw [aJk (by omega) (by omega), ed]; exact kA (by rw [hdl])
  simp only [dQ, t0, hlt, cond_true, i1, i2, Option.bind_some, cZ (show k2 < 9223372036854775807 by omega)]
  by_cases hyp : y = p
  ·subst hyp
   have := ih y W (X ++ [y]) (k2 + 1) k (by omega) (by simp; omega) h3 (by simp only [List.length_append, List.length_cons, List.length_nil]; omega) (by omega)
   have e1 : W ++ (X ++ [y]) ++ y :: t = W ++ X ++ y :: y :: t := by simp
   rw [e1] at this
   rw [decide_eq_true rfl, Bool.not_true, cond_false, this]
   simp [qO]
  ·have hd : (!decide (y = p)) = true := by rw [decide_eq_false hyp]; rfl
   have i3 : ∃ z, idx (W ++ X ++ p :: y :: t) (W.length : Nat) = some z := ⟨_, dP (by simp; omega)⟩
   obtain ⟨z, i3⟩ := i3
   rw [hd, cond_true, i3, Option.bind_some, t1, cZ (by omega)]
   obtain ⟨X', e2⟩ : ∃ X', (W ++ X ++ p :: y :: t).set W.length y = (W ++ [y]) ++ X' ++ y :: t ∧ X'.length = X.length := by
    cases X with
    | nil => exact ⟨[], by simp, rfl⟩
    | cons x X => exact ⟨X ++ [p], by simp, by simp⟩
   rw [e2.1]
   have := ih y (W ++ [y]) X' (k2 + 1) k (by omega) (by rw [List.length_append, e2.2]; simp; omega) (by simp; omega) (by simp only [List.length_append, List.length_cons, List.length_nil, e2.2]; omega) (by omega)
   have e3 : (W ++ [y]).length = W.length + 1 := by simp
   rw [e3] at this
   rw [this]
   simp [qO, hyp]
theorem aHm (s : List aM) (hb : s.length < 4611686018427387904) : gQ s = some (qW s) := by
 have main : ∀ (t A : List aM) (p : aM) (k : Nat), t.length < k → (A ++ p :: t).length < 4611686018427387904 → dB k ((A.length + 1 : Nat) : Int) (A ++ p :: t) = some (A ++ p :: qO p t) := by
  intro t
  induction t with
  | nil =>
   intro A p k hk hb
   obtain ⟨k, rfl⟩ : ∃ q, k = q + 1 := ⟨k - 1, by omega⟩
   have hlt : decide (((A.length + 1 : Nat) : Int) < ((A ++ [p]).length : Int)) = false := decide_eq_false (by simp)
   simp only [dB, hlt, cond_false, lO, qO]
  | cons y t ih =>
   intro A p k hk hb
   obtain ⟨k, rfl⟩ : ∃ q, k = q + 1 := ⟨k - 1, by omega⟩
   simp only [List.length_append, List.length_cons] at hb hk
   have hlt : decide (((A.length + 1 : Nat) : Int) < ((A ++ p :: y :: t).length : Int)) = true := decide_eq_true (by simp; omega)
   have i2 : w64 (((A.length + 1 : Nat) : Int) - 1) = (A.length : Int) := by rw [eL (by omega) (by omega)]; omega
   simp only [dB, hlt, cond_true, wX rfl, i2, kA rfl, Option.bind_some]
   by_cases hyp : y = p
   ·subst hyp
    have c1 : (decide ((0 : Int) ≤ ((A.length + 1 : Nat) : Int)) && decide (((A.length + 1 : Nat) : Int) ≤ ((A ++ y :: y :: t).length : Int))) = true := by simp; omega
    rw [decide_eq_true rfl, cond_true, c1]
    simp only [chk, cond_true, Option.bind_some]
    have := aKw (dB k) (k0 := A.length + 1) t y (A ++ [y]) [] 1 BIG (Nat.le_refl _) (by simp) (by simp) (by simp only [List.length_append, List.length_cons, List.length_nil]; omega) (eK (by omega))
    have e3 : (A ++ [y]).length = A.length + 1 := by simp
    have e4 : A ++ [y] ++ [] ++ y :: t = A ++ y :: y :: t := by simp
    rw [e3, e4] at this
    have e5 : ((1 : Nat) : Int) = 1 := rfl
    rw [e5] at this
    rw [this]
    simp [qO]
   ·rw [decide_eq_false hyp, cond_false]
    unfold lP
    rw [cZ (by omega)]
    have := ih (A ++ [p]) y k (by omega) (by simp only [List.length_append, List.length_cons, List.length_nil]; omega)
    have e3 : (A ++ [p]).length = A.length + 1 := by simp
    have e4 : A ++ [p] ++ y :: t = A ++ p :: y :: t := by simp
    rw [e3, e4] at this
    rw [this]
    simp [qO, hyp]
 unfold gQ
 match s, hb with
 | [], _ => simp [qW]
 | x :: t, hb =>
  by_cases ht : t = []
  ·subst ht; simp [qW, qO]
  ·have hl : 0 < t.length := List.length_pos_iff.2 ht
   have hd : decide (((x :: t).length : Int) < 2) = false := decide_eq_false (by simp; omega)
   rw [hd, cond_false]
   have := main t [] x BIG (eK (by simp at hb; omega)) (by simpa using hb)
   simp only [List.length_nil, List.nil_append, Nat.zero_add] at this
   have e5 : ((1 : Nat) : Int) = 1 := rfl
   rw [e5] at this
   rw [this]; rfl
theorem aOe (p x : aM) (t : List aM) : (x = p ∨ x ∈ qO p t) ↔ (x = p ∨ x ∈ t) := by
 induction t generalizing p with
 | nil => rfl
 | cons y t ih =>
  simp only [qO, List.mem_cons]
  by_cases h : y = p
  ·subst h
   rw [if_pos rfl]
   have := ih y
   constructor
   ·rintro (h | h)
    ·exact .inl h
    ·rcases this.1 (.inr h) with h | h
     ·exact .inl h
     ·exact .inr (.inr h)
   ·rintro (h | h | h)
    ·exact .inl h
    ·exact .inl h
    ·exact this.2 (.inr h)
  ·rw [if_neg h, List.mem_cons]
   have := ih y
   constructor
   ·rintro (h | h)
    ·exact .inl h
    ·exact .inr (this.1 h)
   ·rintro (h | h)
    ·exact .inl h
    ·exact .inr (this.2 h)
theorem aJm (x : aM) (s : List aM) : x ∈ qW s ↔ x ∈ s := by
 cases s with
 | nil => rfl
 | cons p t => simp only [qW, List.mem_cons]; exact aOe p x t
theorem aOf (p : aM) (t : List aM) : (qO p t).Sublist t := by
 induction t generalizing p with
 | nil => exact .slnil
 | cons y t ih =>
  simp only [qO]
  split
  ·exact (ih p).cons _
  ·exact (ih y).cons_cons _
theorem aJo (p : aM) (t : List aM) (hs : (p :: t).Pairwise fun x y => dH x ≤ dH y) (hcl : ∀ x ∈ p :: t, ∀ y ∈ p :: t, dH x = dH y → x = y) : (p :: qO p t).Pairwise fun x y => dH x < dH y := by
 induction t generalizing p with
 | nil => exact List.pairwise_singleton _ _
 | cons y t ih =>
  have h1 := List.pairwise_cons.1 hs
  have h2 := List.pairwise_cons.1 h1.2
  simp only [qO]
  by_cases h : y = p
  ·subst h
   rw [if_pos rfl]
   exact ih y h1.2 (fun a ha b hb => hcl a (List.mem_cons_of_mem _ ha) b (List.mem_cons_of_mem _ hb))
  ·rw [if_neg h]
   have h3 := ih y h1.2 (fun a ha b hb => hcl a (List.mem_cons_of_mem _ ha) b (List.mem_cons_of_mem _ hb))
   refine List.pairwise_cons.2 ⟨fun z hz => ?_, h3⟩
   have hpy : dH p < dH y := by
    have := h1.1 y (by simp)
    rcases Int.lt_or_eq_of_le this with h4 | h4
    ·exact h4
    ·exact absurd (hcl p (by simp) y (by simp) h4).symm h
   rcases List.mem_cons.1 hz with rfl | hz
   ·exact hpy
   ·exact Int.lt_trans hpy ((List.pairwise_cons.1 h3).1 z hz)
theorem mJ {α : Type} {key : α → Int} : ∀ {xs ys : List α}, xs.Pairwise (fun x y => key x < key y) → ys.Pairwise (fun x y => key x < key y) → (∀ x, x ∈ xs ↔ x ∈ ys) → xs = ys
 | [], [], _, _, _ => rfl
 | [], y :: ys, _, _, h => by have := (h y).2 (by simp); simp at this
 | x :: xs, [], _, _, h => by have := (h x).1 (by simp); simp at this
 | x :: xs, y :: ys, h1, h2, h => by
  have a1 := List.pairwise_cons.1 h1
  have a2 := List.pairwise_cons.1 h2
  have hxy : x = y := by
   rcases List.mem_cons.1 ((h x).1 (by simp)) with e | e
   ·exact e
   ·rcases List.mem_cons.1 ((h y).2 (by simp)) with e2 | e2
    ·exact e2.symm
    ·have := a2.1 x e; have := a1.1 y e2; omega
  subst hxy
  have := mJ a1.2 a2.2 fun z => by
   have hz := h z
   simp only [List.mem_cons] at hz
   constructor
   ·intro hm
    rcases hz.1 (.inr hm) with e | e
    ·have := a1.1 z hm; rw [e] at this; omega
    ·exact e
   ·intro hm
    rcases hz.2 (.inr hm) with e | e
    ·have := a2.1 z hm; rw [e] at this; omega
    ·exact e
  rw [this]
theorem aKv (l : List aM) (hb : l.length ≤ 60) : iQ l = some l := by
 have key := kX (cY (fun (s3 : List aM) x4 => (app 40 s3 ([x4])).bind fun x6 => some (x6, true)) l (l.length : Int)) l.length (fun i s => some (s ++ l.drop i, true)) (fun i s => s.length = i) (fun k i s hi hI ih => ?_) (fun k s hI => ?_) BIG [] (eK (by omega)) rfl
 ·unfold iQ jI fW
  rw [key]
  simp
 ·simp only [cY, show decide ((i : Int) < (l.length : Int)) = true by simpa using hi, cond_true, dP hi, Option.bind_some]
  rw [fG (by simp; omega)]
  simp only [Option.bind_some, Bool.not_true, cond_false]
  rw [cZ (by omega), ih _ (by simp; omega)]
  rw [List.append_assoc, List.singleton_append, ← List.drop_eq_getElem_cons hi]
 ·simp [cY, iG]
theorem or2 (a b : Int) : oA [a, b] = some (if a ≠ 0 then a else b) := by
 unfold oA
 obtain ⟨k, hk⟩ : ∃ k, BIG = k + 1 + 1 + 1 := ⟨BIG - 3, by unfold BIG; omega⟩
 rw [show ((([a, b] : List Int).length : Nat) : Int) = 2 from rfl, hk]
 simp only [nX, sD, show decide ((0 : Int) < 2) = true from rfl, cond_true, show idx [a, b] 0 = some a from rfl, Option.bind_some, show w64 (0 + 1) = 1 from rfl, show decide ((1 : Int) < 2) = true from rfl, show idx [a, b] 1 = some b from rfl, show w64 (1 + 1) = 2 from rfl, show decide ((2 : Int) < 2) = false from rfl, cond_false]
 by_cases h : a = 0
 ·subst h
  by_cases h2 : b = 0
  ·subst h2; simp
  ·simp [h2]
 ·simp [h]
def bN (x : aM) : Prop := 0 ≤ x.Id ∧ x.Id ≤ 999 ∧ 0 ≤ x.Hour ∧ x.Hour ≤ 9999
theorem aBp {x : aM} (h : iJ x = true) : bN x := by
 unfold iJ at h
 simp only [Bool.and_eq_true, xI] at h
 exact ⟨h.1.1.1.1, h.1.1.1.2, h.1.2.1, h.1.2.2⟩
theorem aRf {x y : aM} (hx : bN x) (hy : bN y) : ∃ r, eM x y = some r ∧ (r < 0 ↔ dH x < dH y) := by
 obtain ⟨a1, a2, a3, a4⟩ := hx
 obtain ⟨b1, b2, b3, b4⟩ := hy
 unfold eM
 rw [eL (by omega) (by omega), eL (by omega) (by omega), or2]
 refine ⟨_, rfl, ?_⟩
 unfold dH
 split <;> constructor <;> intro h <;> omega
theorem ltN {x y : aM} (hx : bN x) (hy : bN y) : ltO (fun a b => eM a b) x y = decide (dH x < dH y) := by
 obtain ⟨r, h1, h2⟩ := aRf hx hy
 unfold ltO
 simp only [h1]
 rw [Bool.eq_iff_iff]
 simpa using h2
theorem zI {x y : aM} (hx : bN x) (hy : bN y) (h : dH x = dH y) : x.Id = y.Id := by
 obtain ⟨a1, a2, a3, a4⟩ := hx
 obtain ⟨b1, b2, b3, b4⟩ := hy
 unfold dH at h
 omega
theorem aKk {l : List aM} (hb : ∀ x ∈ l, bN x) (hid : ∀ x ∈ l, ∀ y ∈ l, x.Id = y.Id → x = y) : sG l (fun a b => eM a b) = true := by
 unfold sG
 simp only [List.all_eq_true, Bool.and_eq_true, Bool.or_eq_true, Bool.not_eq_true', decide_eq_true_eq]
 intro x hx
 refine ⟨by rw [ltN (hb x hx) (hb x hx)]; simp, fun y hy => ⟨⟨?_, ?_⟩, fun z hz => ⟨?_, ?_⟩⟩⟩
 ·obtain ⟨r, h1, _⟩ := aRf (hb x hx) (hb y hy)
  simp [h1]
 ·rw [ltN (hb x hx) (hb y hy), ltN (hb y hy) (hb x hx)]
  simp only [decide_eq_true_eq]
  rcases Int.lt_trichotomy (dH x) (dH y) with h | h | h
  ·exact .inl (.inr h)
  ·exact .inl (.inl (hid x hx y hy (zI (hb x hx) (hb y hy) h)))
  ·exact .inr h
 ·rw [ltN (hb x hx) (hb y hy), ltN (hb y hy) (hb z hz), ltN (hb x hx) (hb z hz)]
  simp only [Bool.and_eq_false_iff, decide_eq_false_iff_not, decide_eq_true_eq]
  omega
 ·rw [ltN (hb x hx) (hb y hy), ltN (hb y hy) (hb z hz), ltN (hb x hx) (hb z hz)]
  simp only [decide_eq_false_iff_not, decide_eq_true_eq]
  omega
def gK (l : List aM) : List aM := qW (eA (fun a b => eM a b) l)
theorem aRk {l : List aM} (hlen : l.length ≤ 60) (hb : ∀ x ∈ l, bN x) (hid : ∀ x ∈ l, ∀ y ∈ l, x.Id = y.Id → x = y) :
  hC l (fun y5 y6 => eM y5 y6) = some (eA (fun a b => eM a b) l) ∧ gQ (eA (fun a b => eM a b) l) = some (gK l) := by
 have hl : (eA (fun a b => eM a b) l).length = l.length := (jP _ l).length_eq
 refine ⟨?_, aHm _ (by omega)⟩
 unfold hC mI
 rw [aKv l hlen]
 simp only [Option.bind_some]
 unfold sJ
 rw [if_pos ⟨aKk hb hid, by omega⟩]
 rfl
theorem mS {l : List aM} (x : aM) : x ∈ gK l ↔ x ∈ l := by
 unfold gK
 rw [aJm]
 exact (jP _ l).mem_iff
theorem sL {l : List aM} (hb : ∀ x ∈ l, bN x) (hid : ∀ x ∈ l, ∀ y ∈ l, x.Id = y.Id → x = y) : (gK l).Pairwise fun x y => dH x < dH y := by
 have hs := sI (aKk hb hid)
 have hm : ∀ x, x ∈ eA (fun a b => eM a b) l ↔ x ∈ l := fun x => (jP _ l).mem_iff
 unfold gK
 generalize hz : eA (fun a b => eM a b) l = z at hs hm
 have hs' : z.Pairwise fun x y => dH x ≤ dH y := by
  refine List.Pairwise.imp_of_mem (fun {x y} hx hy h => ?_) hs
  rw [ltN (hb y ((hm y).1 hy)) (hb x ((hm x).1 hx))] at h
  simp at h
  omega
 cases z with
 | nil => exact .nil
 | cons p t => exact aJo p t hs' fun x hx y hy h => hid x ((hm x).1 hx) y ((hm y).1 hy) (zI (hb x ((hm x).1 hx)) (hb y ((hm y).1 hy)) h)
end Go.Am
end
section
namespace Go.Am
section lists
variable {α : Type}
theorem aJe {A : List α} {x y : α} {B : List α} {p : Nat} (h : p = A.length) : (A ++ x :: B).set p y = A ++ y :: B := by
 subst h; simp
theorem aNf {A : List α} {x y z : α} {B : List α} {p : Nat} (h : p = A.length + 1) : (A ++ x :: y :: B).set p z = A ++ x :: z :: B := by
 have : A ++ x :: y :: B = (A ++ [x]) ++ y :: B := by simp
 rw [this, aJe (by simp [h])]; simp
end lists
theorem aPe (again : Int → List aM → Option (List aM)) (l : List aM) (i : Nat) (T : List aM) (x : aM) (a : Nat) (hT : T.length ≤ 100) : ∀ (n k c : Nat), c - a = n → a ≤ c → c ≤ T.length → n < k →
  iP again l (i : Int) (a : Int) k (c : Int) (T.take c ++ x :: T.drop c) = again (w64 ((i : Int) + 1)) (T.take a ++ x :: T.drop a) := by
 intro n
 induction n with
 | zero =>
  intro k c hn hac hc hk
  obtain ⟨k, rfl⟩ : ∃ q, k = q + 1 := ⟨k - 1, by omega⟩
  have : c = a := by omega
  subst this
  simp [iP, qK, jL]
 | succ n ih =>
  intro k c hn hac hc hk
  obtain ⟨k, rfl⟩ : ∃ q, k = q + 1 := ⟨k - 1, by omega⟩
  have hlt : decide ((a : Int) < (c : Int)) = true := decide_eq_true (by omega)
  obtain ⟨c, rfl⟩ : ∃ q, c = q + 1 := ⟨c - 1, by omega⟩
  have hcl : c < T.length := by omega
  have hw : w64 (((c + 1 : Nat) : Int) - 1) = (c : Int) := by rw [eL (by omega) (by omega)]; omega
  have htk : T.take (c + 1) = T.take c ++ [T[c]] := by rw [List.take_add_one, List.getElem?_eq_getElem hcl]; rfl
  have hlen : (T.take c).length = c := by simp; omega
  have e1 : T.take (c + 1) ++ x :: T.drop (c + 1) = T.take c ++ T[c] :: x :: T.drop (c + 1) := by rw [htk, List.append_assoc]; rfl
  rw [e1]
  have n1 : (((c + 1 : Nat) : Int)).toNat = c + 1 := by omega
  have n2 : ((c : Int)).toNat = c := by omega
  have g1 : idx (T.take c ++ T[c] :: x :: T.drop (c + 1)) (c : Int) = some T[c] := kA (by rw [hlen])
  have g2 : idx (T.take c ++ T[c] :: x :: T.drop (c + 1)) ((c + 1 : Nat) : Int) = some x := wX (by rw [hlen])
  have s1 : (T.take c ++ T[c] :: x :: T.drop (c + 1)).set (c + 1) T[c] = T.take c ++ T[c] :: T[c] :: T.drop (c + 1) := aNf (by rw [hlen])
  have g3 : idx (T.take c ++ T[c] :: T[c] :: T.drop (c + 1)) (c : Int) = some T[c] := kA (by rw [hlen])
  have s2 : (T.take c ++ T[c] :: T[c] :: T.drop (c + 1)).set c x = T.take c ++ x :: T[c] :: T.drop (c + 1) := aJe (by rw [hlen])
  simp only [iP, hlt, cond_true, hw, g1, g2, Option.bind_some, n1, n2, s1, g3, s2]
  rw [← List.drop_eq_getElem_cons hcl]
  exact ih k c (by omega) (by omega) (by omega) (by omega)
def oH (x : aM) (T : List aM) : Nat := T.findIdx fun y => decide (dH x < dH y)
theorem aIt (x : aM) (T : List aM) : oH x T ≤ T.length := List.findIdx_le_length
theorem zN {x : aM} {T : List aM} (hs : T.Pairwise fun x y => dH x < dH y) {k : Nat} (hk : k < T.length) : dH x < dH T[k] ↔ oH x T ≤ k := by
 constructor
 ·intro h
  refine Nat.le_of_not_lt fun hl => ?_
  have := List.not_of_lt_findIdx (p := fun y => decide (dH x < dH y)) (xs := T) (i := k) hl
  simp at this
  omega
 ·intro h
  have hl : oH x T < T.length := by omega
  have := List.findIdx_getElem (p := fun y => decide (dH x < dH y)) (xs := T) (w := hl)
  simp only [decide_eq_true_eq] at this
  rcases Nat.lt_or_eq_of_le h with h2 | h2
  ·have h3 := (List.pairwise_iff_getElem.1 hs) _ _ hl hk h2
   exact Int.lt_trans this h3
  ·have e : T[oH x T]'hl = T[k] := by congr 1
   unfold oH at e
   rw [e] at this
   exact this
theorem aSi {x y : aM} (hx : bN x) (hy : bN y) : (decide (x.Hour < y.Hour) || (decide (x.Hour = y.Hour) && decide (x.Id < y.Id))) = decide (dH x < dH y) := by
 obtain ⟨a1, a2, a3, a4⟩ := hx
 obtain ⟨b1, b2, b3, b4⟩ := hy
 unfold dH
 rw [Bool.eq_iff_iff]
 simp only [Bool.or_eq_true, Bool.and_eq_true, decide_eq_true_eq]
 omega
theorem aPd (again : Int → List aM → Option (List aM)) (l : List aM) (i : Nat) (hi : i < l.length) (T : List aM) (hT : T.length ≤ 100) (hb : ∀ y ∈ T, bN y) (hx : bN l[i]) (hs : T.Pairwise fun x y => dH x < dH y) : ∀ (j k : Nat), j ≤ T.length → j < k →
  gV again l (i : Int) T k ((max j (oH l[i] T) : Nat) : Int) ((T.drop j).contains l[i]) ((j : Int) - 1) =
   nQ again l (i : Int) ((oH l[i] T : Nat) : Int) (T.contains l[i]) T := by
 intro j
 induction j with
 | zero =>
  intro k hj hk
  obtain ⟨k, rfl⟩ : ∃ q, k = q + 1 := ⟨k - 1, by omega⟩
  simp [gV]
 | succ j ih =>
  intro k hj hk
  obtain ⟨k, rfl⟩ : ∃ q, k = q + 1 := ⟨k - 1, by omega⟩
  have hjl : j < T.length := by omega
  have e0 : (((j + 1 : Nat) : Int) - 1) = (j : Int) := by omega
  have hw : w64 ((j : Int) - 1) = (j : Int) - 1 := eL (by omega) (by omega)
  have hge : decide ((0 : Int) ≤ (j : Int)) = true := decide_eq_true (by omega)
  have hd : T.drop j = T[j] :: T.drop (j + 1) := List.drop_eq_getElem_cons hjl
  have hc : (T.drop j).contains l[i] = ((T.drop (j + 1)).contains l[i] || decide (T[j] = l[i])) := by
   rw [hd, List.contains_cons, Bool.or_comm]
   congr 1
   rw [Bool.eq_iff_iff, beq_iff_eq, decide_eq_true_eq]
   exact eq_comm
  have hcm := aSi hx (hb T[j] (List.getElem_mem hjl))
  have hlt := zN (x := l[i]) hs hjl
  rw [e0]
  simp only [gV, hge, cond_true, dP hjl, dP hi, Option.bind_some, oW, mZ, hw]
  rw [hcm]
  have := ih k (by omega) (by omega)
  rw [hc] at this
  by_cases hle : oH l[i] T ≤ j
  ·rw [decide_eq_true (hlt.2 hle), cond_true]
   rw [show max j (oH l[i] T) = j by omega] at this
   exact this
  ·rw [decide_eq_false (fun h => hle (hlt.1 h)), cond_false]
   rw [show max j (oH l[i] T) = max (j + 1) (oH l[i] T) by omega] at this
   exact this
def uE (x : aM) (T : List aM) : List aM := bif T.contains x then T else T.take (oH x T) ++ x :: T.drop (oH x T)
theorem aCy {x y : aM} {T : List aM} : y ∈ uE x T ↔ y = x ∨ y ∈ T := by
 unfold uE
 cases h : T.contains x with
 | true =>
  simp only [cond_true]
  have : x ∈ T := by simpa using h
  constructor
  ·exact .inr
  ·rintro (rfl | h)
   ·exact this
   ·exact h
 | false =>
  simp only [cond_false, List.mem_append, List.mem_cons]
  have : y ∈ T ↔ y ∈ T.take (oH x T) ∨ y ∈ T.drop (oH x T) := by rw [← List.mem_append, List.take_append_drop]
  rw [this]
  constructor
  ·rintro (h | h | h)
   ·exact .inr (.inl h)
   ·exact .inl h
   ·exact .inr (.inr h)
  ·rintro (h | h | h)
   ·exact .inr (.inl h)
   ·exact .inl h
   ·exact .inr (.inr h)
theorem aCi {x : aM} {T : List aM} (hs : T.Pairwise fun x y => dH x < dH y) (hk : ∀ y ∈ T, dH y = dH x → y = x) : (uE x T).Pairwise fun x y => dH x < dH y := by
 unfold uE
 cases h : T.contains x with
 | true => exact hs
 | false =>
  simp only [cond_false]
  have hx : x ∉ T := by simpa using h
  rw [List.pairwise_append, List.pairwise_cons]
  refine ⟨hs.sublist (List.take_sublist _ _), ⟨fun y hy => ?_, hs.sublist (List.drop_sublist _ _)⟩, fun a ha b hb => ?_⟩
  ·obtain ⟨j, hj, rfl⟩ := List.getElem_of_mem hy
   simp only [List.length_drop] at hj
   rw [List.getElem_drop]
   exact (zN hs (by omega)).2 (by omega)
  ·obtain ⟨j, hj, rfl⟩ := List.getElem_of_mem ha
   simp only [List.length_take] at hj
   rw [List.getElem_take]
   have hjT : j < T.length := by omega
   have hax : dH T[j] < dH x := by
    have h1 : ¬ dH x < dH T[j] := fun h => by have := (zN hs hjT).1 h; omega
    have h2 : dH T[j] ≠ dH x := fun h => hx (hk _ (List.getElem_mem hjT) h ▸ List.getElem_mem hjT)
    omega
   rcases List.mem_cons.1 hb with rfl | hb
   ·exact hax
   ·obtain ⟨q, hq, rfl⟩ := List.getElem_of_mem hb
    simp only [List.length_drop] at hq
    rw [List.getElem_drop]
    exact Int.lt_trans hax ((zN hs (by omega)).2 (by omega))
theorem aRi {l : List aM} (hlen : l.length ≤ 60) (hb : ∀ x ∈ l, bN x) (hid : ∀ x ∈ l, ∀ y ∈ l, x.Id = y.Id → x = y) : nE l = some (gK l) := by
 have key := kX (dS l) l.length (fun i T => some ((l.drop i).foldl (fun T x => uE x T) T))
  (fun i T => T.length ≤ i ∧ (∀ y ∈ T, y ∈ l) ∧ T.Pairwise fun x y => dH x < dH y) (fun k i T hi hI ih => ?_) (fun k T hI => ?_) BIG [] (eK (by omega)) ⟨by simp, by simp, .nil⟩
 ·unfold nE
  rw [key]
  congr 1
  have fold : ∀ (xs T : List aM), (∀ y ∈ xs, y ∈ l) → (∀ y ∈ T, y ∈ l) → (T.Pairwise fun x y => dH x < dH y) → (∀ y, y ∈ xs.foldl (fun T x => uE x T) T ↔ y ∈ T ∨ y ∈ xs) ∧ (xs.foldl (fun T x => uE x T) T).Pairwise fun x y => dH x < dH y := by
   intro xs
   induction xs with
   | nil => intro T _ _ hs; exact ⟨fun y => by simp, hs⟩
   | cons x xs ih =>
    intro T hx hT hs
    have hxl := hx x (by simp)
    obtain ⟨h1, h2⟩ := ih (uE x T) (fun y hy => hx y (by simp [hy])) (fun y hy => by
     rcases aCy.1 hy with rfl | h
     ·exact hxl
     ·exact hT y h) (aCi hs fun y hy he => hid y (hT y hy) x hxl (zI (hb y (hT y hy)) (hb x hxl) he))
    refine ⟨fun y => ?_, h2⟩
    rw [List.foldl_cons, h1, aCy, List.mem_cons]
    constructor
    ·rintro ((h | h) | h)
     ·exact .inr (.inl h)
     ·exact .inl h
     ·exact .inr (.inr h)
    ·rintro (h | h | h)
     ·exact .inl (.inr h)
     ·exact .inl (.inl h)
     ·exact .inr h
  obtain ⟨h1, h2⟩ := fold (l.drop 0) [] (by simp) (by simp) .nil
  exact mJ h2 (sL hb hid) fun y => by rw [h1, mS]; simp
 ·obtain ⟨hI1, hI2, hI3⟩ := hI
  have hxl : l[i] ∈ l := List.getElem_mem hi
  have hTb : ∀ y ∈ T, bN y := fun y hy => hb y (hI2 y hy)
  have hw : w64 ((T.length : Int) - 1) = (T.length : Int) - 1 := eL (by omega) (by omega)
  simp only [dS, show decide ((i : Int) < (l.length : Int)) = true by simpa using hi, cond_true]
  have hL2 := aPd (dS l k) l i hi T (by omega) hTb (hb _ hxl) hI3 T.length BIG (Nat.le_refl _) (eK (by omega))
  rw [show max T.length (oH l[i] T) = T.length by have := aIt l[i] T; omega, show (T.drop T.length).contains l[i] = false by simp] at hL2
  rw [hw, hL2]
  have hnext : dS l k ((i + 1 : Nat) : Int) (uE l[i] T) = some ((l.drop (i + 1)).foldl (fun T x => uE x T) (uE l[i] T)) := by
   refine ih _ ⟨?_, fun y hy => ?_, aCi hI3 fun y hy he => hid y (hI2 y hy) _ hxl (zI (hTb y hy) (hb _ hxl) he)⟩
   ·unfold uE
    cases T.contains l[i] with
    | true => simp only [cond_true]; omega
    | false => simp only [cond_false, List.length_append, List.length_cons, List.length_take, List.length_drop]; omega
   ·rcases aCy.1 hy with rfl | h
    ·exact hxl
    ·exact hI2 y h
  rw [List.drop_eq_getElem_cons hi, List.foldl_cons, ← hnext]
  unfold nQ jL uE
  cases hc : T.contains l[i] with
  | true => simp only [cond_true]; rw [cZ (by omega)]
  | false =>
   simp only [cond_false, dP hi, Option.bind_some]
   rw [fG (by simp; omega)]
   simp only [Option.bind_some]
   have hw2 : w64 (((T ++ [l[i]]).length : Int) - 1) = (T.length : Int) := by rw [eL (by simp only [List.length_append, List.length_cons, List.length_nil]; omega) (by simp only [List.length_append, List.length_cons, List.length_nil]; omega)]; simp
   rw [hw2]
   have h4 := aPe (dS l k) l i T l[i] (oH l[i] T) (by omega) _ BIG T.length rfl (aIt _ _) (Nat.le_refl _) (eK (by omega))
   rw [List.take_length, List.drop_length] at h4
   rw [h4, cZ (by omega)]
 ·simp [dS, qJ]
end Go.Am
end
section
namespace Go.Am
def eW {α : Type} (p : α → Bool) (l : List α) : Int := if l.findIdx p < l.length then (l.findIdx p : Int) else -1
theorem aMh {α : Type} (p : α → Bool) (l : List α) : decide (0 ≤ eW p l) = l.any p := by
 unfold eW
 split
 ·rename_i h
  have : l.any p = true := List.any_eq_true.2 ⟨_, List.getElem_mem h, List.findIdx_getElem (w := h)⟩
  rw [this]; simp
 ·rename_i h
  have : l.any p = false := by
   rw [Bool.eq_false_iff]
   intro hn
   obtain ⟨x, hx, hp⟩ := List.any_eq_true.1 hn
   exact h (List.findIdx_lt_length_of_exists ⟨x, hx, hp⟩)
  rw [this]; simp
theorem xQ {α : Type} (F : Nat → Int → Option Int) (l : List α) (p : α → Bool) (h1 : ∀ k i (hi : i < l.length), F (k + 1) (i : Nat) = bif p l[i] then some (i : Int) else F k ((i + 1 : Nat) : Int)) (h2 : ∀ k, F (k + 1) (l.length : Nat) = some (-1)) :
  ∀ k, l.length < k → F k 0 = some (eW p l) := by
 have main : ∀ d i k, l.length - i = d → d < k → i ≤ l.length → (∀ j (hj : j < l.length), j < i → p l[j] = false) → F k (i : Nat) = some (eW p l) := by
  intro d
  induction d with
  | zero =>
   intro i k hd hk hi hno
   obtain ⟨k, rfl⟩ : ∃ q, k = q + 1 := ⟨k - 1, by omega⟩
   have : i = l.length := by omega
   subst this
   have he : ¬ l.findIdx p < l.length := fun h => by
    have := hno _ h h
    rw [List.findIdx_getElem (w := h)] at this
    cases this
   rw [h2, eW, if_neg he]
  | succ d ih =>
   intro i k hd hk hi hno
   obtain ⟨k, rfl⟩ : ∃ q, k = q + 1 := ⟨k - 1, by omega⟩
   have hil : i < l.length := by omega
   rw [h1 k i hil]
   cases hp : p l[i] with
   | true =>
    have he : l.findIdx p = i := by
     rw [List.findIdx_eq hil]
     exact ⟨hp, fun j hj => hno j (by omega) hj⟩
    rw [cond_true, eW, he, if_pos hil]
   | false =>
    rw [cond_false]
    exact ih (i + 1) k (by omega) (by omega) (by omega) fun j hj hji => by
     rcases Nat.lt_or_eq_of_le (Nat.le_of_lt_succ hji) with h | h
     ·exact hno j hj h
     ·subst h; exact hp
 intro k hk
 exact main _ 0 k rfl (by omega) (Nat.zero_le _) fun j _ h => by omega
section del
theorem aIe (l : List Int) (f : Int → Option Bool) (p : Int → Bool) (h : ∀ x ∈ l, f x = some (p x)) (hb : l.length ≤ 1000000) : iF l f = some (eW p l) := by
 unfold iF
 refine xQ (fun k i => fY l f (l.length : Int) k i) l p (fun k i hi => ?_) (fun k => ?_) BIG (eK (by omega))
 ·have hlt : decide ((i : Int) < (l.length : Int)) = true := decide_eq_true (by omega)
  simp only [fY, hlt, cond_true, dP hi, Option.bind_some, h _ (List.getElem_mem hi), cZ (show i < 9223372036854775807 by omega)]
 ·have hlt : decide ((l.length : Int) < (l.length : Int)) = false := decide_eq_false (by omega)
  simp only [fY, hlt, cond_false, nV]
theorem aJn (f : Int → Option Bool) (p : Int → Bool) : ∀ (t W X : List Int) (k : Nat), (∀ x ∈ t, f x = some (p x)) → 0 < X.length → (W ++ X ++ t).length ≤ 1000000 → t.length < k →
  eP f k (W.length : Nat) ((W.length + X.length : Nat) : Int) (W ++ X ++ t) = some (W ++ t.filter fun x => !p x) := by
 intro t
 induction t with
 | nil =>
  intro W X k hf hX hb hk
  obtain ⟨k, rfl⟩ : ∃ q, k = q + 1 := ⟨k - 1, by omega⟩
  simp only [List.length_append, List.length_nil] at hb
  have hlt : decide (((W.length + X.length : Nat) : Int) < ((W ++ X ++ []).length : Int)) = false := decide_eq_false (by simp)
  have t1 : ((W.length : Nat) : Int).toNat = W.length := rfl
  have c1 : (decide ((0 : Int) ≤ (W.length : Int)) && decide ((W.length : Int) ≤ ((W ++ X ++ []).length : Int))) = true := by simp; omega
  have c2 : decide (W.length ≤ (W ++ X ++ []).length) = true := by simp
  have c3 : decide ((0 : Int) ≤ (W.length : Int)) = true := by simp
  simp only [eP, hlt, cond_false, nM]
  rw [c1, t1, c2, c3]
  simp [chk]
 | cons y t ih =>
  intro W X k hf hX hb hk
  obtain ⟨k, rfl⟩ : ∃ q, k = q + 1 := ⟨k - 1, by omega⟩
  simp only [List.length_append, List.length_cons] at hb hk
  have hlt : decide (((W.length + X.length : Nat) : Int) < ((W ++ X ++ y :: t).length : Int)) = true := decide_eq_true (by simp; omega)
  have i1 : idx (W ++ X ++ y :: t) ((W.length + X.length : Nat) : Int) = some y := kA (by simp)
  have hf1 := hf y (by simp)
  have hf2 : ∀ x ∈ t, f x = some (p x) := fun x hx => hf x (List.mem_cons_of_mem _ hx)
  have t1 : ((W.length : Nat) : Int).toNat = W.length := rfl
  simp only [eP, hlt, cond_true, i1, hf1, Option.bind_some, cZ (show W.length + X.length < 9223372036854775807 by omega)]
  cases hp : p y with
  | true =>
   simp only [Bool.not_true, cond_false]
   have := ih W (X ++ [y]) k hf2 (by simp) (by simp; omega) (by omega)
   have e1 : W ++ (X ++ [y]) ++ t = W ++ X ++ y :: t := by simp
   have e2 : W.length + (X ++ [y]).length = W.length + X.length + 1 := by simp; omega
   rw [e1, e2] at this
   rw [this]; simp [hp]
  | false =>
   simp only [Bool.not_false, cond_true]
   match X, hX with
   | x :: X, _ =>
    have i2 : idx (W ++ (x :: X) ++ y :: t) (W.length : Nat) = some x := by
     have : W ++ (x :: X) ++ y :: t = W ++ x :: (X ++ y :: t) := by simp
     rw [this]; exact kA rfl
    have e3 : (W ++ (x :: X) ++ y :: t).set W.length y = (W ++ [y]) ++ (X ++ [y]) ++ t := by
     have : W ++ (x :: X) ++ y :: t = W ++ x :: (X ++ y :: t) := by simp
     rw [this, aFk rfl]; simp
    rw [i2, Option.bind_some, t1, e3, cZ (by omega)]
    have := ih (W ++ [y]) (X ++ [y]) k hf2 (by simp) (by simp at hb ⊢; omega) (by omega)
    have e4 : (W ++ [y]).length = W.length + 1 := by simp
    have e5 : (W ++ [y]).length + (X ++ [y]).length = W.length + (x :: X).length + 1 := by simp; omega
    rw [e5, e4] at this
    rw [this]; simp [hp]
theorem aDl (s : List Int) (f : Int → Option Bool) (p : Int → Bool) (h : ∀ x ∈ s, f x = some (p x)) (hb : s.length ≤ 1000000) : cU s f = some (s.filter fun x => !p x) := by
 unfold cU
 rw [aIe s f p h hb, Option.bind_some]
 unfold eW
 by_cases hl : s.findIdx p < s.length
 ·rw [if_pos hl, decide_eq_false (by omega), cond_false]
  obtain ⟨i, hi⟩ : ∃ i, i = s.findIdx p := ⟨_, rfl⟩
  rw [← hi] at hl ⊢
  have hno : ∀ x ∈ s.take i, (!p x) = true := fun x hx => by
   obtain ⟨j, hj, rfl⟩ := List.getElem_of_mem hx
   simp only [List.length_take] at hj
   rw [List.getElem_take]
   have := List.not_of_lt_findIdx (p := p) (xs := s) (i := j) (by omega)
   simpa using this
  have hyes : p s[i] = true := by
   have := List.findIdx_getElem (p := p) (xs := s) (w := hi ▸ hl)
   simpa [← hi] using this
  have es : s = s.take i ++ [s[i]] ++ s.drop (i + 1) := by
   rw [List.append_assoc, List.singleton_append, ← List.drop_eq_getElem_cons hl, List.take_append_drop]
  have hloop := aJn f p (s.drop (i + 1)) (s.take i) [s[i]] BIG (fun x hx => h x (List.mem_of_mem_drop hx)) (by simp) (by rw [← es]; omega) (eK (by simp; omega))
  have e1 : (s.take i).length = i := by simp; omega
  rw [e1, ← es] at hloop
  rw [cZ (by omega)]
  have e2 : i + [s[i]].length = i + 1 := rfl
  rw [e2] at hloop
  rw [hloop]
  congr 1
  conv => rhs; rw [es]
  rw [List.filter_append, List.filter_append, List.filter_eq_self.2 hno]
  simp [hyes]
 ·rw [if_neg hl, decide_eq_true rfl, cond_true]
  congr 1
  symm
  refine List.filter_eq_self.2 fun x hx => ?_
  cases hp : p x with
  | false => rfl
  | true => exact absurd (List.findIdx_lt_length_of_exists ⟨x, hx, hp⟩) hl
end del
theorem aHc (l : List Int) (hl : l.length ≤ 9223372036854775807) (v : Int) : iT l v = some (match l.findIdx? (fun x => decide (v = x)) with | some i => (i : Int) | none => -1) := by
 unfold iT
 rw [kX (S := Unit) (fun k i _ => eU l v l.length k i) l.length (fun i _ => some (match (l.drop i).findIdx? (fun x => decide (v = x)) with | some j => ((i + j : Nat) : Int) | none => -1)) (fun _ _ => True) ?_ ?_ BIG () (eK hl) trivial]
 ·simp
 ·intro k i _ hi _ ih
  have := ih () trivial
  simp only [eU, dP hi, Option.bind_some, cZ (show i < 9223372036854775807 by omega), Int.ofNat_lt, hi, decide_true, cond_true, this]
  rw [List.drop_eq_getElem_cons hi, List.findIdx?_cons]
  by_cases h : v = l[i]
  ·simp [h]
  ·simp only [h, decide_false, cond_false, Bool.false_eq_true, if_false]
   cases List.findIdx? (fun x => decide (v = x)) (List.drop (i + 1) l) with
   | none => rfl
   | some j => simp; omega
 ·intro k _ _
  simp [eU, nU]
theorem xL (l : List Int) (hl : l.length ≤ 9223372036854775807) (v : Int) : jN l v = some (decide (v ∈ l)) := by
 unfold jN
 rw [aHc l hl v]
 cases h : List.findIdx? (fun x => decide (v = x)) l with
 | none =>
  simp at h
  have : v ∉ l := fun hm => h v hm rfl
  simp [this]
 | some j =>
  have : v ∈ l := by
   obtain ⟨h1, h2, _⟩ := List.findIdx?_eq_some_iff_getElem.1 h
   simp at h2
   rw [h2]; exact List.getElem_mem h1
  simp [this]
theorem aIu (out : List Int) (p : Int) (hb : out.length ≤ 1000000) : iT out p = some (eW (fun x => decide (p = x)) out) := by
 unfold iT
 refine xQ (fun k i => eU out p (out.length : Int) k i) out (fun x => decide (p = x)) (fun k i hi => ?_) (fun k => ?_) BIG (eK (by omega))
 ·have hlt : decide ((i : Int) < (out.length : Int)) = true := decide_eq_true (by omega)
  simp only [eU, hlt, cond_true, dP hi, Option.bind_some, cZ (show i < 9223372036854775807 by omega)]
 ·have hlt : decide ((out.length : Int) < (out.length : Int)) = false := decide_eq_false (by omega)
  simp only [eU, hlt, cond_false, nU]
theorem aLy (a b : List Int) (ha : a.length ≤ 100000) (hb : b.length ≤ 100000) : mP [a, b] = some (a ++ b) := by
 have e1 : ∀ k s, gJ [a, b] 2 (k + 3) 0 s = (app 8 s a).bind fun x => (app 8 x b).bind fun y => some y := by
  intro k s
  have w1 : w64 (0 + 1) = 1 := rfl
  have w2 : w64 (1 + 1) = 2 := rfl
  have i0 : idx [a, b] 0 = some a := rfl
  have i1 : idx [a, b] 1 = some b := rfl
  have c0 : decide ((0 : Int) < 2) = true := rfl
  have c1 : decide ((1 : Int) < 2) = true := rfl
  have c2 : decide ((2 : Int) < 2) = false := rfl
  rw [gJ, c0, cond_true, i0, Option.bind_some, w1]
  refine congrArg _ (funext fun x => ?_)
  rw [gJ, c1, cond_true, i1, Option.bind_some, w2]
  refine congrArg _ (funext fun y => ?_)
  rw [gJ, c2, cond_false]; rfl
 have hB : BIG = (18446744073709551616 - 3) + 3 := rfl
 have hL : (([a, b] : List (List Int)).length : Int) = 2 := rfl
 have g1 : w64 (0 + (a.length : Int)) = a.length := by rw [eL (by omega) (by omega)]; omega
 have g2 : w64 ((a.length : Int) + (b.length : Int)) = ((a.length + b.length : Nat) : Int) := by rw [eL (by omega) (by omega)]; omega
 have hgrow : oI ((a.length + b.length : Nat) : Int) = some [] := by
  unfold oI
  have w0 : w64 (0 - 0) = 0 := rfl
  rw [decide_eq_false (by omega), cond_false, w0, Int.sub_zero, eL (by omega) (by omega)]
  by_cases h0 : (0 : Int) < ((a.length + b.length : Nat) : Int)
  ·have c1 : decide (((a.length + b.length : Nat) : Int) * ((8 : Nat) : Int) ≤ 140737488355328) = true := decide_eq_true (by omega)
   rw [decide_eq_true h0, cond_true, c1]; rfl
  ·rw [decide_eq_false h0, cond_false]
 unfold mP
 rw [hB, hL]
 have w1 : w64 (0 + 1) = 1 := rfl
 have w2 : w64 (1 + 1) = 2 := rfl
 have i0 : idx [a, b] 0 = some a := rfl
 have i1 : idx [a, b] 1 = some b := rfl
 have c0 : decide ((0 : Int) < 2) = true := rfl
 have c1 : decide ((1 : Int) < 2) = true := rfl
 have c2 : decide ((2 : Int) < 2) = false := rfl
 rw [iE, c0, cond_true, i0, Option.bind_some, g1, decide_eq_false (by omega), cond_false, w1, iE, c1, cond_true, i1, Option.bind_some, g2, decide_eq_false (by omega), cond_false, w2, iE, c2, cond_false]
 unfold pM
 rw [hgrow, Option.bind_some, hB, hL, e1, fG (by simp; omega), Option.bind_some, List.nil_append, fG (by omega), Option.bind_some]
end Go.Am
end
section
namespace Go.Am
abbrev zP : aA := aA.mk false false 0 0 false false false false
def pl (l : aO) (n : Int) : aA := aK n zP l.players
structure WF (l : aO) : Prop where
 fd : rI l.Field = true
 keys : (l.players.map Prod.fst).Nodup
 cnt : l.players.length ≤ 60
 ent : 0 ≤ l.entered ∧ l.entered ≤ 60
 mr : 0 ≤ l.more ∧ l.more ≤ 60
 turn : ∀ n, (pl l n).entered = true → 1 ≤ (pl l n).turn ∧ (pl l n).turn ≤ l.entered ∧ 0 ≤ (pl l n).rank ∧ (pl l n).rank ≤ 9999
 inj : ∀ n m, (pl l n).entered = true → (pl l m).entered = true → (pl l n).turn = (pl l m).turn → n = m
theorem aEd {α β : Type} [DecidableEq α] {n : α} {z : β} : ∀ {m : List (α × β)}, n ∉ m.map Prod.fst → aK n z m = z
 | [], _ => rfl
 | (b, v) :: m, h => by
  simp only [List.map_cons, List.mem_cons, not_or] at h
  simp only [aK, h.1, decide_false, cond_false]
  exact aEd h.2
theorem aFb {l : aO} {n : Int} (h : (pl l n).entered = true) : n ∈ l.players.map Prod.fst := by
 refine Classical.byContradiction fun hn => ?_
 unfold pl at h
 rw [aEd hn] at h
 cases h
theorem wY (l : aO) (n : Int) : isE l.players n = ((pl l n).entered && !(pl l n).quit && !(pl l n).had) := rfl
def eI (l : aO) (n : Int) : Int := (if (pl l n).rank = 0 then 10000 else (pl l n).rank) * 100 + (pl l n).turn
theorem or3 (a b c : Int) : oA [a, b, c] = some (if a ≠ 0 then a else if b ≠ 0 then b else c) := by
 obtain ⟨k, hk⟩ : ∃ k, BIG = k + 1 + 1 + 1 + 1 := ⟨BIG - 4, by unfold BIG; omega⟩
 unfold oA
 rw [show ((([a, b, c] : List Int).length : Nat) : Int) = 3 from rfl, hk]
 simp only [nX, sD, show decide ((0 : Int) < 3) = true from rfl, cond_true, show idx [a, b, c] 0 = some a from rfl, Option.bind_some, show w64 (0 + 1) = 1 from rfl, show decide ((1 : Int) < 3) = true from rfl, show idx [a, b, c] 1 = some b from rfl, show w64 (1 + 1) = 2 from rfl, show decide ((2 : Int) < 3) = true from rfl, show idx [a, b, c] 2 = some c from rfl, show w64 (2 + 1) = 3 from rfl, show decide ((3 : Int) < 3) = false from rfl, cond_false]
 by_cases h : a = 0
 ·subst h
  by_cases h2 : b = 0
  ·subst h2
   by_cases h3 : c = 0
   ·subst h3; simp
   ·simp [h3]
  ·simp [h2]
 ·simp [h]
theorem aQj (p : aA) : iN p = some (if p.rank = 0 then 1 else 0) := by
 unfold iN
 by_cases h : p.rank = 0 <;> simp [h]
theorem aRe {l : aO} (h : WF l) {a b : Int} (ha : (pl l a).entered = true) (hb : (pl l b).entered = true) : ∃ r, eN a b l = some r ∧ (r < 0 ↔ eI l a < eI l b) := by
 obtain ⟨a1, a2, a3, a4⟩ := h.turn a ha
 obtain ⟨b1, b2, b3, b4⟩ := h.turn b hb
 have he := h.ent.2
 unfold eN
 rw [show (aK a (aA.mk false false 0 0 false false false false) l.players) = pl l a from rfl, show (aK b (aA.mk false false 0 0 false false false false) l.players) = pl l b from rfl]
 simp only [aQj, Option.bind_some]
 rw [eL (by split <;> split <;> omega) (by split <;> split <;> omega), eL (by omega) (by omega), eL (by omega) (by omega), or3]
 refine ⟨_, rfl, ?_⟩
 unfold eI
 by_cases h1 : (pl l a).rank = 0 <;> by_cases h2 : (pl l b).rank = 0 <;> simp only [h1, h2, if_true, if_false] <;> (repeat' split) <;> constructor <;> intro h3 <;> omega
theorem ltE {l : aO} (h : WF l) {a b : Int} (ha : (pl l a).entered = true) (hb : (pl l b).entered = true) : ltO (fun a b => eN a b l) a b = decide (eI l a < eI l b) := by
 obtain ⟨r, h1, h2⟩ := aRe h ha hb
 unfold ltO
 simp only [h1]
 rw [Bool.eq_iff_iff]
 simpa using h2
theorem zH {l : aO} (h : WF l) {a b : Int} (ha : (pl l a).entered = true) (hb : (pl l b).entered = true) (he : eI l a = eI l b) : a = b := by
 obtain ⟨a1, a2, a3, a4⟩ := h.turn a ha
 obtain ⟨b1, b2, b3, b4⟩ := h.turn b hb
 have he2 := h.ent.2
 refine h.inj a b ha hb ?_
 unfold eI at he
 split at he <;> split at he <;> omega
def rV (l : aO) : List Int := (l.players.filter fun p => isE l.players p.1).map Prod.fst
def bW (l : aO) : List Int := eA (fun a b => eN a b l) (rV l)
theorem zO {l : aO} {n : Int} : n ∈ rV l ↔ isE l.players n = true := by
 unfold rV
 constructor
 ·intro h
  obtain ⟨p, hp, rfl⟩ := List.mem_map.1 h
  exact (List.mem_filter.1 hp).2
 ·intro h
  have he : (pl l n).entered = true := by
   rw [wY] at h
   simp only [Bool.and_eq_true] at h
   exact h.1.1
  obtain ⟨p, hp, rfl⟩ := List.mem_map.1 (aFb he)
  exact List.mem_map.2 ⟨p, List.mem_filter.2 ⟨hp, h⟩, rfl⟩
theorem xD {l : aO} {n : Int} (h : n ∈ rV l) : (pl l n).entered = true := by
 have := zO.1 h
 rw [wY] at this
 simp only [Bool.and_eq_true] at this
 exact this.1.1
theorem aKm {l : aO} (h : WF l) : sG (rV l) (fun a b => eN a b l) = true := by
 unfold sG
 simp only [List.all_eq_true, Bool.and_eq_true, Bool.or_eq_true, Bool.not_eq_true', decide_eq_true_eq]
 intro x hx
 have ex := xD hx
 refine ⟨by rw [ltE h ex ex]; simp, fun y hy => ?_⟩
 have ey := xD hy
 refine ⟨⟨?_, ?_⟩, fun z hz => ?_⟩
 ·obtain ⟨r, h1, _⟩ := aRe h ex ey
  simp [h1]
 ·rw [ltE h ex ey, ltE h ey ex]
  simp only [decide_eq_true_eq]
  rcases Int.lt_trichotomy (eI l x) (eI l y) with h1 | h1 | h1
  ·exact .inl (.inr h1)
  ·exact .inl (.inl (zH h ex ey h1))
  ·exact .inr h1
 ·have ez := xD hz
  rw [ltE h ex ey, ltE h ey ez, ltE h ex ez]
  simp only [Bool.and_eq_false_iff, decide_eq_false_iff_not, decide_eq_true_eq]
  omega
theorem wA {l : aO} (h : WF l) : fE l = some (bW l) := by
 have e1 : (fun p : Int × aA => (gH l.players p.1).getD false) = fun p => isE l.players p.1 := by
  funext p
  rw [wB]; rfl
 have hc := h.cnt
 have hl : (rV l).length ≤ 60 := by
  unfold rV
  rw [List.length_map]
  exact Nat.le_trans (List.length_filter_le _ _) hc
 unfold fE
 rw [if_pos (by omega), e1]
 unfold sJ
 rw [if_pos ⟨aKm h, by show (rV l).length < _; omega⟩]
 rfl
theorem mF {l : aO} {n : Int} : n ∈ bW l ↔ isE l.players n = true := by
 unfold bW
 rw [(jP _ _).mem_iff]
 exact zO
theorem lL {l : aO} (h : WF l) : (bW l).length ≤ 60 := by
 unfold bW
 rw [(jP _ _).length_eq]
 unfold rV
 rw [List.length_map]
 exact Nat.le_trans (List.length_filter_le _ _) h.cnt
theorem aHs {l : aO} {n : Int} (h : n ∈ bW l) : (pl l n).entered = true := xD (zO.2 (mF.1 h))
theorem rY {l : aO} (h : WF l) : (bW l).Pairwise fun a b => eI l a < eI l b := by
 have hs := sI (aKm h)
 have hn : (bW l).Nodup := by
  refine (jP _ _).nodup_iff.2 ?_
  unfold rV
  refine List.Nodup.sublist ?_ h.keys
  exact (List.filter_sublist).map _
 refine List.Pairwise.imp_of_mem (fun {a b} ha hb hab => ?_) (hs.and hn)
 have ea := aHs (l := l) ha
 have eb := aHs (l := l) hb
 rw [ltE h eb ea] at hab
 have h1 := hab.1
 simp at h1
 rcases Int.lt_or_eq_of_le h1 with h2 | h2
 ·exact h2
 ·exact absurd (zH h ea eb h2) hab.2
theorem yW {l : aO} (h : WF l) : (bW l).Nodup := (rY h).imp fun {a b} hab e => by subst e; omega
def gd (l : aO) (xs : List Int) : Nat := (xs.filter fun n => (pl l n).guard).length
theorem aGg (l : aO) (xs : List Int) (hb : xs.length ≤ 1000) : iZ l xs = some ((gd l xs : Nat) : Int) := by
 have key := kX (S := Int) (fun k i s => gG l xs (xs.length : Int) k s i) xs.length (fun i s => some (s + ((gd l (xs.drop i) : Nat) : Int))) (fun i s => 0 ≤ s ∧ s ≤ i) (fun k i s hi hI ih => ?_) (fun k s hI => ?_) BIG 0 (eK (by omega)) ⟨Int.le_refl _, Int.le_refl _⟩
 ·unfold iZ
  rw [key]
  simp
 ·have hlt : decide ((i : Int) < (xs.length : Int)) = true := decide_eq_true (by omega)
  simp only [gG, hlt, cond_true, dP hi, Option.bind_some, cZ (show i < 9223372036854775807 by omega)]
  rw [show (aK xs[i] (aA.mk false false 0 0 false false false false) l.players) = pl l xs[i] from rfl]
  have hd : gd l (xs.drop i) = (if (pl l xs[i]).guard then 1 else 0) + gd l (xs.drop (i + 1)) := by
   unfold gd
   rw [List.drop_eq_getElem_cons hi, List.filter_cons]
   split <;> simp <;> omega
  rw [hd]
  cases (pl l xs[i]).guard with
  | true =>
   simp only [cond_true, if_true]
   rw [eL (by omega) (by omega), ih _ ⟨by omega, by omega⟩]
   congr 1
   omega
  | false =>
   simp only [cond_false, Bool.false_eq_true, if_false]
   rw [ih _ ⟨by omega, by omega⟩]
   congr 1
   omega
 ·simp [gG, pH, gd]
def plc (l : aO) : Int := l.Field.Places + l.more
theorem xT {l : aO} (h : WF l) : eX l = some (plc l) := by
 have hf := h.fd
 unfold rI at hf
 simp only [Bool.and_eq_true, xI] at hf
 have hm := h.mr
 unfold eX plc
 rw [eL (by omega) (by omega)]
def rU (l : aO) (acc : List Int) : List Int → List Int
 | [] => acc
 | n :: t => rU l (bif decide ((acc.length : Int) < plc l) && (!(pl l n).guard || decide (((gd l acc : Nat) : Int) < l.Field.Guards)) then acc ++ [n] else acc) t
theorem aCz (l : aO) : ∀ (t acc : List Int), (rU l acc t).length ≤ acc.length + t.length
 | [], acc => by simp [rU]
 | n :: t, acc => by
  refine Nat.le_trans (aCz l t _) ?_
  cases decide ((acc.length : Int) < plc l) && (!(pl l n).guard || decide (((gd l acc : Nat) : Int) < l.Field.Guards)) <;> simp <;> omega
def kB (l : aO) : List Int := rU l [] (bW l)
theorem aGi {l : aO} (h : WF l) : kW l = some (kB l) := by
 have hl := lL h
 unfold kW kB
 rw [wA h]
 simp only [Option.bind_some]
 have key := kX (gI l (bW l) ((bW l).length : Int)) (bW l).length (fun i acc => some (rU l acc ((bW l).drop i))) (fun i acc => acc.length ≤ i) (fun k i acc hi hI ih => ?_) (fun k acc hI => ?_) BIG [] (eK (by omega)) (Nat.le_refl _)
 ·rw [key]; simp
 ·have hlt : decide ((i : Int) < ((bW l).length : Int)) = true := decide_eq_true (by omega)
  simp only [gI, hlt, cond_true, dP hi, Option.bind_some, xT h, cZ (show i < 9223372036854775807 by omega)]
  rw [show (aK (bW l)[i] (aA.mk false false 0 0 false false false false) l.players) = pl l (bW l)[i] from rfl, aGg l acc (by omega)]
  simp only [Option.bind_some, oW, mZ]
  rw [List.drop_eq_getElem_cons hi, rU]
  cases hc : decide ((acc.length : Int) < plc l) && (!(pl l (bW l)[i]).guard || decide (((gd l acc : Nat) : Int) < l.Field.Guards)) with
  | true =>
   simp only [cond_true]
   rw [fG (by simp; omega), Option.bind_some, ih _ (by simp; omega)]
  | false =>
   simp only [cond_false]
   rw [ih _ (by omega)]
 ·simp [gI, pI, rU]
def dD (l : aO) : List Int := bif l.frozen then l.first ++ l.late else kB l
theorem aFd {l : aO} (h : WF l) (hf : l.first.length ≤ 1000) (hl : l.late.length ≤ 1000) : eH l = some (dD l) := by
 unfold eH dD
 cases l.frozen with
 | true =>
  simp only [Bool.not_true, cond_false, cond_true]
  rw [aLy _ _ (by omega) (by omega)]; rfl
 | false =>
  simp only [Bool.not_false, cond_true, cond_false]
  rw [aGi h]; rfl
def dY (l : aO) : aO := bif l.frozen then l else { l with frozen := true, first := kB l }
theorem aGf {l : aO} (h : WF l) : kV l = some (dY l) := by
 unfold kV dY
 cases hz : l.frozen with
 | true => simp
 | false =>
  simp only [Bool.not_false, cond_true, cond_false]
  rw [aGi h]; rfl
end Go.Am
end
section
namespace Go.Am
theorem aMv (l : aO) (n : Int) : aK n (aA.mk false false 0 0 false false false false) l.players = pl l n := rfl
def bH (l : aO) (x : aM) : aO :=
 let p := pl l x.Player
 bif decide (x.Kind = 1) || decide (x.Kind = 2) then
  bif decide (x.Hour ≤ l.Field.Close) && !p.entered then
   aO.mk l.Field (cT x.Player (aA.mk true (decide (x.Kind = 2)) x.Rank (l.entered + 1) p.quit p.signed p.wild p.had) l.players) l.wilds l.frozen l.first l.late l.more (l.entered + 1)
  else aO.mk l.Field (cT x.Player p l.players) l.wilds l.frozen l.first l.late l.more l.entered
 else bif decide (x.Kind = 3) then
  bif ((decide (x.Hour ≤ l.Field.Freeze) && !p.wild) && !p.quit) && decide ((l.wilds.length : Int) < l.Field.Wilds) then
   aO.mk l.Field (cT x.Player (aA.mk p.entered p.guard p.rank p.turn p.quit p.signed true true) l.players) (l.wilds ++ [x.Player]) l.frozen l.first l.late l.more l.entered
  else aO.mk l.Field (cT x.Player p l.players) l.wilds l.frozen l.first l.late l.more l.entered
 else bif decide (x.Kind = 4) then
  aO.mk l.Field (cT x.Player (aA.mk p.entered p.guard p.rank p.turn true p.signed false p.had) l.players) (l.wilds.filter fun m => !decide (m = x.Player)) l.frozen l.first l.late
   (bif p.wild && decide (l.Field.Freeze < x.Hour) then l.more + 1 else l.more) l.entered
 else bif decide (x.Kind = 5) then
  aO.mk l.Field (cT x.Player (aA.mk p.entered p.guard p.rank p.turn p.quit true p.wild p.had) l.players) l.wilds l.frozen l.first l.late l.more l.entered
 else aO.mk l.Field (cT x.Player p l.players) l.wilds l.frozen l.first l.late l.more l.entered
theorem aQu (l : aO) (x : aM) (he : 0 ≤ l.entered ∧ l.entered ≤ 60) (hm : 0 ≤ l.more ∧ l.more ≤ 60) (hw : l.wilds.length ≤ 1000) : kJ l x = some (bH l x) := by
 have hd : cU l.wilds (fun y => eY y x) = some (l.wilds.filter fun m => !decide (m = x.Player)) := aDl l.wilds _ (fun m => decide (m = x.Player)) (fun m _ => rfl) (by omega)
 have ha : app 8 l.wilds [x.Player] = some (l.wilds ++ [x.Player]) := fG (by simp; omega)
 have w1 : w64 (l.entered + 1) = l.entered + 1 := eL (by omega) (by omega)
 have w2 : w64 (l.more + 1) = l.more + 1 := eL (by omega) (by omega)
 unfold kJ bH
 simp only [aMv, mZ, Option.bind_some, hd, ha, w1, w2]
 by_cases h1 : x.Kind = 1
 ·simp only [h1, decide_true, cond_true, Bool.true_or]
  cases decide (x.Hour ≤ l.Field.Close) && !(pl l x.Player).entered <;> rfl
 ·by_cases h2 : x.Kind = 2
  ·simp only [h2, decide_true, cond_true, Bool.or_true, show decide ((2 : Int) = 1) = false from rfl, cond_false]
   cases decide (x.Hour ≤ l.Field.Close) && !(pl l x.Player).entered <;> rfl
  ·have e1 : decide (x.Kind = 1) = false := decide_eq_false h1
   have e2 : decide (x.Kind = 2) = false := decide_eq_false h2
   simp only [e1, e2, cond_false, Bool.or_self]
   cases decide (x.Kind = 3) with
   | true =>
    simp only [cond_true]
    cases ((decide (x.Hour ≤ l.Field.Freeze) && !(pl l x.Player).wild) && !(pl l x.Player).quit) && decide ((l.wilds.length : Int) < l.Field.Wilds) <;> rfl
   | false =>
    simp only [cond_false]
    cases decide (x.Kind = 4) with
    | true =>
     simp only [cond_true]
     cases (pl l x.Player).wild && decide (l.Field.Freeze < x.Hour) <;> rfl
    | false =>
     simp only [cond_false]
     cases decide (x.Kind = 5) <;> rfl
theorem aBa {α β : Type} [DecidableEq α] (a : α) (v : β) : ∀ m : List (α × β), (cT a v m).map Prod.fst = if a ∈ m.map Prod.fst then m.map Prod.fst else m.map Prod.fst ++ [a]
 | [] => rfl
 | (b, u) :: m => by
  simp only [cT]
  by_cases h : a = b
  ·subst h; simp
  ·simp only [h, decide_false, cond_false, List.map_cons, aBa a v m, List.mem_cons, false_or]
   split <;> simp
theorem aLg {α β : Type} [DecidableEq α] {a : α} {v : β} {m : List (α × β)} (h : (m.map Prod.fst).Nodup) : ((cT a v m).map Prod.fst).Nodup := by
 rw [aBa]
 split
 ·exact h
 ·rename_i hn
  rw [List.nodup_append]
  exact ⟨h, by simp, fun x hx y hy => by simp at hy; subst hy; exact fun e => hn (e ▸ hx)⟩
theorem aOo {α β : Type} [DecidableEq α] (a : α) (v : β) (m : List (α × β)) : (cT a v m).length ≤ m.length + 1 := by
 have := congrArg List.length (aBa a v m)
 rw [List.length_map] at this
 rw [this]
 split <;> simp
structure Cn (l : aO) (i : Nat) : Prop where
 pls : l.players.length ≤ i
 ent : l.entered ≤ i
 mr : l.more ≤ i
 wl : l.wilds.length ≤ i
def upP (l : aO) (x : aM) : aA :=
 let p := pl l x.Player
 bif decide (x.Kind = 1) || decide (x.Kind = 2) then
  bif decide (x.Hour ≤ l.Field.Close) && !p.entered then aA.mk true (decide (x.Kind = 2)) x.Rank (l.entered + 1) p.quit p.signed p.wild p.had else p
 else bif decide (x.Kind = 3) then
  bif ((decide (x.Hour ≤ l.Field.Freeze) && !p.wild) && !p.quit) && decide ((l.wilds.length : Int) < l.Field.Wilds) then aA.mk p.entered p.guard p.rank p.turn p.quit p.signed true true else p
 else bif decide (x.Kind = 4) then aA.mk p.entered p.guard p.rank p.turn true p.signed false p.had
 else bif decide (x.Kind = 5) then aA.mk p.entered p.guard p.rank p.turn p.quit true p.wild p.had
 else p
theorem rP (l : aO) (x : aM) : (bH l x).players = cT x.Player (upP l x) l.players := by
 unfold bH upP
 cases decide (x.Kind = 1) || decide (x.Kind = 2) with
 | true => simp only [cond_true]; cases decide (x.Hour ≤ l.Field.Close) && !(pl l x.Player).entered <;> rfl
 | false =>
  simp only [cond_false]
  cases decide (x.Kind = 3) with
  | true => simp only [cond_true]; cases ((decide (x.Hour ≤ l.Field.Freeze) && !(pl l x.Player).wild) && !(pl l x.Player).quit) && decide ((l.wilds.length : Int) < l.Field.Wilds) <;> rfl
  | false =>
   simp only [cond_false]
   cases decide (x.Kind = 4) with
   | true => rfl
   | false => simp only [cond_false]; cases decide (x.Kind = 5) <;> rfl
theorem mE (l : aO) (x : aM) (n : Int) : pl (bH l x) n = bif decide (n = x.Player) then upP l x else pl l n := by
 unfold pl
 rw [rP, aAz]
theorem kR (l : aO) (x : aM) : (bH l x).Field = l.Field ∧ (bH l x).frozen = l.frozen ∧ (bH l x).first = l.first ∧ (bH l x).late = l.late := by
 unfold bH
 cases decide (x.Kind = 1) || decide (x.Kind = 2) with
 | true => simp only [cond_true]; cases decide (x.Hour ≤ l.Field.Close) && !(pl l x.Player).entered <;> exact ⟨rfl, rfl, rfl, rfl⟩
 | false =>
  simp only [cond_false]
  cases decide (x.Kind = 3) with
  | true => simp only [cond_true]; cases ((decide (x.Hour ≤ l.Field.Freeze) && !(pl l x.Player).wild) && !(pl l x.Player).quit) && decide ((l.wilds.length : Int) < l.Field.Wilds) <;> exact ⟨rfl, rfl, rfl, rfl⟩
  | false =>
   simp only [cond_false]
   cases decide (x.Kind = 4) with
   | true => exact ⟨rfl, rfl, rfl, rfl⟩
   | false => simp only [cond_false]; cases decide (x.Kind = 5) <;> exact ⟨rfl, rfl, rfl, rfl⟩
def pP (l : aO) (x : aM) : Bool := (decide (x.Kind = 1) || decide (x.Kind = 2)) && (decide (x.Hour ≤ l.Field.Close) && !(pl l x.Player).entered)
theorem aBk (l : aO) (x : aM) : (bH l x).entered = (bif pP l x then l.entered + 1 else l.entered) ∧
  (pP l x = true → (upP l x).entered = true ∧ (upP l x).turn = l.entered + 1 ∧ (upP l x).rank = x.Rank ∧ (pl l x.Player).entered = false) ∧
  (pP l x = false → (upP l x).entered = (pl l x.Player).entered ∧ (upP l x).turn = (pl l x.Player).turn ∧ (upP l x).rank = (pl l x.Player).rank) := by
 unfold bH upP pP
 cases decide (x.Kind = 1) || decide (x.Kind = 2) with
 | true =>
  simp only [cond_true, Bool.true_and]
  cases h : decide (x.Hour ≤ l.Field.Close) && !(pl l x.Player).entered with
  | true =>
   simp only [Bool.and_eq_true, Bool.not_eq_true'] at h
   exact ⟨rfl, fun _ => ⟨rfl, rfl, rfl, h.2⟩, fun h => by cases h⟩
  | false => exact ⟨rfl, (fun h => by cases h), fun _ => ⟨rfl, rfl, rfl⟩⟩
 | false =>
  simp only [cond_false, Bool.false_and]
  cases decide (x.Kind = 3) with
  | true => simp only [cond_true]; cases ((decide (x.Hour ≤ l.Field.Freeze) && !(pl l x.Player).wild) && !(pl l x.Player).quit) && decide ((l.wilds.length : Int) < l.Field.Wilds) <;> exact ⟨rfl, (fun h => by cases h), fun _ => ⟨rfl, rfl, rfl⟩⟩
  | false =>
   simp only [cond_false]
   cases decide (x.Kind = 4) with
   | true => exact ⟨rfl, (fun h => by cases h), fun _ => ⟨rfl, rfl, rfl⟩⟩
   | false => simp only [cond_false]; cases decide (x.Kind = 5) <;> exact ⟨rfl, (fun h => by cases h), fun _ => ⟨rfl, rfl, rfl⟩⟩
theorem aBl (l : aO) (x : aM) : (l.more ≤ (bH l x).more ∧ (bH l x).more ≤ l.more + 1) ∧ (bH l x).wilds.length ≤ l.wilds.length + 1 := by
 have hf : (l.wilds.filter fun m => !decide (m = x.Player)).length ≤ l.wilds.length := List.length_filter_le _ _
 unfold bH
 cases decide (x.Kind = 1) || decide (x.Kind = 2) with
 | true => simp only [cond_true]; cases decide (x.Hour ≤ l.Field.Close) && !(pl l x.Player).entered <;> simp <;> omega
 | false =>
  simp only [cond_false]
  cases decide (x.Kind = 3) with
  | true => simp only [cond_true]; cases ((decide (x.Hour ≤ l.Field.Freeze) && !(pl l x.Player).wild) && !(pl l x.Player).quit) && decide ((l.wilds.length : Int) < l.Field.Wilds) <;> simp <;> omega
  | false =>
   simp only [cond_false]
   cases decide (x.Kind = 4) with
   | true => simp only [cond_true]; cases (pl l x.Player).wild && decide (l.Field.Freeze < x.Hour) <;> simp only [cond_true, cond_false] <;> omega
   | false => simp only [cond_false]; cases decide (x.Kind = 5) <;> simp <;> omega
theorem aQv {l : aO} {x : aM} {i : Nat} (h : WF l) (hc : Cn l i) (hi : i < 60) (hx : iJ x = true) : WF (bH l x) ∧ Cn (bH l x) (i + 1) := by
 obtain ⟨hF, _, _, _⟩ := kR l x
 obtain ⟨t1, t2, t3⟩ := aBk l x
 obtain ⟨m1, m2⟩ := aBl l x
 have hent := h.ent
 have hmr := h.mr
 obtain ⟨c1, c2, c3, c4⟩ := hc
 have hpl : (bH l x).players.length ≤ i + 1 := by rw [rP]; have := aOo x.Player (upP l x) l.players; omega
 have hE : 0 ≤ (bH l x).entered ∧ (bH l x).entered ≤ (i : Int) + 1 ∧ l.entered ≤ (bH l x).entered := by rw [t1]; cases pP l x <;> simp only [cond_true, cond_false] <;> omega
 have hrank : pP l x = true → 0 ≤ x.Rank ∧ x.Rank ≤ 9999 := fun he => by
  unfold pP at he
  simp only [Bool.and_eq_true, Bool.or_eq_true, decide_eq_true_eq] at he
  unfold iJ at hx
  simp only [Bool.and_eq_true] at hx
  rcases he.1 with h1 | h1
  ·have := hx.2
   rw [h1] at this
   simpa [wi] using this
  ·have := hx.2
   rw [h1] at this
   simp only [show decide ((2 : Int) = 1) = false from rfl, cond_false, decide_true, cond_true, xI] at this
   omega
 refine ⟨⟨by rw [hF]; exact h.fd, by rw [rP]; exact aLg h.keys, by omega, ⟨hE.1, by omega⟩, ⟨by omega, by omega⟩, fun n hn => ?_, fun n m hn hm he => ?_⟩, ⟨hpl, by omega, by omega, by omega⟩⟩
 ·rw [mE] at hn ⊢
  by_cases hnx : n = x.Player
  ·subst hnx
   simp only [decide_true, cond_true] at hn ⊢
   cases he : pP l x with
   | true =>
    obtain ⟨_, e2, e3, _⟩ := t2 he
    have := hrank he
    rw [t1, he, e2, e3]
    simp only [cond_true]
    omega
   | false =>
    obtain ⟨e1, e2, e3⟩ := t3 he
    rw [e1] at hn
    have := h.turn _ hn
    rw [e2, e3]
    omega
  ·simp only [hnx, decide_false, cond_false] at hn ⊢
   have := h.turn _ hn
   omega
 ·rw [mE] at hn hm
  rw [mE, mE] at he
  by_cases hnx : n = x.Player <;> by_cases hmx : m = x.Player
  ·rw [hnx, hmx]
  ·subst hnx
   simp only [decide_true, cond_true, hmx, decide_false, cond_false] at hn hm he
   cases hen : pP l x with
   | true =>
    have := h.turn _ hm
    have := (t2 hen).2.1
    omega
   | false =>
    obtain ⟨e1, e2, _⟩ := t3 hen
    rw [e1] at hn
    rw [e2] at he
    exact h.inj _ _ hn hm he
  ·subst hmx
   simp only [decide_true, cond_true, hnx, decide_false, cond_false] at hn hm he
   cases hen : pP l x with
   | true =>
    have := h.turn _ hn
    have := (t2 hen).2.1
    omega
   | false =>
    obtain ⟨e1, e2, _⟩ := t3 hen
    rw [e1] at hm
    rw [e2] at he
    exact h.inj _ _ hn hm he
  ·simp only [hnx, hmx, decide_false, cond_false] at hn hm he
   exact h.inj _ _ hn hm he
end Go.Am
end
section
namespace Go.Am
def wl (l : aO) (a b : List Int) : aO := aO.mk l.Field l.players l.wilds l.frozen a b l.more l.entered
theorem aBy {l : aO} (h : WF l) (a b : List Int) : WF (wl l a b) := ⟨h.fd, h.keys, h.cnt, h.ent, h.mr, h.turn, h.inj⟩
def lW (l : aO) (inn : List Int) (n : Int) : Bool := ((pl l n).signed && !decide (n ∈ inn)) && (!(pl l n).guard || decide (((gd l inn : Nat) : Int) < l.Field.Guards))
theorem aNw (l : aO) (inn : List Int) (n : Int) (hb : inn.length ≤ 1000) : kU n l inn = some (lW l inn n) := by
 unfold kU lW
 rw [aMv, aGg l inn hb, xL inn (by omega) n]
 simp only [Option.bind_some, mZ, oW]
theorem aHx (l : aO) (n : Int) : fS n l.players = some (!isE l.players n) := by
 unfold fS
 rw [wB]; rfl
def jQ (l : aO) (first : List Int) : Nat → List Int → List Int
 | 0, late => late
 | k + 1, late => bif decide (((first ++ late).length : Int) < plc l) then (match (bW l).find? (lW l (first ++ late)) with
  | none => late
  | some n => jQ l first k (late ++ [n])) else late
theorem vI {l : aO} (h : WF l) : 1 ≤ plc l ∧ plc l ≤ 92 := by
 have hf := h.fd
 unfold rI at hf
 simp only [Bool.and_eq_true, xI] at hf
 have hm := h.mr
 unfold plc
 omega
theorem aKz {α : Type} (p : α → Bool) (xs : List α) (hb : xs.length ≤ 1000) : (match xs.find? p with
  | none => eW p xs = -1
  | some n => 0 ≤ eW p xs ∧ idx xs (eW p xs) = some n) := by
 cases hf : xs.find? p with
 | none =>
  simp only
  unfold eW
  rw [if_neg]
  intro hl
  have h1 := List.findIdx_getElem (p := p) (w := hl)
  exact (List.find?_eq_none.1 hf) _ (List.getElem_mem hl) h1
 | some n =>
  simp only
  have hl : xs.findIdx p < xs.length := List.findIdx_lt_length_of_exists ⟨n, List.mem_of_find?_eq_some hf, List.find?_some hf⟩
  unfold eW
  rw [if_pos hl]
  refine ⟨by omega, ?_⟩
  rw [dP hl]
  rw [List.find?_eq_getElem?_findIdx, List.getElem?_eq_getElem hl] at hf
  exact hf
theorem aQg {l : aO} (h : WF l) (hfz : l.frozen = true) (first : List Int) : ∀ (d : Nat) (late : List Int) (k K : Nat), (plc l - ((first ++ late).length : Int)).toNat ≤ d → d < K → d ≤ k → (first ++ late).length ≤ 500 →
  iS l.players l.wilds first K late l.Field l.frozen l.more l.entered (first ++ late) = some (wl l first (jQ l first k late)) := by
 intro d
 induction d with
 | zero =>
  intro late k K hd hK hk hb
  obtain ⟨K, rfl⟩ : ∃ q, K = q + 1 := ⟨K - 1, by omega⟩
  have hlt : decide (((first ++ late).length : Int) < plc l) = false := decide_eq_false (by omega)
  have hp : eX (aO.mk l.Field l.players l.wilds l.frozen first late l.more l.entered) = some (plc l) := xT (aBy h first late)
  have hg : jQ l first k late = late := by
   cases k with
   | zero => rfl
   | succ k => simp only [jQ, hlt, cond_false]
  simp only [iS, hp, Option.bind_some, hlt, cond_false, oE, hg]
  rfl
 | succ d ih =>
  intro late k K hd hK hk hb
  obtain ⟨K, rfl⟩ : ∃ q, K = q + 1 := ⟨K - 1, by omega⟩
  obtain ⟨k, rfl⟩ : ∃ q, k = q + 1 := ⟨k - 1, by omega⟩
  have hp : eX (aO.mk l.Field l.players l.wilds l.frozen first late l.more l.entered) = some (plc l) := xT (aBy h first late)
  have hen : fE (aO.mk l.Field l.players l.wilds l.frozen first late l.more l.entered) = some (bW l) := wA (aBy h first late)
  have hix : iF (bW l) (fun y => kU y (aO.mk l.Field l.players l.wilds l.frozen first late l.more l.entered) (first ++ late)) = some (eW (lW l (first ++ late)) (bW l)) :=
   aIe (bW l) _ (lW l (first ++ late)) (fun n _ => aNw (wl l first late) (first ++ late) n (by omega)) (by have := lL h; omega)
  have hfi := aKz (lW l (first ++ late)) (bW l) (by have := lL h; omega)
  simp only [iS, hp, Option.bind_some, jQ]
  cases hlt : decide (((first ++ late).length : Int) < plc l) with
  | false =>
   simp only [cond_false, oE]
   rfl
  | true =>
   simp only [cond_true, hen, Option.bind_some, hix]
   have hlt' : ((first ++ late).length : Int) < plc l := by simpa using hlt
   have hp92 := vI h
   cases hf : (bW l).find? (lW l (first ++ late)) with
   | none =>
    rw [hf] at hfi
    simp only at hfi
    rw [hfi]
    rfl
   | some n =>
    rw [hf] at hfi
    simp only at hfi
    rw [decide_eq_false (by omega), cond_false, hfi.2]
    simp only [Option.bind_some]
    have hbl : late.length ≤ 500 := by simp at hb; omega
    rw [fG (by simp; omega)]
    simp only [Option.bind_some]
    have hm : eH (aO.mk l.Field l.players l.wilds l.frozen first (late ++ [n]) l.more l.entered) = some (first ++ (late ++ [n])) := by
     have := aFd (aBy h first (late ++ [n])) (show first.length ≤ 1000 by simp at hb; omega) (show (late ++ [n]).length ≤ 1000 by simp; omega)
     rw [show (aO.mk l.Field l.players l.wilds l.frozen first (late ++ [n]) l.more l.entered) = wl l first (late ++ [n]) from rfl, this]
     unfold dD
     rw [show (wl l first (late ++ [n])).frozen = l.frozen from rfl, hfz]
     rfl
    rw [hm]
    simp only [Option.bind_some]
    refine ih (late ++ [n]) k K ?_ (by omega) (by omega) ?_
    ·simp only [List.length_append, List.length_cons, List.length_nil] at hd hlt' ⊢
     omega
    ·simp only [List.length_append, List.length_cons, List.length_nil] at hb hlt' ⊢
     omega
def lT (l : aO) : aO := wl l (l.first.filter fun n => isE l.players n) (jQ l (l.first.filter fun n => isE l.players n) 100 (l.late.filter fun n => isE l.players n))
theorem aQh {l : aO} (h : WF l) (hfz : l.frozen = true) (hb : (l.first ++ l.late).length ≤ 200) : kI l = some (lT l) := by
 have hb' : l.first.length + l.late.length ≤ 200 := by simpa using hb
 have d1 : cU l.first (fun y => fS y l.players) = some (l.first.filter fun n => isE l.players n) := by
  rw [aDl l.first _ (fun n => !isE l.players n) (fun n _ => aHx l n) (by omega)]
  simp
 have d2 : cU l.late (fun y => fS y l.players) = some (l.late.filter fun n => isE l.players n) := by
  rw [aDl l.late _ (fun n => !isE l.players n) (fun n _ => aHx l n) (by omega)]
  simp
 have f1 : (l.first.filter fun n => isE l.players n).length ≤ l.first.length := List.length_filter_le _ _
 have f2 : (l.late.filter fun n => isE l.players n).length ≤ l.late.length := List.length_filter_le _ _
 have hm := aFd (aBy h (l.first.filter fun n => isE l.players n) (l.late.filter fun n => isE l.players n)) (show (l.first.filter fun n => isE l.players n).length ≤ 1000 by omega) (show (l.late.filter fun n => isE l.players n).length ≤ 1000 by omega)
 unfold kI lT
 rw [d1, Option.bind_some, d2, Option.bind_some]
 rw [show (aO.mk l.Field l.players l.wilds l.frozen (l.first.filter fun n => isE l.players n) (l.late.filter fun n => isE l.players n) l.more l.entered) = wl l (l.first.filter fun n => isE l.players n) (l.late.filter fun n => isE l.players n) from rfl, hm, Option.bind_some]
 unfold dD
 rw [show (wl l (l.first.filter fun n => isE l.players n) (l.late.filter fun n => isE l.players n)).frozen = l.frozen from rfl]
 rw [show (bif l.frozen then (wl l (l.first.filter fun n => isE l.players n) (l.late.filter fun n => isE l.players n)).first ++ (wl l (l.first.filter fun n => isE l.players n) (l.late.filter fun n => isE l.players n)).late else kB (wl l (l.first.filter fun n => isE l.players n) (l.late.filter fun n => isE l.players n))) = (l.first.filter fun n => isE l.players n) ++ (l.late.filter fun n => isE l.players n) by rw [hfz]; rfl]
 have hp := vI h
 exact aQg h hfz _ 100 _ 100 BIG (by omega) (eK (by omega)) (Nat.le_refl _) (by simp only [List.length_append]; omega)
theorem aFx {l : aO} (h : WF l) (first : List Int) : ∀ (k : Nat) (late : List Int), (first ++ jQ l first k late).length ≤ max (first ++ late).length 92
 | 0, late => by simp only [jQ]; omega
 | k + 1, late => by
  have hp := vI h
  simp only [jQ]
  cases hlt : decide (((first ++ late).length : Int) < plc l) with
  | false => simp only [cond_false]; omega
  | true =>
   simp only [cond_true]
   have hlt' : ((first ++ late).length : Int) < plc l := by simpa using hlt
   cases (bW l).find? (lW l (first ++ late)) with
   | none => simp only; omega
   | some n =>
    simp only
    have := aFx h first k (late ++ [n])
    simp only [List.length_append, List.length_cons, List.length_nil] at this hlt' ⊢
    omega
def dM (l : aO) (x : aM) : aO :=
 let l2 := bH (bif decide (l.Field.Freeze < x.Hour) then dY l else l) x
 bif l2.frozen then lT l2 else l2
structure iH (f : aY) (l : aO) (i : Nat) : Prop where
 wf : WF l
 cn : Cn l i
 fd : l.Field = f
 len : (l.first ++ l.late).length ≤ 92
 fz : l.frozen = false → l.first = [] ∧ l.late = []
theorem mV {f : aY} {l : aO} {i : Nat} (h : iH f l i) : iH f (dY l) i := by
 unfold dY
 cases hz : l.frozen with
 | true => exact h
 | false =>
  obtain ⟨_, hlate⟩ := h.fz hz
  simp only [cond_false]
  refine ⟨⟨h.wf.fd, h.wf.keys, h.wf.cnt, h.wf.ent, h.wf.mr, h.wf.turn, h.wf.inj⟩, ⟨h.cn.pls, h.cn.ent, h.cn.mr, h.cn.wl⟩, h.fd, ?_, fun h => by cases h⟩
  show (kB l ++ l.late).length ≤ 92
  have h1 := aCz l (bW l) []
  have h2 := lL h.wf
  rw [hlate]
  simp only [List.append_nil]
  unfold kB
  simp only [List.length_nil] at h1
  omega
theorem sV {f : aY} {l : aO} {x : aM} {i : Nat} (h : iH f l i) (hi : i < 60) (hx : iJ x = true) : iH f (bH l x) (i + 1) := by
 obtain ⟨h1, h2⟩ := aQv h.wf h.cn hi hx
 obtain ⟨g1, g2, g3, g4⟩ := kR l x
 exact ⟨h1, h2, by rw [g1]; exact h.fd, by rw [g3, g4]; exact h.len, fun hz => by rw [g2] at hz; rw [g3, g4]; exact h.fz hz⟩
theorem aFy {f : aY} {l : aO} {i : Nat} (h : iH f l i) (hz : l.frozen = true) : iH f (lT l) i := by
 have hl : l.first.length + l.late.length ≤ 92 := by have := h.len; simpa using this
 have f1 : (l.first.filter fun n => isE l.players n).length ≤ l.first.length := List.length_filter_le _ _
 have f2 : (l.late.filter fun n => isE l.players n).length ≤ l.late.length := List.length_filter_le _ _
 refine ⟨aBy h.wf _ _, ⟨h.cn.pls, h.cn.ent, h.cn.mr, h.cn.wl⟩, h.fd, ?_, fun hf => ?_⟩
 ·have := aFx h.wf (l.first.filter fun n => isE l.players n) 100 (l.late.filter fun n => isE l.players n)
  simp only [List.length_append] at this
  show ((l.first.filter fun n => isE l.players n) ++ jQ l (l.first.filter fun n => isE l.players n) 100 (l.late.filter fun n => isE l.players n)).length ≤ 92
  simp only [List.length_append]
  omega
 ·have : l.frozen = false := hf
  rw [hz] at this; cases this
theorem rM {f : aY} {l : aO} {x : aM} {i : Nat} (h : iH f l i) (hi : i < 60) (hx : iJ x = true) : iH f (dM l x) (i + 1) := by
 unfold dM
 have h1 : iH f (bif decide (l.Field.Freeze < x.Hour) then dY l else l) i := by
  cases decide (l.Field.Freeze < x.Hour) with
  | true => exact mV h
  | false => exact h
 have h2 := sV h1 hi hx
 simp only
 cases hz : (bH (bif decide (l.Field.Freeze < x.Hour) then dY l else l) x).frozen with
 | true => exact aFy h2 hz
 | false => exact h2
def gO (f : aY) : aO := aO.mk f [] [] false [] [] 0 0
theorem oG {f : aY} (hf : rI f = true) : iH f (gO f) 0 :=
 ⟨⟨hf, .nil, by simp [gO], ⟨Int.le_refl _, by simp [gO]⟩, ⟨Int.le_refl _, by simp [gO]⟩, fun n h => by simp [pl, gO, aK] at h, fun n m h => by simp [pl, gO, aK] at h⟩, ⟨by simp [gO], by simp [gO], by simp [gO], by simp [gO]⟩, rfl, by simp [gO], fun _ => ⟨rfl, rfl⟩⟩
def qQ (hour : Int) (l : aO) : List aM → aO
 | [] => l
 | x :: t => bif decide (hour < x.Hour) then l else qQ hour (dM l x) t
def tU (hour : Int) (l : aO) : aO := bif decide (l.Field.Freeze < hour) then dY l else l
theorem zQ {f : aY} (hour : Int) : ∀ (t : List aM) (l : aO) (i : Nat), iH f l i → i + t.length ≤ 60 → (∀ x ∈ t, iJ x = true) → ∃ j, j ≤ 60 ∧ iH f (qQ hour l t) j
 | [], l, i, h, hi, _ => ⟨i, by simpa using hi, h⟩
 | x :: t, l, i, h, hi, hx => by
  simp only [qQ]
  cases decide (hour < x.Hour) with
  | true => exact ⟨i, by simp at hi; omega, h⟩
  | false =>
   simp only [List.length_cons] at hi
   exact zQ hour t _ (i + 1) (rM h (by omega) (hx x (by simp))) (by omega) fun y hy => hx y (by simp [hy])
def fT (f : aY) (l : List aM) (hour : Int) : aO := tU hour (qQ hour (gO f) (gK l))
theorem aNq {f : aY} (T : List aM) (hT : ∀ x ∈ T, iJ x = true) (hl : T.length ≤ 60) (hour : Int) : ∀ (d i k : Nat) (l : aO), T.length - i = d → d < k → i ≤ T.length → iH f l i →
  gA hour (T.length : Int) f T k (i : Int) l.players l.wilds l.first l.late l.Field l.frozen l.more l.entered = some (some (tU hour (qQ hour l (T.drop i)))) := by
 have hend : ∀ {l : aO} {i : Nat}, iH f l i → mY hour f l.players l.wilds l.first l.late l.Field l.frozen l.more l.entered = some (some (tU hour l)) := by
  intro l i h
  unfold mY tU
  rw [h.fd]
  cases decide (f.Freeze < hour) with
  | true =>
   simp only [cond_true]
   have := aGf h.wf
   rw [show (aO.mk f l.players l.wilds l.frozen l.first l.late l.more l.entered) = l by rw [← h.fd], this]
   rfl
  | false =>
   simp only [cond_false]
   rw [show (aO.mk f l.players l.wilds l.frozen l.first l.late l.more l.entered) = l by rw [← h.fd]]
 intro d
 induction d with
 | zero =>
  intro i k l hd hk hi h
  obtain ⟨k, rfl⟩ : ∃ q, k = q + 1 := ⟨k - 1, by omega⟩
  have : i = T.length := by omega
  subst this
  simp only [gA, Int.lt_irrefl, decide_false, cond_false, List.drop_length, qQ]
  exact hend h
 | succ d ih =>
  intro i k l hd hk hi h
  obtain ⟨k, rfl⟩ : ∃ q, k = q + 1 := ⟨k - 1, by omega⟩
  have hil : i < T.length := by omega
  have hlt : decide ((i : Int) < (T.length : Int)) = true := decide_eq_true (by omega)
  have hw : w64 ((i : Int) + 1) = ((i + 1 : Nat) : Int) := cZ (by omega)
  have hx : iJ T[i] = true := hT _ (List.getElem_mem hil)
  rw [List.drop_eq_getElem_cons hil, qQ]
  simp only [gA, hlt, cond_true, dP hil, Option.bind_some, hw]
  cases decide (hour < T[i].Hour) with
  | true => simp only [cond_true]; exact hend h
  | false =>
   simp only [cond_false]
   have hmk : (aO.mk l.Field l.players l.wilds l.frozen l.first l.late l.more l.entered) = l := rfl
   have goon : ∀ (l1 : aO), iH f l1 i → ((kJ l1 T[i]).bind fun r25 =>
     bif r25.frozen then ((kI r25).bind fun r31 =>
     (gA hour (T.length : Int) f T k) ((i + 1 : Nat) : Int) r31.players r31.wilds r31.first r31.late r31.Field r31.frozen r31.more r31.entered)
     else ((gA hour (T.length : Int) f T k) ((i + 1 : Nat) : Int) r25.players r25.wilds r25.first r25.late r25.Field r25.frozen r25.more r25.entered)) =
     some (some (tU hour (qQ hour (bif (bH l1 T[i]).frozen then lT (bH l1 T[i]) else bH l1 T[i]) (T.drop (i + 1))))) := by
    intro l1 h1
    have hwl := h1.cn.wl
    rw [aQu l1 T[i] h1.wf.ent h1.wf.mr (by omega)]
    simp only [Option.bind_some]
    have h2 := sV h1 (by omega) hx
    cases hz : (bH l1 T[i]).frozen with
    | true =>
     simp only [cond_true]
     rw [aQh h2.wf hz (by have := h2.len; omega)]
     simp only [Option.bind_some]
     exact ih (i + 1) k _ (by omega) (by omega) (by omega) (aFy h2 hz)
    | false =>
     simp only [cond_false]
     have := ih (i + 1) k _ (by omega) (by omega) (by omega) h2
     rw [hz] at this
     exact this
   unfold dM
   rw [h.fd]
   cases decide (f.Freeze < T[i].Hour) with
   | true =>
    simp only [cond_true]
    have hfz := aGf h.wf
    rw [show (aO.mk f l.players l.wilds l.frozen l.first l.late l.more l.entered) = l by rw [← h.fd], hfz]
    simp only [Option.bind_some]
    exact goon (dY l) (mV h)
   | false =>
    simp only [cond_false]
    rw [show (aO.mk f l.players l.wilds l.frozen l.first l.late l.more l.entered) = l by rw [← h.fd]]
    exact goon l h
theorem wE (l : List aM) : (gK l).length ≤ l.length := by
 unfold gK
 have h1 := (jP (fun a b => eM a b) l).length_eq
 rw [← h1]
 cases eA (fun a b => eM a b) l with
 | nil => simp [qW]
 | cons p t => simp only [qW, List.length_cons]; have := (aOf p t).length_le; omega
theorem aHf {f : aY} {l : List aM} (h : VL f l) (hour : Int) : pY f l hour = some (some (fT f l hour)) := by
 have hb : ∀ x ∈ l, bN x := fun x hx => aBp (h.nt x hx)
 obtain ⟨e1, e2⟩ := aRk h.len hb h.id
 have hT := wE l
 have hlen := h.len
 unfold pY kQ
 rw [Option.bind_some, e1, Option.bind_some, e2, Option.bind_some]
 exact aNq (gK l) (fun x hx => h.nt x ((mS x).1 hx)) (by omega) hour _ 0 BIG (gO f) rfl (eK (by omega)) (Nat.zero_le _) (oG h.fd)
theorem sZ {f : aY} {l : List aM} (h : VL f l) (hour : Int) : ∃ j, j ≤ 60 ∧ iH f (fT f l hour) j := by
 have hT := wE l
 have hlen := h.len
 obtain ⟨j, hj, hg⟩ := zQ hour (gK l) (gO f) 0 (oG h.fd) (by omega) fun x hx => h.nt x ((mS x).1 hx)
 refine ⟨j, hj, ?_⟩
 unfold fT tU
 cases decide ((qQ hour (gO f) (gK l)).Field.Freeze < hour) with
 | true => exact mV hg
 | false => exact hg
end Go.Am
end
section
namespace Go.Am
theorem aIk (l : aO) : ∀ (t acc : List Int) {n : Int}, n ∈ rU l acc t → n ∈ acc ∨ n ∈ t
 | [], acc, n, h => .inl h
 | m :: t, acc, n, h => by
  rcases aIk l t _ h with h1 | h1
  ·cases hc : decide ((acc.length : Int) < plc l) && (!(pl l m).guard || decide (((gd l acc : Nat) : Int) < l.Field.Guards)) with
   | true =>
    rw [hc] at h1
    simp only [cond_true, List.mem_append, List.mem_singleton] at h1
    rcases h1 with h1 | h1
    ·exact .inl h1
    ·exact .inr (by simp [h1])
   | false =>
    rw [hc] at h1
    exact .inl h1
  ·exact .inr (by simp [h1])
theorem sT {f : aY} {l : aO} {i : Nat} (h : iH f l i) : (dD l).length ≤ 92 := by
 unfold dD
 cases l.frozen with
 | true => exact h.len
 | false =>
  simp only [cond_false]
  have h1 := aCz l (bW l) []
  have h2 := lL h.wf
  unfold kB
  simp only [List.length_nil] at h1
  omega
theorem aDb {f : aY} {l : aO} {i : Nat} (h : iH f l i) : eH l = some (dD l) := by
 have := h.len
 simp only [List.length_append] at this
 exact aFd h.wf (by omega) (by omega)
def zM (l : aO) : List Int := (bW l).filter fun n => !decide (n ∈ dD l)
theorem aMt {f : aY} {l : aO} {i : Nat} (h : iH f l i) : iW l = some (zM l) := by
 have hm := sT h
 unfold iW zM
 rw [aDb h, Option.bind_some, wA h.wf, Option.bind_some]
 rw [aDl (bW l) _ (fun n => decide (n ∈ dD l)) (fun n _ => by unfold lM; rw [xL _ (by omega)]; rfl) (by have := lL h.wf; omega)]
 rfl
theorem sU (f : aY) (l : List aM) (hour player : Int) : oF f l hour player = some (bif !decide (hZ f l = 0) then (none, hZ f l) else bif !wi hour 0 9999 || !wi player 0 999 then (none, 1) else (some (fT f l hour), 0)) := by
 unfold oF
 rw [aFr, Option.bind_some]
 cases hc : decide (hZ f l = 0) with
 | false => rfl
 | true =>
  simp only [Bool.not_true, cond_false, aEz, Option.bind_some, oW]
  cases !wi hour 0 9999 || !wi player 0 999 with
  | true => rfl
  | false =>
   simp only [cond_false]
   rw [aHf (kE.1 (by simpa using hc)) hour]
   rfl
def uR (f : aY) (l : List aM) (hour : Int) : bU :=
 bU.mk (dD (fT f l hour)) (fT f l hour).wilds (zM (fT f l hour)) (plc (fT f l hour) - ((dD (fT f l hour)).length : Int))
theorem aJy {f : aY} {l : List aM} (h : VL f l) {hour : Int} (hh : wi hour 0 9999 = true) : lR f l hour = some (uR f l hour, 0) := by
 obtain ⟨i, hi, hg⟩ := sZ h hour
 have hm := sT hg
 have hp := vI hg.wf
 unfold lR uR
 rw [sU, kE.2 h, hh]
 simp only [decide_true, Bool.not_true, cond_false, show wi 0 0 999 = true from rfl, Bool.or_self, Option.bind_some]
 rw [aDb hg, Option.bind_some, aMt hg, Option.bind_some, xT hg.wf, Option.bind_some, eL (by omega) (by omega)]
end Go.Am
end
section
namespace Go.Am
def rL (a b c : List Int) (p : Int) : Int × Int :=
 bif decide (0 ≤ eW (fun x => decide (p = x)) a) then (1, eW (fun x => decide (p = x)) a + 1)
 else bif decide (0 ≤ eW (fun x => decide (p = x)) b) then (2, eW (fun x => decide (p = x)) b + 1)
 else bif decide (0 ≤ eW (fun x => decide (p = x)) c) then (3, eW (fun x => decide (p = x)) c + 1)
 else (0, 0)
theorem uQ {α : Type} (p : α → Bool) (xs : List α) : -1 ≤ eW p xs ∧ eW p xs ≤ xs.length := by
 unfold eW
 split <;> omega
theorem aOy (a b c : List Int) (p : Int) (ha : a.length ≤ 1000) (hb : b.length ≤ 1000) (hc : c.length ≤ 1000) : jM p [a, b, c] 3 BIG 0 = some (rL a b c p) := by
 obtain ⟨k, hk⟩ : ∃ k, BIG = k + 1 + 1 + 1 + 1 := ⟨BIG - 4, by unfold BIG; omega⟩
 have i1 := aIu a p (by omega)
 have i2 := aIu b p (by omega)
 have i3 := aIu c p (by omega)
 have r1 := uQ (fun x => decide (p = x)) a
 have r2 := uQ (fun x => decide (p = x)) b
 have r3 := uQ (fun x => decide (p = x)) c
 rw [hk]
 unfold rL
 simp only [jM, qN, show decide ((0 : Int) < 3) = true from rfl, cond_true, show idx [a, b, c] 0 = some a from rfl, Option.bind_some, show w64 (0 + 1) = 1 from rfl, show decide ((1 : Int) < 3) = true from rfl, show idx [a, b, c] 1 = some b from rfl, show w64 (1 + 1) = 2 from rfl, show decide ((2 : Int) < 3) = true from rfl, show idx [a, b, c] 2 = some c from rfl, show w64 (2 + 1) = 3 from rfl, show decide ((3 : Int) < 3) = false from rfl, cond_false, i1, i2, i3]
 rw [eL (by omega) (by omega), eL (by omega) (by omega), eL (by omega) (by omega)]
 cases decide (0 ≤ eW (fun x => decide (p = x)) a) <;> cases decide (0 ≤ eW (fun x => decide (p = x)) b) <;> cases decide (0 ≤ eW (fun x => decide (p = x)) c) <;> rfl
def oJ (l : aO) (p : Int) : Int × Int := rL (dD l) l.wilds (zM l) p
theorem aDc {l : aO} (h : WF l) : (zM l).length ≤ 60 := Nat.le_trans (List.length_filter_le _ _) (lL h)
theorem aDh {f : aY} {l : aO} {i : Nat} (h : iH f l i) (hi : i ≤ 60) (p : Int) : jV l p = some (oJ l p) := by
 have hm := sT h
 have ho := aDc h.wf
 have hw := h.cn.wl
 unfold jV oJ
 rw [aDb h, Option.bind_some, aMt h, Option.bind_some]
 exact aOy _ _ _ p (by omega) (by omega) (by omega)
theorem aNp {f : aY} {l : List aM} (h : VL f l) {hour player : Int} (hh : wi hour 0 9999 = true) (hp : wi player 0 999 = true) : mT f l hour player = some ((oJ (fT f l hour) player).1, (oJ (fT f l hour) player).2, 0) := by
 obtain ⟨i, hi, hg⟩ := sZ h hour
 unfold mT
 rw [sU, kE.2 h, hh, hp]
 simp only [decide_true, Bool.not_true, cond_false, Bool.or_self, Option.bind_some]
 rw [aDh hg hi]; rfl
def zG (l : aO) (n : Int) : List Int → List Int
 | [] => [n]
 | m :: t => bif decide (eI l n < eI l m) then n :: m :: t else m :: zG l n t
theorem aAx (l : aO) (n : Int) : ∀ t : List Int, (zG l n t).Perm (n :: t)
 | [] => .refl _
 | m :: t => by
  simp only [zG]
  cases decide (eI l n < eI l m) with
  | true => exact .refl _
  | false => exact ((aAx l n t).cons m).trans (.swap _ _ _)
theorem aCh (l : aO) (n : Int) : ∀ t : List Int, t.Pairwise (fun a b => eI l a < eI l b) → (∀ m ∈ t, eI l m ≠ eI l n) → (zG l n t).Pairwise fun a b => eI l a < eI l b
 | [], _, _ => List.pairwise_singleton _ _
 | m :: t, hs, hne => by
  have h1 := List.pairwise_cons.1 hs
  simp only [zG]
  cases hc : decide (eI l n < eI l m) with
  | true =>
   simp only [decide_eq_true_eq] at hc
   refine List.pairwise_cons.2 ⟨fun b hb => ?_, hs⟩
   rcases List.mem_cons.1 hb with rfl | hb
   ·exact hc
   ·exact Int.lt_trans hc (h1.1 b hb)
  | false =>
   simp only [decide_eq_false_iff_not] at hc
   refine List.pairwise_cons.2 ⟨fun b hb => ?_, aCh l n t h1.2 fun x hx => hne x (by simp [hx])⟩
   rcases List.mem_cons.1 ((aAx l n t).mem_iff.1 hb) with rfl | hb
   ·have := hne m (by simp); omega
   ·exact h1.1 b hb
def aKx (l : aO) : List Int := (rV l).foldr (zG l) []
theorem aAq (l : aO) : ∀ t : List Int, (t.foldr (zG l) []).Perm t
 | [] => .refl _
 | n :: t => (aAx l n _).trans ((aAq l t).cons n)
theorem xO {l : aO} (h : WF l) : bW l = aKx l := by
 have hn : (rV l).Nodup := by
  unfold rV
  exact h.keys.sublist ((List.filter_sublist).map _)
 have hs : ∀ t : List Int, t.Nodup → (∀ n ∈ t, (pl l n).entered = true) → (t.foldr (zG l) []).Pairwise fun a b => eI l a < eI l b := by
  intro t
  induction t with
  | nil => intro _ _; exact .nil
  | cons n t ih =>
   intro hn he
   have h1 := List.nodup_cons.1 hn
   refine aCh l n _ (ih h1.2 fun m hm => he m (by simp [hm])) fun m hm e => ?_
   have hmt := (aAq l t).mem_iff.1 hm
   have := zH h (he m (by simp [hmt])) (he n (by simp)) e
   subst this
   exact h1.1 hmt
 refine mJ (key := eI l) (rY h) (hs (rV l) hn fun n hm => xD hm) fun n => ?_
 rw [mF]
 show isE l.players n = true ↔ n ∈ (rV l).foldr (zG l) []
 rw [(aAq l (rV l)).mem_iff, zO]
def aBs (l : aO) : List Int := rU l [] (aKx l)
theorem zJ {l : aO} (h : WF l) : kB l = aBs l := by
 unfold kB aBs
 rw [xO h]
def wC (l : aO) : List Int := bif l.frozen then l.first ++ l.late else aBs l
theorem aDa {l : aO} (h : WF l) : dD l = wC l := by
 unfold dD wC
 rw [zJ h]
def aBc (l : aO) : List Int := (aKx l).filter fun n => !decide (n ∈ wC l)
theorem aKl {l : aO} (h : WF l) : zM l = aBc l := by
 unfold zM aBc
 rw [aDa h, xO h]
def yN (l : aO) : aO := bif l.frozen then l else { l with frozen := true, first := aBs l }
theorem aDw {l : aO} (h : WF l) : dY l = yN l := by
 unfold dY yN
 rw [zJ h]
def aDs (l : aO) (es : List Int) (first : List Int) : Nat → List Int → List Int
 | 0, late => late
 | k + 1, late => bif decide (((first ++ late).length : Int) < plc l) then (match es.find? (lW l (first ++ late)) with
  | none => late
  | some n => aDs l es first k (late ++ [n])) else late
theorem aFu {l : aO} (first : List Int) : ∀ (k : Nat) (late : List Int), jQ l first k late = aDs l (bW l) first k late
 | 0, _ => rfl
 | k + 1, late => by
  simp only [jQ, aDs]
  cases (bW l).find? (lW l (first ++ late)) with
  | none => rfl
  | some n => simp only; rw [aFu first k (late ++ [n])]
def aKy (l : aO) : aO := wl l (l.first.filter fun n => isE l.players n) (aDs l (aKx l) (l.first.filter fun n => isE l.players n) 100 (l.late.filter fun n => isE l.players n))
theorem aNx {l : aO} (h : WF l) : lT l = aKy l := by
 unfold lT aKy
 rw [aFu, xO h]
def aLq (l : aO) (x : aM) : aO :=
 let l2 := bH (bif decide (l.Field.Freeze < x.Hour) then yN l else l) x
 bif l2.frozen then aKy l2 else l2
theorem aOz {f : aY} {l : aO} {x : aM} {i : Nat} (h : iH f l i) (hi : i < 60) (hx : iJ x = true) : dM l x = aLq l x := by
 have h1 : iH f (bif decide (l.Field.Freeze < x.Hour) then dY l else l) i := by
  cases decide (l.Field.Freeze < x.Hour) with
  | true => exact mV h
  | false => exact h
 have h2 := sV h1 hi hx
 have e1 : (bif decide (l.Field.Freeze < x.Hour) then dY l else l) = bif decide (l.Field.Freeze < x.Hour) then yN l else l := by rw [aDw h.wf]
 unfold dM aLq
 simp only
 rw [e1] at h2 ⊢
 rw [aNx h2.wf]
def aIx (hour : Int) (l : aO) : List aM → aO
 | [] => l
 | x :: t => bif decide (hour < x.Hour) then l else aIx hour (aLq l x) t
theorem aKn {f : aY} (hour : Int) : ∀ (t : List aM) (l : aO) (i : Nat), iH f l i → i + t.length ≤ 60 → (∀ x ∈ t, iJ x = true) → qQ hour l t = aIx hour l t
 | [], _, _, _, _, _ => rfl
 | x :: t, l, i, h, hi, hx => by
  simp only [List.length_cons] at hi
  simp only [qQ, aIx]
  rw [← aOz h (by omega) (hx x (by simp)), aKn hour t _ (i + 1) (rM h (by omega) (hx x (by simp))) (by omega) fun y hy => hx y (by simp [hy])]
def aNs (hour : Int) (l : aO) : aO := bif decide (l.Field.Freeze < hour) then yN l else l
theorem aLt {f : aY} {l : List aM} (h : VL f l) (hs : l.Pairwise fun x y => dH x < dH y) (hour : Int) : fT f l hour = aNs hour (aIx hour (gO f) l) := by
 have hb : ∀ x ∈ l, bN x := fun x hx => aBp (h.nt x hx)
 have ht : gK l = l := mJ (sL hb h.id) hs fun x => mS x
 have hlen := h.len
 obtain ⟨j, hj, hg⟩ := zQ hour l (gO f) 0 (oG h.fd) (by omega) h.nt
 unfold fT tU aNs
 rw [ht, aDw hg.wf, aKn hour l (gO f) 0 (oG h.fd) (by omega) h.nt]
end Go.Am
end
section
namespace Go.Am
def qT (p : Int) : List Int → List Int
 | [] => []
 | y :: t => if y = p then qT p t else y :: qT y t
def qX : List Int → List Int
 | [] => []
 | x :: t => x :: qT x t
theorem aJl (again : Int → List Int → Option (List Int)) {k0 : Nat} : ∀ (t : List Int) (p : Int) (W X : List Int) (k2 k : Nat), 1 ≤ k2 → W.length + X.length + 1 = k0 + k2 → k0 ≤ W.length → (W ++ X ++ p :: t).length < 4611686018427387904 → t.length < k →
  fR again (k0 : Nat) k (W.length : Nat) (k2 : Nat) (W ++ X ++ p :: t) = some (W ++ qT p t) := by
 intro t
 induction t with
 | nil =>
  intro p W X k2 k h1 h2 h3 hb hk
  obtain ⟨k, rfl⟩ : ∃ q, k = q + 1 := ⟨k - 1, by omega⟩
  simp only [List.length_append, List.length_cons, List.length_nil] at hb
  have t0 : ((k0 : Nat) : Int).toNat = k0 := rfl
  have t1 : ((W.length : Nat) : Int).toNat = W.length := rfl
  have hlt : decide ((k2 : Int) < (((W ++ X ++ [p]).drop k0).length : Int)) = false := decide_eq_false (by simp; omega)
  have c1 : (decide ((0 : Int) ≤ (W.length : Int)) && decide ((W.length : Int) ≤ ((W ++ X ++ [p]).length : Int))) = true := by simp; omega
  have c2 : decide (W.length ≤ (W ++ X ++ [p]).length) = true := by simp
  have c3 : decide ((0 : Int) ≤ (W.length : Int)) = true := by simp
  simp only [fR, t0, hlt, cond_false, oZ]
  rw [c1, t1, c2, c3]
  simp [chk, qT]
 | cons y t ih =>
  intro p W X k2 k h1 h2 h3 hb hk
  obtain ⟨k, rfl⟩ : ∃ q, k = q + 1 := ⟨k - 1, by omega⟩
  simp only [List.length_append, List.length_cons] at hb hk
  have t0 : ((k0 : Nat) : Int).toNat = k0 := rfl
  have t1 : ((W.length : Nat) : Int).toNat = W.length := rfl
  have hlt : decide ((k2 : Int) < (((W ++ X ++ p :: y :: t).drop k0).length : Int)) = true := decide_eq_true (by simp; omega)
  have ed : (W ++ X ++ p :: y :: t).drop k0 = (W ++ X).drop k0 ++ p :: y :: t := by rw [List.drop_append_of_le_length (by simp; omega)]
  have hdl : ((W ++ X).drop k0).length = k2 - 1 := by simp; omega
  have i1 : idx ((W ++ X ++ p :: y :: t).drop k0) (k2 : Nat) = some y := by rw [ed]; exact wX (by rw [hdl]; omega)
  have i2 : idx ((W ++ X ++ p :: y :: t).drop k0) (w64 ((k2 : Int) - 1)) = some p := by rw [aJk (by omega) (by omega), ed]; exact kA (by rw [hdl])
  simp only [fR, t0, hlt, cond_true, i1, i2, Option.bind_some, cZ (show k2 < 9223372036854775807 by omega)]
  by_cases hyp : y = p
  ·subst hyp
   have := ih y W (X ++ [y]) (k2 + 1) k (by omega) (by simp; omega) h3 (by simp only [List.length_append, List.length_cons, List.length_nil]; omega) (by omega)
   have e1 : W ++ (X ++ [y]) ++ y :: t = W ++ X ++ y :: y :: t := by simp
   rw [e1] at this
   rw [decide_eq_true rfl, Bool.not_true, cond_false, this]
   simp [qT]
  ·have hd : (!decide (y = p)) = true := by rw [decide_eq_false hyp]; rfl
   have i3 : ∃ z, idx (W ++ X ++ p :: y :: t) (W.length : Nat) = some z := ⟨_, dP (by simp; omega)⟩
   obtain ⟨z, i3⟩ := i3
   rw [hd, cond_true, i3, Option.bind_some, t1, cZ (by omega)]
   obtain ⟨X', e2⟩ : ∃ X', (W ++ X ++ p :: y :: t).set W.length y = (W ++ [y]) ++ X' ++ y :: t ∧ X'.length = X.length := by
    cases X with
    | nil => exact ⟨[], by simp, rfl⟩
    | cons x X => exact ⟨X ++ [p], by simp, by simp⟩
   rw [e2.1]
   have := ih y (W ++ [y]) X' (k2 + 1) k (by omega) (by rw [List.length_append, e2.2]; simp; omega) (by simp; omega) (by simp only [List.length_append, List.length_cons, List.length_nil, e2.2]; omega) (by omega)
   have e3 : (W ++ [y]).length = W.length + 1 := by simp
   rw [e3] at this
   rw [this]
   simp [qT, hyp]
theorem aGq (s : List Int) (hb : s.length < 4611686018427387904) : lZ s = some (qX s) := by
 have main : ∀ (t A : List Int) (p : Int) (k : Nat), t.length < k → (A ++ p :: t).length < 4611686018427387904 → eC k ((A.length + 1 : Nat) : Int) (A ++ p :: t) = some (A ++ p :: qT p t) := by
  intro t
  induction t with
  | nil =>
   intro A p k hk hb
   obtain ⟨k, rfl⟩ : ∃ q, k = q + 1 := ⟨k - 1, by omega⟩
   have hlt : decide (((A.length + 1 : Nat) : Int) < ((A ++ [p]).length : Int)) = false := decide_eq_false (by simp)
   simp only [eC, hlt, cond_false, oX, qT]
  | cons y t ih =>
   intro A p k hk hb
   obtain ⟨k, rfl⟩ : ∃ q, k = q + 1 := ⟨k - 1, by omega⟩
   simp only [List.length_append, List.length_cons] at hb hk
   have hlt : decide (((A.length + 1 : Nat) : Int) < ((A ++ p :: y :: t).length : Int)) = true := decide_eq_true (by simp; omega)
   have i2 : w64 (((A.length + 1 : Nat) : Int) - 1) = (A.length : Int) := by rw [eL (by omega) (by omega)]; omega
   simp only [eC, hlt, cond_true, wX rfl, i2, kA rfl, Option.bind_some]
   by_cases hyp : y = p
   ·subst hyp
    have c1 : (decide ((0 : Int) ≤ ((A.length + 1 : Nat) : Int)) && decide (((A.length + 1 : Nat) : Int) ≤ ((A ++ y :: y :: t).length : Int))) = true := by simp; omega
    rw [decide_eq_true rfl, cond_true, c1]
    simp only [chk, cond_true, Option.bind_some]
    have := aJl (eC k) (k0 := A.length + 1) t y (A ++ [y]) [] 1 BIG (Nat.le_refl _) (by simp) (by simp) (by simp only [List.length_append, List.length_cons, List.length_nil]; omega) (eK (by omega))
    have e3 : (A ++ [y]).length = A.length + 1 := by simp
    have e4 : A ++ [y] ++ [] ++ y :: t = A ++ y :: y :: t := by simp
    rw [e3, e4] at this
    have e5 : ((1 : Nat) : Int) = 1 := rfl
    rw [e5] at this
    rw [this]
    simp [qT]
   ·rw [decide_eq_false hyp, cond_false]
    unfold oY
    rw [cZ (by omega)]
    have := ih (A ++ [p]) y k (by omega) (by simp only [List.length_append, List.length_cons, List.length_nil]; omega)
    have e3 : (A ++ [p]).length = A.length + 1 := by simp
    have e4 : A ++ [p] ++ y :: t = A ++ p :: y :: t := by simp
    rw [e3, e4] at this
    rw [this]
    simp [qT, hyp]
 unfold lZ
 match s, hb with
 | [], _ => simp [qX]
 | x :: t, hb =>
  by_cases ht : t = []
  ·subst ht; simp [qX, qT]
  ·have hl : 0 < t.length := List.length_pos_iff.2 ht
   have hd : decide (((x :: t).length : Int) < 2) = false := decide_eq_false (by simp; omega)
   rw [hd, cond_false]
   have := main t [] x BIG (eK (by simp at hb; omega)) (by simpa using hb)
   simp only [List.length_nil, List.nil_append, Nat.zero_add] at this
   have e5 : ((1 : Nat) : Int) = 1 := rfl
   rw [e5] at this
   rw [this]; rfl
theorem aMk (p : Int) (t : List Int) : (qT p t).Sublist t := by
 induction t generalizing p with
 | nil => exact .slnil
 | cons y t ih =>
  simp only [qT]
  split
  ·exact (ih p).cons _
  ·exact (ih y).cons_cons _
theorem aGp (l : List Int) : (sK l).length = l.length := (List.mergeSort_perm l _).length_eq
def yO (l : List aM) : List Int := qX (sK (l.map fun x => x.Hour))
def aFa (f : aY) (l : List aM) (p h : Int) : Bool := decide ((oJ (fT f l h) p).1 = 1) || decide ((oJ (fT f l h) p).1 = 2)
theorem aRb {f : aY} {l : List aM} (h : VL f l) (p : Int) (T : List Int) (hT : T.length ≤ 1000) : ∀ (d i k : Nat), T.length - i = d → d < k → i ≤ T.length →
  mH l p (T.length : Int) f T k (i : Int) = some (match (T.drop i).find? (aFa f l p) with | some x => (x, 0) | none => (0, 3)) := by
 intro d
 induction d with
 | zero =>
  intro i k hd hk hi
  obtain ⟨k, rfl⟩ : ∃ q, k = q + 1 := ⟨k - 1, by omega⟩
  have : i = T.length := by omega
  subst this
  simp [mH, vR]
 | succ d ih =>
  intro i k hd hk hi
  obtain ⟨k, rfl⟩ : ∃ q, k = q + 1 := ⟨k - 1, by omega⟩
  have hil : i < T.length := by omega
  have hlt : decide ((i : Int) < (T.length : Int)) = true := decide_eq_true (by omega)
  obtain ⟨j, hj, hg⟩ := sZ h T[i]
  simp only [mH, hlt, cond_true, dP hil, Option.bind_some, aHf h, aDh hg hj, oW]
  rw [List.drop_eq_getElem_cons hil, List.find?_cons]
  rw [show (decide ((oJ (fT f l T[i]) p).1 = 1) || decide ((oJ (fT f l T[i]) p).1 = 2)) = aFa f l p T[i] from rfl]
  cases aFa f l p T[i] with
  | true => rfl
  | false =>
   simp only [cond_false]
   rw [cZ (by omega)]
   exact ih (i + 1) k (by omega) (by omega) (by omega)
theorem aPu {f : aY} {l : List aM} (h : VL f l) {p : Int} (hp : wi p 0 999 = true) : rR f l p = some (match (yO l).find? (aFa f l p) with | some x => (x, 0) | none => (0, 3)) := by
 have hlen := h.len
 have hH : (yO l).length ≤ 60 := by
  unfold yO
  have h1 := aGp (l.map fun x => x.Hour)
  rw [List.length_map] at h1
  cases hs : sK (l.map fun x => x.Hour) with
  | nil => simp [qX]
  | cons q t =>
   rw [hs] at h1
   simp only [List.length_cons] at h1
   have := (aMk q t).length_le
   simp only [qX, List.length_cons]
   omega
 have key := kX (mG l p l (l.length : Int) f) l.length (fun i s => sE l p f (s ++ (l.drop i).map fun x => x.Hour)) (fun i s => s.length = i) (fun k i s hi hI ih => ?_) (fun k s hI => ?_) BIG [] (eK (by omega)) rfl
 ·unfold rR
  rw [sU, kE.2 h, hp]
  simp only [decide_true, Bool.not_true, cond_false, show wi 0 0 9999 = true from rfl, Bool.or_self, Option.bind_some]
  rw [key]
  simp only [List.drop_zero, List.nil_append]
  unfold sE slices_Sort_int
  rw [if_pos (by rw [List.length_map]; omega), Option.bind_some, aGq _ (by rw [aGp, List.length_map]; omega), Option.bind_some]
  exact aRb h p (yO l) (by omega) _ 0 BIG rfl (eK (by omega)) (Nat.zero_le _)
 ·simp only [mG, show decide ((i : Int) < (l.length : Int)) = true by simpa using hi, cond_true, dP hi, Option.bind_some]
  rw [fG (by simp; omega)]
  simp only [Option.bind_some]
  rw [cZ (by omega), ih _ (by simp; omega), List.append_assoc, List.singleton_append, ← List.map_cons (f := fun x : aM => x.Hour), ← List.drop_eq_getElem_cons hi]
 ·simp [mG]
end Go.Am
end
section
namespace Go.Am
def exF : aY := ((jW).getD (⟨0, 0, 0, 0, 0⟩, [])).1
def exL : List aM := ((jW).getD (⟨0, 0, 0, 0, 0⟩, [])).2
theorem aSf : jW = some (exF, exL) := by kernel_rfl
theorem aDq : VL exF exL := kE.1 (by kernel_rfl)
theorem aMg : exL.Pairwise fun x y => dH x < dH y := of_decide_eq_true (by kernel_rfl)
def exA (h : Int) : aO := aNs h (aIx h (gO exF) exL)
theorem yY (h : Int) : fT exF exL h = exA h := aLt aDq aMg h
theorem aKi (h : Int) : ∃ j, j ≤ 60 ∧ iH exF (exA h) j := by
 rw [← yY]
 exact sZ aDq h
theorem aBr (h : Int) : WF (exA h) := by
 obtain ⟨j, _, hg⟩ := aKi h
 exact hg.wf
theorem aQe : lR exF exL 12 = some (⟨[9, 8, 5], [7], [6, 4], 0⟩, 0) := by
 rw [aJy aDq (by rfl)]
 unfold uR
 rw [yY, aKl (aBr 12), aDa (aBr 12)]
 kernel_rfl
theorem aHw (h p : Int) : oJ (exA h) p = rL (wC (exA h)) (exA h).wilds (aBc (exA h)) p := by
 unfold oJ
 rw [aKl (aBr h), aDa (aBr h)]
theorem aMf : mM (exA 10) 4 = some 2 := by
 unfold mM
 rw [wA (aBr 10), xO (aBr 10)]
 kernel_rfl
theorem aNu : rZ exF exL 10 4 = some (2, 0) := by
 obtain ⟨j, hj, hg⟩ := aKi 10
 unfold rZ
 rw [sU, kE.2 aDq, yY]
 simp only [decide_true, Bool.not_true, cond_false, show wi 10 0 9999 = true from rfl, show wi 4 0 999 = true from rfl, Bool.or_self, Option.bind_some]
 rw [aDh hg hj, aHw, aMf, show rL (wC (exA 10)) (exA 10).wilds (aBc (exA 10)) 4 = (3, 3) by kernel_rfl, show (exA 10).frozen = false by kernel_rfl]
 rfl
theorem aNt : yO exL = [1, 2, 3, 4, 5, 6, 11, 12, 15, 21, 22] := by
 have h : sK (exL.map fun x => x.Hour) = exL.map fun x => x.Hour := by
  have hs := List.pairwise_mergeSort (le := fun x y : Int => decide (x ≤ y)) (by intro a b c; simp only [decide_eq_true_eq]; omega) (by intro a b; simp only [Bool.or_eq_true, decide_eq_true_eq]; omega) (exL.map fun x => x.Hour)
  refine uI (R := fun x y : Int => x ≤ y) (List.mergeSort_perm _ _) (hs.imp fun {x y} h => by simpa using h) (of_decide_eq_true (by kernel_rfl)) fun a _ b _ h1 h2 => Int.le_antisymm h1 h2
 unfold yO
 rw [h]
 have : qX (exL.map fun x => x.Hour) = [1, 2, 3, 4, 5, 6, 11, 12, 15, 21, 22] := by kernel_rfl
 exact this
theorem aQf : rR exF exL 4 = some (15, 0) := by
 have hf : aFa exF exL 4 = fun h => decide ((rL (wC (exA h)) (exA h).wilds (aBc (exA h)) 4).1 = 1) || decide ((rL (wC (exA h)) (exA h).wilds (aBc (exA h)) 4).1 = 2) := by
  funext h
  unfold aFa
  rw [yY, aHw]
 rw [aPu aDq (by rfl), hf, aNt]
 have : [1, 2, 3, 4, 5, 6, 11, 12, 15, 21, 22].find? (fun h => decide ((rL (wC (exA h)) (exA h).wilds (aBc (exA h)) 4).1 = 1) || decide ((rL (wC (exA h)) (exA h).wilds (aBc (exA h)) 4).1 = 2)) = some 15 := by kernel_rfl
 rw [this]
theorem aBo : lH = some true := by
 unfold lH
 rw [aSf, Option.bind_some, aQe, Option.bind_some, aNu, Option.bind_some, aQf, Option.bind_some]
 kernel_rfl
end Go.Am
end
