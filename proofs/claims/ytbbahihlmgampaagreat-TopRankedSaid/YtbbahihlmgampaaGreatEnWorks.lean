/- Plain laws, one behind the other. -/
import Derived.Test.YtbbahihlmgampaaGreatEnDet
import Derived.KernelRfl
section
namespace Go.Am
def wi (n lo hi : Int) : Bool := decide (lo ≤ n) && decide (n ≤ hi)
theorem tS {n lo hi : Int} : wi n lo hi = true ↔ lo ≤ n ∧ n ≤ hi := by simp [wi]
theorem aIk (n lo hi : Int) : cN n lo hi = some (wi n lo hi) := by
 unfold cN wi
 cases decide (lo ≤ n) <;> rfl
theorem vO (n lo hi : Int) : cW n lo hi = some (wi n lo hi) := by
 unfold cW wi
 cases decide (lo ≤ n) <;> rfl
def pI (f : bE) : Bool := wi f.Places 1 32 && wi f.Wilds 0 32 && wi f.Guards 0 32 && wi f.Close 0 9999 && wi f.Freeze f.Close 9999
def pC (n : aN) : Bool := wi n.Id 0 999 && wi n.Player 0 999 && wi n.Hour 0 9999 &&
 (bif decide (n.Kind = 1) then wi n.Rank 0 9999 else bif decide (n.Kind = 2) then wi n.Rank 1 9999 else bif (decide (n.Kind = 3) || decide (n.Kind = 4) || decide (n.Kind = 5)) then decide (n.Rank = 0) else false)
theorem aOz (f : bE) : rL f = some (pI f) := by
 unfold rL pI
 simp only [aIk, Option.bind_some]
 cases wi f.Places 1 32 <;> cases wi f.Wilds 0 32 <;> cases wi f.Guards 0 32 <;> cases wi f.Close 0 9999 <;> cases wi f.Freeze f.Close 9999 <;> rfl
theorem aUy (n : Int) : wi n 0 0 = decide (n = 0) := by
 unfold wi
 by_cases h : n = 0
 ·subst h; rfl
 ·have : ¬ (0 ≤ n ∧ n ≤ 0) := by omega
  cases h1 : decide (0 ≤ n) <;> cases h2 : decide (n ≤ 0) <;> simp_all <;> omega
theorem aPb (n : aN) : qN n = some (pC n) := by
 unfold qN pC
 simp only [aIk, Option.bind_some, aUy]
 by_cases h1 : n.Kind = 1
 ·simp only [h1, decide_true, cond_true]
  cases wi n.Id 0 999 <;> cases wi n.Player 0 999 <;> cases wi n.Hour 0 9999 <;> cases wi n.Rank 0 9999 <;> rfl
 ·by_cases h2 : n.Kind = 2
  ·simp only [h2, decide_true, cond_true, show decide ((2 : Int) = 1) = false from rfl, cond_false]
   cases wi n.Id 0 999 <;> cases wi n.Player 0 999 <;> cases wi n.Hour 0 9999 <;> cases wi n.Rank 1 9999 <;> rfl
  ·cases wi n.Id 0 999 <;> cases wi n.Player 0 999 <;> cases wi n.Hour 0 9999 <;> cases decide (n.Rank = 0) <;> cases decide (n.Kind = 3) <;> cases decide (n.Kind = 4) <;> cases decide (n.Kind = 5) <;> simp [h1, h2]
theorem aPa (n : aN) : mV n = some (pC n) := by
 unfold mV pC
 simp only [vO, Option.bind_some]
 by_cases h1 : n.Kind = 1
 ·simp only [h1, decide_true, cond_true]
  cases wi n.Id 0 999 <;> cases wi n.Player 0 999 <;> cases wi n.Hour 0 9999 <;> cases wi n.Rank 0 9999 <;> rfl
 ·by_cases h2 : n.Kind = 2
  ·simp only [h2, decide_true, cond_true, show decide ((2 : Int) = 1) = false from rfl, cond_false]
   cases wi n.Id 0 999 <;> cases wi n.Player 0 999 <;> cases wi n.Hour 0 9999 <;> cases wi n.Rank 1 9999 <;> rfl
  ·cases wi n.Id 0 999 <;> cases wi n.Player 0 999 <;> cases wi n.Hour 0 9999 <;> cases decide (n.Rank = 0) <;> cases decide (n.Kind = 3) <;> cases decide (n.Kind = 4) <;> cases decide (n.Kind = 5) <;> simp [h1, h2]
def tU (l : List aN) (i : Nat) : Bool := match l[i]? with
 | some x => pC x && (l.take i).all fun y => !decide (y.Id = x.Id) || decide (y = x)
 | none => false
def wK (f : bE) (l : List aN) : Int := bif !pI f then 50 else bif decide (60 < (l.length : Int)) then 51 else bif (List.range l.length).all (tU l) then 0 else 51
theorem wW {l : List aN} {i : Nat} (h : i < l.length) : tU l i = (pC l[i] && (l.take i).all fun y => !decide (y.Id = l[i].Id) || decide (y = l[i])) := by
 unfold tU
 rw [List.getElem?_eq_getElem h]
theorem aQe (l : List aN) (hl : l.length ≤ 60) (i : Nat) (hi : i < l.length) (again : Int → Option Int) : ∀ k, i < k → iM again l (i : Int) k 0 =
  bif (List.range i).all (fun j => match l[j]? with | some y => !decide (y.Id = l[i].Id) || decide (y = l[i]) | none => false) then again (w64 ((i : Int) + 1)) else some 51 := by
 refine oC (iM again l (i : Int)) i _ _ _ (fun k j hj => ?_) fun k => ?_
 ·have hj2 : j < l.length := by omega
  simp only [iM, show decide ((j : Int) < (i : Int)) = true by simpa using hj, cond_true, cT hj2, cT hi, Option.bind_some, List.getElem?_eq_getElem hj2, cA (i := j) (by omega)]
  cases h1 : decide (l[j].Id = l[i].Id) <;> cases h2 : decide (l[j] = l[i]) <;> simp
 ·simp [iM, rZ, rY]
theorem aRj (l : List aN) (p : aN → Bool) (i : Nat) (hi : i ≤ l.length) : (List.range i).all (fun j => match l[j]? with | some y => p y | none => false) = (l.take i).all p := by
 rw [Bool.eq_iff_iff]
 simp only [List.all_eq_true, List.mem_range]
 constructor
 ·intro h y hy
  obtain ⟨j, hj, rfl⟩ := List.getElem_of_mem hy
  simp only [List.length_take] at hj
  have := h j (by omega)
  rw [List.getElem?_eq_getElem (by omega)] at this
  simpa using this
 ·intro h j hj
  rw [List.getElem?_eq_getElem (by omega)]
  refine h _ (List.mem_take_iff_getElem.2 ⟨j, by omega, rfl⟩)
theorem aQf (f : bE) (l : List aN) : oW f l = some (wK f l) := by
 have hF : ∀ {b : Option Int}, ((cW f.Places 1 32).bind fun r2 =>
  (bif !r2 then (some true) else ((cW f.Wilds 0 32).bind fun r3 => some (!r3))).bind fun b4 =>
  (bif b4 then (some true) else ((cW f.Guards 0 32).bind fun r5 => some (!r5))).bind fun b6 =>
  (bif b6 then (some true) else ((cW f.Close 0 9999).bind fun r7 => some (!r7))).bind fun b8 =>
  (bif b8 then (some true) else ((cW f.Freeze f.Close 9999).bind fun r9 => some (!r9))).bind fun b10 =>
  bif b10 then (some 50) else b) = bif !pI f then some 50 else b := by
  intro b
  simp only [vO, Option.bind_some]
  unfold pI
  cases wi f.Places 1 32 <;> cases wi f.Wilds 0 32 <;> cases wi f.Guards 0 32 <;> cases wi f.Close 0 9999 <;> cases wi f.Freeze f.Close 9999 <;> rfl
 unfold oW wK
 rw [hF]
 cases pI f with
 | false => rfl
 | true =>
  simp only [Bool.not_true, cond_false]
  cases hl : decide (60 < (l.length : Int)) with
  | true => rfl
  | false =>
   simp only [cond_false]
   have hl' : l.length ≤ 60 := by simp at hl; omega
   have := oC (iL l) l.length (tU l) (some 51) (some 0) (fun k i hi => ?_) (fun k => ?_) BIG (cR (by omega))
   ·rw [this]
    cases (List.range l.length).all (tU l) <;> rfl
   ·simp only [iL, show decide ((i : Int) < (l.length : Int)) = true by simpa using hi, cond_true, cT hi, Option.bind_some, aPa]
    rw [wW hi, aQe l hl' i hi _ BIG (cR (by omega)), aRj l (fun y => !decide (y.Id = l[i].Id) || decide (y = l[i])) i (by omega), cA (by omega)]
    cases pC l[i] <;> cases (l.take i).all (fun y => !decide (y.Id = l[i].Id) || decide (y = l[i])) <;> rfl
   ·simp [iL, rX]
theorem aJp {α β : Type} [DecidableEq α] (a b : α) (v : β) : ∀ m : List (α × β), lS a (dS b v m) = (decide (a = b) || lS a m)
 | [] => by simp [dS, lS]
 | (c, u) :: m => by
  simp only [dS]
  by_cases hbc : b = c
  ·subst hbc
   simp [lS]
  ·simp only [hbc, decide_false, cond_false, lS, aJp a b v m]
   by_cases h1 : a = c <;> by_cases h2 : a = b <;> simp [h1, h2]
theorem zR {α β : Type} [DecidableEq α] (a b : α) (v z : β) : ∀ m : List (α × β), aH a z (dS b v m) = bif decide (a = b) then v else aH a z m
 | [] => by simp [dS, aH]
 | (c, u) :: m => by
  simp only [dS]
  by_cases hbc : b = c
  ·subst hbc
   by_cases h : a = b <;> simp [aH, h]
  ·simp only [hbc, decide_false, cond_false, aH, zR a b v z m]
   by_cases h1 : a = c
   ·subst h1
    simp [Ne.symm hbc, Ne.symm (a := a) (b := b) (fun e => hbc e.symm)]
   ·simp [h1]
def aWk (l : List aN) (m : List (Int × aN)) : Prop := ∀ id, (lS id m = true → aH id (aN.mk 0 0 0 0 0) m ∈ l ∧ (aH id (aN.mk 0 0 0 0 0) m).Id = id) ∧ (∀ y ∈ l, y.Id = id → lS id m = true)
theorem aQh (f : bE) (l : List aN) : tK f l = some (wK f l) := by
 unfold tK wK
 rw [aOz]
 simp only [Option.bind_some]
 cases pI f with
 | false => rfl
 | true =>
  simp only [Bool.not_true, cond_false]
  cases hl : decide (60 < (l.length : Int)) with
  | true => rfl
  | false =>
   simp only [cond_false]
   have hl' : l.length ≤ 60 := by simp at hl; omega
   have key := rR (lN l (l.length : Int)) l.length (fun i _ => some (bif (List.range' i (l.length - i)).all (tU l) then (0 : Int) else 51))
    (fun i m => aWk (l.take i) m ∧ ∀ j, j < i → tU l j = true) (fun k i m hi hI ih => ?_) (fun k m hI => ?_) BIG [] (cR (by omega)) ⟨fun id => ⟨fun h => by simp [lS] at h, fun y hy => by simp at hy⟩, fun j hj => by omega⟩
   ·rw [key]
    simp [List.range_eq_range']
   ·obtain ⟨hK, hg⟩ := hI
    have hrest : List.range' i (l.length - i) = i :: List.range' (i + 1) (l.length - (i + 1)) := by
     rw [show l.length - i = (l.length - (i + 1)) + 1 by omega, List.range'_succ]
    have hgood : tU l i = (pC l[i] && !(lS l[i].Id m && !decide (aH l[i].Id (aN.mk 0 0 0 0 0) m = l[i]))) := by
     rw [wW hi]
     congr 1
     rw [Bool.eq_iff_iff]
     simp only [List.all_eq_true, Bool.or_eq_true, Bool.not_eq_true', decide_eq_false_iff_not, decide_eq_true_eq, Bool.and_eq_false_iff, Bool.not_eq_false']
     constructor
     ·intro h
      cases hm : lS l[i].Id m with
      | false => exact .inl rfl
      | true =>
       right
       obtain ⟨h1, h2⟩ := (hK l[i].Id).1 hm
       rcases h _ h1 with h3 | h3
       ·exact absurd h2 h3
       ·exact h3
     ·intro h y hy
      by_cases hid : y.Id = l[i].Id
      ·right
       have hm := (hK l[i].Id).2 y hy hid
       rcases h with h | h
       ·rw [hm] at h; cases h
       ·obtain ⟨h1, h2⟩ := (hK l[i].Id).1 hm
        obtain ⟨a, ha, hya⟩ := List.getElem_of_mem hy
        obtain ⟨b, hb, hmb⟩ := List.getElem_of_mem h1
        simp only [List.length_take] at ha hb
        simp only [List.getElem_take] at hya hmb
        have same : ∀ p q : Nat, p < q → q < i → ∀ (hp : p < l.length) (hq : q < l.length), l[p].Id = l[q].Id → l[p] = l[q] := by
         intro p q hpq hqi hp hq he
         have := hg q hqi
         rw [wW hq] at this
         simp only [Bool.and_eq_true, List.all_eq_true, Bool.or_eq_true, Bool.not_eq_true', decide_eq_false_iff_not, decide_eq_true_eq] at this
         rcases this.2 l[p] (List.mem_take_iff_getElem.2 ⟨p, by omega, rfl⟩) with h | h
         ·exact absurd he h
         ·exact h
        rw [← h]
        rcases Nat.lt_trichotomy a b with hab | hab | hab
        ·rw [← hya, ← hmb]
         exact same a b hab (by omega) (by omega) (by omega) (by rw [hya, hmb, hid, h2])
        ·subst hab
         rw [← hya, ← hmb]
        ·rw [← hya, ← hmb]
         exact (same b a hab (by omega) (by omega) (by omega) (by rw [hya, hmb, hid, h2])).symm
      ·exact .inl hid
    simp only [lN, show decide ((i : Int) < (l.length : Int)) = true by simpa using hi, cond_true, cT hi, Option.bind_some, aPb, cA (i := i) (by omega)]
    rw [hrest, List.all_cons, hgood]
    have ih' : tU l i = true → lN l (l.length : Int) k ((i + 1 : Nat) : Int) (dS l[i].Id l[i] m) = some (bif (List.range' (i + 1) (l.length - (i + 1))).all (tU l) then (0 : Int) else 51) := fun hgi => by
     refine ih _ ⟨fun id => ?_, fun j hj => ?_⟩
     ·have htk : l.take (i + 1) = l.take i ++ [l[i]] := by rw [List.take_add_one, List.getElem?_eq_getElem hi]; rfl
      rw [htk, aJp, zR]
      constructor
      ·intro h
       by_cases hid : id = l[i].Id
       ·subst hid
        simp only [decide_true, cond_true]
        exact ⟨List.mem_append.2 (.inr (List.mem_singleton.2 rfl)), trivial⟩
       ·simp only [hid, decide_false, Bool.false_or, cond_false] at h ⊢
        obtain ⟨h1, h2⟩ := (hK id).1 h
        exact ⟨List.mem_append.2 (.inl h1), h2⟩
      ·intro y hy he
       rcases List.mem_append.1 hy with hy | hy
       ·rw [(hK id).2 y hy he]; simp
       ·simp at hy; subst hy; simp [he]
     ·rcases Nat.lt_or_ge j i with h | h
      ·exact hg j h
      ·have : j = i := by omega
       subst this; exact hgi
    rw [hgood] at ih'
    revert ih'
    cases pC l[i] <;> cases lS l[i].Id m <;> cases decide (aH l[i].Id (aN.mk 0 0 0 0 0) m = l[i]) <;> intro ih' <;> first | rfl | (simpa using ih' rfl)
   ·simp [lN, vQ]
structure VL (f : bE) (l : List aN) : Prop where
 fd : pI f = true
 len : l.length ≤ 60
 nt : ∀ x ∈ l, pC x = true
 id : ∀ x ∈ l, ∀ y ∈ l, x.Id = y.Id → x = y
theorem uP {f : bE} {l : List aN} : wK f l = 0 ↔ VL f l := by
 unfold wK
 constructor
 ·intro h
  cases h1 : pI f with
  | false => rw [h1] at h; simp at h
  | true =>
   rw [h1] at h
   simp only [Bool.not_true, cond_false] at h
   cases h2 : decide (60 < (l.length : Int)) with
   | true => rw [h2] at h; simp at h
   | false =>
    rw [h2] at h
    simp only [cond_false] at h
    cases h3 : (List.range l.length).all (tU l) with
    | false => rw [h3] at h; simp at h
    | true =>
     simp only [List.all_eq_true, List.mem_range] at h3
     have hg : ∀ i (hi : i < l.length), pC l[i] = true ∧ ∀ y ∈ l.take i, y.Id = l[i].Id → y = l[i] := fun i hi => by
      have := h3 i hi
      rw [wW hi] at this
      simp only [Bool.and_eq_true, List.all_eq_true, Bool.or_eq_true, Bool.not_eq_true', decide_eq_false_iff_not, decide_eq_true_eq] at this
      exact ⟨this.1, fun y hy he => (this.2 y hy).resolve_left fun h => h he⟩
     refine ⟨h1, by simp at h2; omega, fun x hx => ?_, fun x hx y hy he => ?_⟩
     ·obtain ⟨i, hi, rfl⟩ := List.getElem_of_mem hx
      exact (hg i hi).1
     ·obtain ⟨i, hi, rfl⟩ := List.getElem_of_mem hx
      obtain ⟨j, hj, rfl⟩ := List.getElem_of_mem hy
      rcases Nat.lt_trichotomy i j with h | h | h
      ·exact (hg j hj).2 _ (List.mem_take_iff_getElem.2 ⟨i, by omega, rfl⟩) he
      ·subst h; rfl
      ·exact ((hg i hi).2 _ (List.mem_take_iff_getElem.2 ⟨j, by omega, rfl⟩) he.symm).symm
 ·rintro ⟨h1, h2, h3, h4⟩
  rw [h1]
  have : decide (60 < (l.length : Int)) = false := by simp; omega
  rw [this]
  have h5 : (List.range l.length).all (tU l) = true := by
   simp only [List.all_eq_true, List.mem_range]
   intro i hi
   rw [wW hi]
   simp only [Bool.and_eq_true, List.all_eq_true, Bool.or_eq_true, Bool.not_eq_true', decide_eq_false_iff_not, decide_eq_true_eq]
   refine ⟨h3 _ (List.getElem_mem hi), fun y hy => ?_⟩
   by_cases he : y.Id = l[i].Id
   ·exact .inr (h4 _ (List.mem_of_mem_take hy) _ (List.getElem_mem hi) he)
   ·exact .inl he
  rw [h5]
  rfl
end Go.Am
end
section
namespace Go.Am
def mB (x : aN) : Int := x.Hour * 1000 + x.Id
section
variable {α : Type}
theorem jM {A : List α} {x : α} {B : List α} {p : Int} (h : p = (A.length : Int)) : idx (A ++ x :: B) p = some x := by
 subst h; rw [cT (by simp)]; simp
theorem tA {A : List α} {x y : α} {B : List α} {p : Nat} (h : p = A.length) : (A ++ x :: B).set p y = A ++ y :: B := by
 subst h; simp
theorem pB {A : List α} {x y : α} {B : List α} {p : Int} (h : p = ((A.length + 1 : Nat) : Int)) : idx (A ++ x :: y :: B) p = some y := by
 have : A ++ x :: y :: B = (A ++ [x]) ++ y :: B := by simp
 rw [this, jM (by simp [h])]
end
def jS (p : aN) : List aN → List aN
 | [] => []
 | y :: t => if y = p then jS p t else y :: jS y t
def fA : List aN → List aN
 | [] => []
 | x :: t => x :: jS x t
theorem aBm (again : Int → List aN → Option (List aN)) {k0 : Nat} : ∀ (t : List aN) (p : aN) (W X : List aN) (k2 k : Nat), 1 ≤ k2 → W.length + X.length + 1 = k0 + k2 → k0 ≤ W.length → (W ++ X ++ p :: t).length < 4611686018427387904 → t.length < k →
  eF again (k0 : Nat) k (W.length : Nat) (k2 : Nat) (W ++ X ++ p :: t) = some (W ++ jS p t) := by
 intro t
 induction t with
 | nil =>
  intro p W X k2 k h1 h2 h3 hb hk
  obtain ⟨k, rfl⟩ : ∃ q, k = q + 1 := ⟨k - 1, by omega⟩
  simp only [List.length_append, List.length_cons, List.length_nil] at hb
  have t0 : ((k0 : Nat) : Int).toNat = k0 := rfl
  have t1 : ((W.length : Nat) : Int).toNat = W.length := rfl
  have hlt : decide ((k2 : Int) < (((W ++ X ++ [p]).drop k0).length : Int)) = false := decide_eq_false (by simp; omega)
  have c1 : (decide ((0 : Int) ≤ (W.length : Int)) && decide ((W.length : Int) ≤ ((W ++ X ++ [p]).length : Int))) = true := by simp; omega
  have c2 : decide (W.length ≤ (W ++ X ++ [p]).length) = true := by simp
  have c3 : decide ((0 : Int) ≤ (W.length : Int)) = true := by simp
  simp only [eF, t0, hlt, cond_false, nE]
  rw [c1, t1, c2, c3]
  simp [chk, jS]
 | cons y t ih =>
  intro p W X k2 k h1 h2 h3 hb hk
  obtain ⟨k, rfl⟩ : ∃ q, k = q + 1 := ⟨k - 1, by omega⟩
  simp only [List.length_append, List.length_cons] at hb hk
  have t0 : ((k0 : Nat) : Int).toNat = k0 := rfl
  have t1 : ((W.length : Nat) : Int).toNat = W.length := rfl
  have hlt : decide ((k2 : Int) < (((W ++ X ++ p :: y :: t).drop k0).length : Int)) = true := decide_eq_true (by simp; omega)
  have ed : (W ++ X ++ p :: y :: t).drop k0 = (W ++ X).drop k0 ++ p :: y :: t := by rw [List.drop_append_of_le_length (by simp; omega)]
  have hdl : ((W ++ X).drop k0).length = k2 - 1 := by simp; omega
  have i1 : idx ((W ++ X ++ p :: y :: t).drop k0) (k2 : Nat) = some y := by rw [ed]; exact pB (by rw [hdl]; omega)
  have i2 : idx ((W ++ X ++ p :: y :: t).drop k0) (w64 ((k2 : Int) - 1)) = some p := by rw [aGm (by omega) (by omega), ed]; exact jM (by rw [hdl])
  simp only [eF, t0, hlt, cond_true, i1, i2, Option.bind_some, cA (show k2 < 9223372036854775807 by omega)]
  by_cases hyp : y = p
  ·subst hyp
   have := ih y W (X ++ [y]) (k2 + 1) k (by omega) (by simp; omega) h3 (by simp only [List.length_append, List.length_cons, List.length_nil]; omega) (by omega)
   have e1 : W ++ (X ++ [y]) ++ y :: t = W ++ X ++ y :: y :: t := by simp
   rw [e1] at this
   rw [decide_eq_true rfl, Bool.not_true, cond_false, this]
   simp [jS]
  ·have hd : (!decide (y = p)) = true := by rw [decide_eq_false hyp]; rfl
   have i3 : ∃ z, idx (W ++ X ++ p :: y :: t) (W.length : Nat) = some z := ⟨_, cT (by simp; omega)⟩
   obtain ⟨z, i3⟩ := i3
   rw [hd, cond_true, i3, Option.bind_some, t1, cA (by omega)]
   obtain ⟨X', e2⟩ : ∃ X', (W ++ X ++ p :: y :: t).set W.length y = (W ++ [y]) ++ X' ++ y :: t ∧ X'.length = X.length := by
    cases X with
    | nil => exact ⟨[], by simp, rfl⟩
    | cons x X => exact ⟨X ++ [p], by simp, by simp⟩
   rw [e2.1]
   have := ih y (W ++ [y]) X' (k2 + 1) k (by omega) (by rw [List.length_append, e2.2]; simp; omega) (by simp; omega) (by simp only [List.length_append, List.length_cons, List.length_nil, e2.2]; omega) (by omega)
   have e3 : (W ++ [y]).length = W.length + 1 := by simp
   rw [e3] at this
   rw [this]
   simp [jS, hyp]
theorem yM (s : List aN) (hb : s.length < 4611686018427387904) : iJ s = some (fA s) := by
 have main : ∀ (t A : List aN) (p : aN) (k : Nat), t.length < k → (A ++ p :: t).length < 4611686018427387904 → dH k ((A.length + 1 : Nat) : Int) (A ++ p :: t) = some (A ++ p :: jS p t) := by
  intro t
  induction t with
  | nil =>
   intro A p k hk hb
   obtain ⟨k, rfl⟩ : ∃ q, k = q + 1 := ⟨k - 1, by omega⟩
   have hlt : decide (((A.length + 1 : Nat) : Int) < ((A ++ [p]).length : Int)) = false := decide_eq_false (by simp)
   simp only [dH, hlt, cond_false, nC, jS]
  | cons y t ih =>
   intro A p k hk hb
   obtain ⟨k, rfl⟩ : ∃ q, k = q + 1 := ⟨k - 1, by omega⟩
   simp only [List.length_append, List.length_cons] at hb hk
   have hlt : decide (((A.length + 1 : Nat) : Int) < ((A ++ p :: y :: t).length : Int)) = true := decide_eq_true (by simp; omega)
   have i2 : w64 (((A.length + 1 : Nat) : Int) - 1) = (A.length : Int) := by rw [cF (by omega) (by omega)]; omega
   simp only [dH, hlt, cond_true, pB rfl, i2, jM rfl, Option.bind_some]
   by_cases hyp : y = p
   ·subst hyp
    have c1 : (decide ((0 : Int) ≤ ((A.length + 1 : Nat) : Int)) && decide (((A.length + 1 : Nat) : Int) ≤ ((A ++ y :: y :: t).length : Int))) = true := by simp; omega
    rw [decide_eq_true rfl, cond_true, c1]
    simp only [chk, cond_true, Option.bind_some]
    have := aBm (dH k) (k0 := A.length + 1) t y (A ++ [y]) [] 1 BIG (Nat.le_refl _) (by simp) (by simp) (by simp only [List.length_append, List.length_cons, List.length_nil]; omega) (cR (by omega))
    have e3 : (A ++ [y]).length = A.length + 1 := by simp
    have e4 : A ++ [y] ++ [] ++ y :: t = A ++ y :: y :: t := by simp
    rw [e3, e4] at this
    have e5 : ((1 : Nat) : Int) = 1 := rfl
    rw [e5] at this
    rw [this]
    simp [jS]
   ·rw [decide_eq_false hyp, cond_false]
    unfold nD
    rw [cA (by omega)]
    have := ih (A ++ [p]) y k (by omega) (by simp only [List.length_append, List.length_cons, List.length_nil]; omega)
    have e3 : (A ++ [p]).length = A.length + 1 := by simp
    have e4 : A ++ [p] ++ y :: t = A ++ p :: y :: t := by simp
    rw [e3, e4] at this
    rw [this]
    simp [jS, hyp]
 unfold iJ
 match s, hb with
 | [], _ => simp [fA]
 | x :: t, hb =>
  by_cases ht : t = []
  ·subst ht; simp [fA, jS]
  ·have hl : 0 < t.length := List.length_pos_iff.2 ht
   have hd : decide (((x :: t).length : Int) < 2) = false := decide_eq_false (by simp; omega)
   rw [hd, cond_false]
   have := main t [] x BIG (cR (by simp at hb; omega)) (by simpa using hb)
   simp only [List.length_nil, List.nil_append, Nat.zero_add] at this
   have e5 : ((1 : Nat) : Int) = 1 := rfl
   rw [e5] at this
   rw [this]; rfl
theorem aGa (p x : aN) (t : List aN) : (x = p ∨ x ∈ jS p t) ↔ (x = p ∨ x ∈ t) := by
 induction t generalizing p with
 | nil => rfl
 | cons y t ih =>
  simp only [jS, List.mem_cons]
  by_cases h : y = p
  ·subst h
   rw [if_pos rfl]
   have := ih y
   constructor
   ·rintro (h | h)
    ·exact .inl h
    ·rcases this.1 (.inr h) with h | h
     ·exact .inl h
     ·exact .inr (.inr h)
   ·rintro (h | h | h)
    ·exact .inl h
    ·exact .inl h
    ·exact this.2 (.inr h)
  ·rw [if_neg h, List.mem_cons]
   have := ih y
   constructor
   ·rintro (h | h)
    ·exact .inl h
    ·exact .inr (this.1 h)
   ·rintro (h | h)
    ·exact .inl h
    ·exact .inr (this.2 h)
theorem aAa (x : aN) (s : List aN) : x ∈ fA s ↔ x ∈ s := by
 cases s with
 | nil => rfl
 | cons p t => simp only [fA, List.mem_cons]; exact aGa p x t
theorem aBz (p : aN) (t : List aN) : (jS p t).Sublist t := by
 induction t generalizing p with
 | nil => exact .slnil
 | cons y t ih =>
  simp only [jS]
  split
  ·exact (ih p).cons _
  ·exact (ih y).cons_cons _
theorem wM (p : aN) (t : List aN) (hs : (p :: t).Pairwise fun x y => mB x ≤ mB y) (hcl : ∀ x ∈ p :: t, ∀ y ∈ p :: t, mB x = mB y → x = y) : (p :: jS p t).Pairwise fun x y => mB x < mB y := by
 induction t generalizing p with
 | nil => exact List.pairwise_singleton _ _
 | cons y t ih =>
  have h1 := List.pairwise_cons.1 hs
  have h2 := List.pairwise_cons.1 h1.2
  simp only [jS]
  by_cases h : y = p
  ·subst h
   rw [if_pos rfl]
   exact ih y h1.2 (fun a ha b hb => hcl a (List.mem_cons_of_mem _ ha) b (List.mem_cons_of_mem _ hb))
  ·rw [if_neg h]
   have h3 := ih y h1.2 (fun a ha b hb => hcl a (List.mem_cons_of_mem _ ha) b (List.mem_cons_of_mem _ hb))
   refine List.pairwise_cons.2 ⟨fun z hz => ?_, h3⟩
   have hpy : mB p < mB y := by
    have := h1.1 y (by simp)
    rcases Int.lt_or_eq_of_le this with h4 | h4
    ·exact h4
    ·exact absurd (hcl p (by simp) y (by simp) h4).symm h
   rcases List.mem_cons.1 hz with rfl | hz
   ·exact hpy
   ·exact Int.lt_trans hpy ((List.pairwise_cons.1 h3).1 z hz)
theorem oE {α : Type} {key : α → Int} : ∀ {xs ys : List α}, xs.Pairwise (fun x y => key x < key y) → ys.Pairwise (fun x y => key x < key y) → (∀ x, x ∈ xs ↔ x ∈ ys) → xs = ys
 | [], [], _, _, _ => rfl
 | [], y :: ys, _, _, h => by have := (h y).2 (by simp); simp at this
 | x :: xs, [], _, _, h => by have := (h x).1 (by simp); simp at this
 | x :: xs, y :: ys, h1, h2, h => by
  have a1 := List.pairwise_cons.1 h1
  have a2 := List.pairwise_cons.1 h2
  have hxy : x = y := by
   rcases List.mem_cons.1 ((h x).1 (by simp)) with e | e
   ·exact e
   ·rcases List.mem_cons.1 ((h y).2 (by simp)) with e2 | e2
    ·exact e2.symm
    ·have := a2.1 x e; have := a1.1 y e2; omega
  subst hxy
  have := oE a1.2 a2.2 fun z => by
   have hz := h z
   simp only [List.mem_cons] at hz
   constructor
   ·intro hm
    rcases hz.1 (.inr hm) with e | e
    ·have := a1.1 z hm; rw [e] at this; omega
    ·exact e
   ·intro hm
    rcases hz.2 (.inr hm) with e | e
    ·have := a2.1 z hm; rw [e] at this; omega
    ·exact e
  rw [this]
theorem aOs (l : List aN) (hb : l.length ≤ 60) : jV l = some l := by
 have key := rR (dD (fun (s3 : List aN) x4 => (app 40 s3 ([x4])).bind fun x6 => some (x6, true)) l (l.length : Int)) l.length (fun i s => some (s ++ l.drop i, true)) (fun i s => s.length = i) (fun k i s hi hI ih => ?_) (fun k s hI => ?_) BIG [] (cR (by omega)) rfl
 ·unfold jV kX gT
  rw [key]
  simp
 ·simp only [dD, show decide ((i : Int) < (l.length : Int)) = true by simpa using hi, cond_true, cT hi, Option.bind_some]
  rw [nI (by simp; omega)]
  simp only [Option.bind_some, Bool.not_true, cond_false]
  rw [cA (by omega), ih _ (by simp; omega)]
  rw [List.append_assoc, List.singleton_append, ← List.drop_eq_getElem_cons hi]
 ·simp [dD, jG]
theorem or2 (a b : Int) : lD [a, b] = some (if a ≠ 0 then a else b) := by
 unfold lD
 obtain ⟨k, hk⟩ : ∃ k, BIG = k + 1 + 1 + 1 := ⟨BIG - 3, by unfold BIG; omega⟩
 rw [show ((([a, b] : List Int).length : Nat) : Int) = 2 from rfl, hk]
 simp only [lE, rK, show decide ((0 : Int) < 2) = true from rfl, cond_true, show idx [a, b] 0 = some a from rfl, Option.bind_some, show w64 (0 + 1) = 1 from rfl, show decide ((1 : Int) < 2) = true from rfl, show idx [a, b] 1 = some b from rfl, show w64 (1 + 1) = 2 from rfl, show decide ((2 : Int) < 2) = false from rfl, cond_false]
 by_cases h : a = 0
 ·subst h
  by_cases h2 : b = 0
  ·subst h2; simp
  ·simp [h2]
 ·simp [h]
def bN (x : aN) : Prop := 0 ≤ x.Id ∧ x.Id ≤ 999 ∧ 0 ≤ x.Hour ∧ x.Hour ≤ 9999
theorem aOq {x : aN} (h : pC x = true) : bN x := by
 unfold pC at h
 simp only [Bool.and_eq_true, tS] at h
 exact ⟨h.1.1.1.1, h.1.1.1.2, h.1.2.1, h.1.2.2⟩
theorem aVc {x y : aN} (hx : bN x) (hy : bN y) : ∃ r, eX x y = some r ∧ (r < 0 ↔ mB x < mB y) := by
 obtain ⟨a1, a2, a3, a4⟩ := hx
 obtain ⟨b1, b2, b3, b4⟩ := hy
 unfold eX
 rw [cF (by omega) (by omega), cF (by omega) (by omega), or2]
 refine ⟨_, rfl, ?_⟩
 unfold mB
 split <;> constructor <;> intro h <;> omega
theorem ltN {x y : aN} (hx : bN x) (hy : bN y) : ltO (fun a b => eX a b) x y = decide (mB x < mB y) := by
 obtain ⟨r, h1, h2⟩ := aVc hx hy
 unfold ltO
 simp only [h1]
 rw [Bool.eq_iff_iff]
 simpa using h2
theorem aLi {x y : aN} (hx : bN x) (hy : bN y) (h : mB x = mB y) : x.Id = y.Id := by
 obtain ⟨a1, a2, a3, a4⟩ := hx
 obtain ⟨b1, b2, b3, b4⟩ := hy
 unfold mB at h
 omega
theorem aOa {l : List aN} (hb : ∀ x ∈ l, bN x) (hid : ∀ x ∈ l, ∀ y ∈ l, x.Id = y.Id → x = y) : tY l (fun a b => eX a b) = true := by
 unfold tY
 simp only [List.all_eq_true, Bool.and_eq_true, Bool.or_eq_true, Bool.not_eq_true', decide_eq_true_eq]
 intro x hx
 refine ⟨by rw [ltN (hb x hx) (hb x hx)]; simp, fun y hy => ⟨⟨?_, ?_⟩, fun z hz => ⟨?_, ?_⟩⟩⟩
 ·obtain ⟨r, h1, _⟩ := aVc (hb x hx) (hb y hy)
  simp [h1]
 ·rw [ltN (hb x hx) (hb y hy), ltN (hb y hy) (hb x hx)]
  simp only [decide_eq_true_eq]
  rcases Int.lt_trichotomy (mB x) (mB y) with h | h | h
  ·exact .inl (.inr h)
  ·exact .inl (.inl (hid x hx y hy (aLi (hb x hx) (hb y hy) h)))
  ·exact .inr h
 ·rw [ltN (hb x hx) (hb y hy), ltN (hb y hy) (hb z hz), ltN (hb x hx) (hb z hz)]
  simp only [Bool.and_eq_false_iff, decide_eq_false_iff_not, decide_eq_true_eq]
  omega
 ·rw [ltN (hb x hx) (hb y hy), ltN (hb y hy) (hb z hz), ltN (hb x hx) (hb z hz)]
  simp only [decide_eq_false_iff_not, decide_eq_true_eq]
  omega
def qU (l : List aN) : List aN := fA (eP (fun a b => eX a b) l)
theorem aVf {l : List aN} (hlen : l.length ≤ 60) (hb : ∀ x ∈ l, bN x) (hid : ∀ x ∈ l, ∀ y ∈ l, x.Id = y.Id → x = y) :
  iU l (fun y5 y6 => eX y5 y6) = some (eP (fun a b => eX a b) l) ∧ iJ (eP (fun a b => eX a b) l) = some (qU l) := by
 have hl : (eP (fun a b => eX a b) l).length = l.length := (lB _ l).length_eq
 refine ⟨?_, yM _ (by omega)⟩
 unfold iU oD
 rw [aOs l hlen]
 simp only [Option.bind_some]
 unfold uA
 rw [if_pos ⟨aOa hb hid, by omega⟩]
 rfl
theorem yE {l : List aN} (x : aN) : x ∈ qU l ↔ x ∈ l := by
 unfold qU
 rw [aAa]
 exact (lB _ l).mem_iff
theorem aCu {l : List aN} (hb : ∀ x ∈ l, bN x) (hid : ∀ x ∈ l, ∀ y ∈ l, x.Id = y.Id → x = y) : (qU l).Pairwise fun x y => mB x < mB y := by
 have hs := tZ (aOa hb hid)
 have hm : ∀ x, x ∈ eP (fun a b => eX a b) l ↔ x ∈ l := fun x => (lB _ l).mem_iff
 unfold qU
 generalize hz : eP (fun a b => eX a b) l = z at hs hm
 have hs' : z.Pairwise fun x y => mB x ≤ mB y := by
  refine List.Pairwise.imp_of_mem (fun {x y} hx hy h => ?_) hs
  rw [ltN (hb y ((hm y).1 hy)) (hb x ((hm x).1 hx))] at h
  simp at h
  omega
 cases z with
 | nil => exact .nil
 | cons p t => exact wM p t hs' fun x hx y hy h => hid x ((hm x).1 hx) y ((hm y).1 hy) (aLi (hb x ((hm x).1 hx)) (hb y ((hm y).1 hy)) h)
end Go.Am
end
section
namespace Go.Am
section lists
variable {α : Type}
end lists
end Go.Am
end
section
namespace Go.Am
def findI {α : Type} (p : α → Bool) (l : List α) : Int := if l.findIdx p < l.length then (l.findIdx p : Int) else -1
theorem aJh {α : Type} (p : α → Bool) (l : List α) : decide (0 ≤ findI p l) = l.any p := by
 unfold findI
 split
 ·rename_i h
  have : l.any p = true := List.any_eq_true.2 ⟨_, List.getElem_mem h, List.findIdx_getElem (w := h)⟩
  rw [this]; simp
 ·rename_i h
  have : l.any p = false := by
   rw [Bool.eq_false_iff]
   intro hn
   obtain ⟨x, hx, hp⟩ := List.any_eq_true.1 hn
   exact h (List.findIdx_lt_length_of_exists ⟨x, hx, hp⟩)
  rw [this]; simp
theorem wV {α : Type} (F : Nat → Int → Option Int) (l : List α) (p : α → Bool) (h1 : ∀ k i (hi : i < l.length), F (k + 1) (i : Nat) = bif p l[i] then some (i : Int) else F k ((i + 1 : Nat) : Int)) (h2 : ∀ k, F (k + 1) (l.length : Nat) = some (-1)) :
  ∀ k, l.length < k → F k 0 = some (findI p l) := by
 have main : ∀ d i k, l.length - i = d → d < k → i ≤ l.length → (∀ j (hj : j < l.length), j < i → p l[j] = false) → F k (i : Nat) = some (findI p l) := by
  intro d
  induction d with
  | zero =>
   intro i k hd hk hi hno
   obtain ⟨k, rfl⟩ : ∃ q, k = q + 1 := ⟨k - 1, by omega⟩
   have : i = l.length := by omega
   subst this
   have he : ¬ l.findIdx p < l.length := fun h => by
    have := hno _ h h
    rw [List.findIdx_getElem (w := h)] at this
    cases this
   rw [h2, findI, if_neg he]
  | succ d ih =>
   intro i k hd hk hi hno
   obtain ⟨k, rfl⟩ : ∃ q, k = q + 1 := ⟨k - 1, by omega⟩
   have hil : i < l.length := by omega
   rw [h1 k i hil]
   cases hp : p l[i] with
   | true =>
    have he : l.findIdx p = i := by
     rw [List.findIdx_eq hil]
     exact ⟨hp, fun j hj => hno j (by omega) hj⟩
    rw [cond_true, findI, he, if_pos hil]
   | false =>
    rw [cond_false]
    exact ih (i + 1) k (by omega) (by omega) (by omega) fun j hj hji => by
     rcases Nat.lt_or_eq_of_le (Nat.le_of_lt_succ hji) with h | h
     ·exact hno j hj h
     ·subst h; exact hp
 intro k hk
 exact main _ 0 k rfl (by omega) (Nat.zero_le _) fun j _ h => by omega
section del
theorem aLg (l : List Int) (f : Int → Option Bool) (p : Int → Bool) (h : ∀ x ∈ l, f x = some (p x)) (hb : l.length ≤ 1000000) : jF l f = some (findI p l) := by
 unfold jF
 refine wV (fun k i => gX l f (l.length : Int) k i) l p (fun k i hi => ?_) (fun k => ?_) BIG (cR (by omega))
 ·have hlt : decide ((i : Int) < (l.length : Int)) = true := decide_eq_true (by omega)
  simp only [gX, hlt, cond_true, cT hi, Option.bind_some, h _ (List.getElem_mem hi), cA (show i < 9223372036854775807 by omega)]
 ·have hlt : decide ((l.length : Int) < (l.length : Int)) = false := decide_eq_false (by omega)
  simp only [gX, hlt, cond_false, pJ]
theorem aMu (f : Int → Option Bool) (p : Int → Bool) : ∀ (t W X : List Int) (k : Nat), (∀ x ∈ t, f x = some (p x)) → 0 < X.length → (W ++ X ++ t).length ≤ 1000000 → t.length < k →
  fE f k (W.length : Nat) ((W.length + X.length : Nat) : Int) (W ++ X ++ t) = some (W ++ t.filter fun x => !p x) := by
 intro t
 induction t with
 | nil =>
  intro W X k hf hX hb hk
  obtain ⟨k, rfl⟩ : ∃ q, k = q + 1 := ⟨k - 1, by omega⟩
  simp only [List.length_append, List.length_nil] at hb
  have hlt : decide (((W.length + X.length : Nat) : Int) < ((W ++ X ++ []).length : Int)) = false := decide_eq_false (by simp)
  have t1 : ((W.length : Nat) : Int).toNat = W.length := rfl
  have c1 : (decide ((0 : Int) ≤ (W.length : Int)) && decide ((W.length : Int) ≤ ((W ++ X ++ []).length : Int))) = true := by simp; omega
  have c2 : decide (W.length ≤ (W ++ X ++ []).length) = true := by simp
  have c3 : decide ((0 : Int) ≤ (W.length : Int)) = true := by simp
  simp only [fE, hlt, cond_false, pE]
  rw [c1, t1, c2, c3]
  simp [chk]
 | cons y t ih =>
  intro W X k hf hX hb hk
  obtain ⟨k, rfl⟩ : ∃ q, k = q + 1 := ⟨k - 1, by omega⟩
  simp only [List.length_append, List.length_cons] at hb hk
  have hlt : decide (((W.length + X.length : Nat) : Int) < ((W ++ X ++ y :: t).length : Int)) = true := decide_eq_true (by simp; omega)
  have i1 : idx (W ++ X ++ y :: t) ((W.length + X.length : Nat) : Int) = some y := jM (by simp)
  have hf1 := hf y (by simp)
  have hf2 : ∀ x ∈ t, f x = some (p x) := fun x hx => hf x (List.mem_cons_of_mem _ hx)
  have t1 : ((W.length : Nat) : Int).toNat = W.length := rfl
  simp only [fE, hlt, cond_true, i1, hf1, Option.bind_some, cA (show W.length + X.length < 9223372036854775807 by omega)]
  cases hp : p y with
  | true =>
   simp only [Bool.not_true, cond_false]
   have := ih W (X ++ [y]) k hf2 (by simp) (by simp; omega) (by omega)
   have e1 : W ++ (X ++ [y]) ++ t = W ++ X ++ y :: t := by simp
   have e2 : W.length + (X ++ [y]).length = W.length + X.length + 1 := by simp; omega
   rw [e1, e2] at this
   rw [this]; simp [hp]
  | false =>
   simp only [Bool.not_false, cond_true]
   match X, hX with
   | x :: X, _ =>
    have i2 : idx (W ++ (x :: X) ++ y :: t) (W.length : Nat) = some x := by
     have : W ++ (x :: X) ++ y :: t = W ++ x :: (X ++ y :: t) := by simp
     rw [this]; exact jM rfl
    have e3 : (W ++ (x :: X) ++ y :: t).set W.length y = (W ++ [y]) ++ (X ++ [y]) ++ t := by
     have : W ++ (x :: X) ++ y :: t = W ++ x :: (X ++ y :: t) := by simp
     rw [this, tA rfl]; simp
    rw [i2, Option.bind_some, t1, e3, cA (by omega)]
    have := ih (W ++ [y]) (X ++ [y]) k hf2 (by simp) (by simp at hb ⊢; omega) (by omega)
    have e4 : (W ++ [y]).length = W.length + 1 := by simp
    have e5 : (W ++ [y]).length + (X ++ [y]).length = W.length + (x :: X).length + 1 := by simp; omega
    rw [e5, e4] at this
    rw [this]; simp [hp]
theorem aGq (s : List Int) (f : Int → Option Bool) (p : Int → Bool) (h : ∀ x ∈ s, f x = some (p x)) (hb : s.length ≤ 1000000) : dE s f = some (s.filter fun x => !p x) := by
 unfold dE
 rw [aLg s f p h hb, Option.bind_some]
 unfold findI
 by_cases hl : s.findIdx p < s.length
 ·rw [if_pos hl, decide_eq_false (by omega), cond_false]
  obtain ⟨i, hi⟩ : ∃ i, i = s.findIdx p := ⟨_, rfl⟩
  rw [← hi] at hl ⊢
  have hno : ∀ x ∈ s.take i, (!p x) = true := fun x hx => by
   obtain ⟨j, hj, rfl⟩ := List.getElem_of_mem hx
   simp only [List.length_take] at hj
   rw [List.getElem_take]
   have := List.not_of_lt_findIdx (p := p) (xs := s) (i := j) (by omega)
   simpa using this
  have hyes : p s[i] = true := by
   have := List.findIdx_getElem (p := p) (xs := s) (w := hi ▸ hl)
   simpa [← hi] using this
  have es : s = s.take i ++ [s[i]] ++ s.drop (i + 1) := by
   rw [List.append_assoc, List.singleton_append, ← List.drop_eq_getElem_cons hl, List.take_append_drop]
  have hloop := aMu f p (s.drop (i + 1)) (s.take i) [s[i]] BIG (fun x hx => h x (List.mem_of_mem_drop hx)) (by simp) (by rw [← es]; omega) (cR (by simp; omega))
  have e1 : (s.take i).length = i := by simp; omega
  rw [e1, ← es] at hloop
  rw [cA (by omega)]
  have e2 : i + [s[i]].length = i + 1 := rfl
  rw [e2] at hloop
  rw [hloop]
  congr 1
  conv => rhs; rw [es]
  rw [List.filter_append, List.filter_append, List.filter_eq_self.2 hno]
  simp [hyes]
 ·rw [if_neg hl, decide_eq_true rfl, cond_true]
  congr 1
  symm
  refine List.filter_eq_self.2 fun x hx => ?_
  cases hp : p x with
  | false => rfl
  | true => exact absurd (List.findIdx_lt_length_of_exists ⟨x, hx, hp⟩) hl
end del
theorem aKo (l : List Int) (hl : l.length ≤ 9223372036854775807) (v : Int) : iH l v = some (match l.findIdx? (fun x => decide (v = x)) with | some i => (i : Int) | none => -1) := by
 unfold iH
 rw [rR (S := Unit) (fun k i _ => eB l v l.length k i) l.length (fun i _ => some (match (l.drop i).findIdx? (fun x => decide (v = x)) with | some j => ((i + j : Nat) : Int) | none => -1)) (fun _ _ => True) ?_ ?_ BIG () (cR hl) trivial]
 ·simp
 ·intro k i _ hi _ ih
  have := ih () trivial
  simp only [eB, cT hi, Option.bind_some, cA (show i < 9223372036854775807 by omega), Int.ofNat_lt, hi, decide_true, cond_true, this]
  rw [List.drop_eq_getElem_cons hi, List.findIdx?_cons]
  by_cases h : v = l[i]
  ·simp [h]
  ·simp only [h, decide_false, cond_false, Bool.false_eq_true, if_false]
   cases List.findIdx? (fun x => decide (v = x)) (List.drop (i + 1) l) with
   | none => rfl
   | some j => simp; omega
 ·intro k _ _
  simp [eB, mY]
theorem uM (l : List Int) (hl : l.length ≤ 9223372036854775807) (v : Int) : fO l v = some (decide (v ∈ l)) := by
 unfold fO
 rw [aKo l hl v]
 cases h : List.findIdx? (fun x => decide (v = x)) l with
 | none =>
  simp at h
  have : v ∉ l := fun hm => h v hm rfl
  simp [this]
 | some j =>
  have : v ∈ l := by
   obtain ⟨h1, h2, _⟩ := List.findIdx?_eq_some_iff_getElem.1 h
   simp at h2
   rw [h2]; exact List.getElem_mem h1
  simp [this]
theorem aQw (out : List Int) (p : Int) (hb : out.length ≤ 1000000) : iH out p = some (findI (fun x => decide (p = x)) out) := by
 unfold iH
 refine wV (fun k i => eB out p (out.length : Int) k i) out (fun x => decide (p = x)) (fun k i hi => ?_) (fun k => ?_) BIG (cR (by omega))
 ·have hlt : decide ((i : Int) < (out.length : Int)) = true := decide_eq_true (by omega)
  simp only [eB, hlt, cond_true, cT hi, Option.bind_some, cA (show i < 9223372036854775807 by omega)]
 ·have hlt : decide ((out.length : Int) < (out.length : Int)) = false := decide_eq_false (by omega)
  simp only [eB, hlt, cond_false, mY]
theorem aQc (a b : List Int) (ha : a.length ≤ 100000) (hb : b.length ≤ 100000) : oI [a, b] = some (a ++ b) := by
 have e1 : ∀ k s, iD [a, b] 2 (k + 3) 0 s = (app 8 s a).bind fun x => (app 8 x b).bind fun y => some y := by
  intro k s
  have w1 : w64 (0 + 1) = 1 := rfl
  have w2 : w64 (1 + 1) = 2 := rfl
  have i0 : idx [a, b] 0 = some a := rfl
  have i1 : idx [a, b] 1 = some b := rfl
  have c0 : decide ((0 : Int) < 2) = true := rfl
  have c1 : decide ((1 : Int) < 2) = true := rfl
  have c2 : decide ((2 : Int) < 2) = false := rfl
  rw [iD, c0, cond_true, i0, Option.bind_some, w1]
  refine congrArg _ (funext fun x => ?_)
  rw [iD, c1, cond_true, i1, Option.bind_some, w2]
  refine congrArg _ (funext fun y => ?_)
  rw [iD, c2, cond_false]; rfl
 have hB : BIG = (18446744073709551616 - 3) + 3 := rfl
 have hL : (([a, b] : List (List Int)).length : Int) = 2 := rfl
 have g1 : w64 (0 + (a.length : Int)) = a.length := by rw [cF (by omega) (by omega)]; omega
 have g2 : w64 ((a.length : Int) + (b.length : Int)) = ((a.length + b.length : Nat) : Int) := by rw [cF (by omega) (by omega)]; omega
 have hgrow : pZ ((a.length + b.length : Nat) : Int) = some [] := by
  unfold pZ
  have w0 : w64 (0 - 0) = 0 := rfl
  rw [decide_eq_false (by omega), cond_false, w0, Int.sub_zero, cF (by omega) (by omega)]
  by_cases h0 : (0 : Int) < ((a.length + b.length : Nat) : Int)
  ·have c1 : decide (((a.length + b.length : Nat) : Int) * ((8 : Nat) : Int) ≤ 140737488355328) = true := decide_eq_true (by omega)
   rw [decide_eq_true h0, cond_true, c1]; rfl
  ·rw [decide_eq_false h0, cond_false]
 unfold oI
 rw [hB, hL]
 have w1 : w64 (0 + 1) = 1 := rfl
 have w2 : w64 (1 + 1) = 2 := rfl
 have i0 : idx [a, b] 0 = some a := rfl
 have i1 : idx [a, b] 1 = some b := rfl
 have c0 : decide ((0 : Int) < 2) = true := rfl
 have c1 : decide ((1 : Int) < 2) = true := rfl
 have c2 : decide ((2 : Int) < 2) = false := rfl
 rw [jE, c0, cond_true, i0, Option.bind_some, g1, decide_eq_false (by omega), cond_false, w1, jE, c1, cond_true, i1, Option.bind_some, g2, decide_eq_false (by omega), cond_false, w2, jE, c2, cond_false]
 unfold rG
 rw [hgrow, Option.bind_some, hB, hL, e1, nI (by simp; omega), Option.bind_some, List.nil_append, nI (by omega), Option.bind_some]
end Go.Am
end
section
namespace Go.Am
abbrev zP : aA := aA.mk false false 0 0 false false false false
def pl (l : aO) (n : Int) : aA := aH n zP l.players
structure WF (l : aO) : Prop where
 fd : pI l.Field = true
 keys : (l.players.map Prod.fst).Nodup
 cnt : l.players.length ≤ 60
 ent : 0 ≤ l.entered ∧ l.entered ≤ 60
 mr : 0 ≤ l.more ∧ l.more ≤ 60
 turn : ∀ n, (pl l n).entered = true → 1 ≤ (pl l n).turn ∧ (pl l n).turn ≤ l.entered ∧ 0 ≤ (pl l n).rank ∧ (pl l n).rank ≤ 9999
 inj : ∀ n m, (pl l n).entered = true → (pl l m).entered = true → (pl l n).turn = (pl l m).turn → n = m
theorem aHi {α β : Type} [DecidableEq α] {n : α} {z : β} : ∀ {m : List (α × β)}, n ∉ m.map Prod.fst → aH n z m = z
 | [], _ => rfl
 | (b, v) :: m, h => by
  simp only [List.map_cons, List.mem_cons, not_or] at h
  simp only [aH, h.1, decide_false, cond_false]
  exact aHi h.2
theorem aIl {l : aO} {n : Int} (h : (pl l n).entered = true) : n ∈ l.players.map Prod.fst := by
 refine Classical.byContradiction fun hn => ?_
 unfold pl at h
 rw [aHi hn] at h
 cases h
theorem aLh (l : aO) (n : Int) : isE l.players n = ((pl l n).entered && !(pl l n).quit && !(pl l n).had) := rfl
def lK (l : aO) (n : Int) : Int := (if (pl l n).rank = 0 then 10000 else (pl l n).rank) * 100 + (pl l n).turn
theorem or3 (a b c : Int) : lD [a, b, c] = some (if a ≠ 0 then a else if b ≠ 0 then b else c) := by
 obtain ⟨k, hk⟩ : ∃ k, BIG = k + 1 + 1 + 1 + 1 := ⟨BIG - 4, by unfold BIG; omega⟩
 unfold lD
 rw [show ((([a, b, c] : List Int).length : Nat) : Int) = 3 from rfl, hk]
 simp only [lE, rK, show decide ((0 : Int) < 3) = true from rfl, cond_true, show idx [a, b, c] 0 = some a from rfl, Option.bind_some, show w64 (0 + 1) = 1 from rfl, show decide ((1 : Int) < 3) = true from rfl, show idx [a, b, c] 1 = some b from rfl, show w64 (1 + 1) = 2 from rfl, show decide ((2 : Int) < 3) = true from rfl, show idx [a, b, c] 2 = some c from rfl, show w64 (2 + 1) = 3 from rfl, show decide ((3 : Int) < 3) = false from rfl, cond_false]
 by_cases h : a = 0
 ·subst h
  by_cases h2 : b = 0
  ·subst h2
   by_cases h3 : c = 0
   ·subst h3; simp
   ·simp [h3]
  ·simp [h2]
 ·simp [h]
theorem aUe (p : aA) : jL p = some (if p.rank = 0 then 1 else 0) := by
 unfold jL
 by_cases h : p.rank = 0 <;> simp [h]
theorem aVb {l : aO} (h : WF l) {a b : Int} (ha : (pl l a).entered = true) (hb : (pl l b).entered = true) : ∃ r, eY a b l = some r ∧ (r < 0 ↔ lK l a < lK l b) := by
 obtain ⟨a1, a2, a3, a4⟩ := h.turn a ha
 obtain ⟨b1, b2, b3, b4⟩ := h.turn b hb
 have he := h.ent.2
 unfold eY
 rw [show (aH a (aA.mk false false 0 0 false false false false) l.players) = pl l a from rfl, show (aH b (aA.mk false false 0 0 false false false false) l.players) = pl l b from rfl]
 simp only [aUe, Option.bind_some]
 rw [cF (by split <;> split <;> omega) (by split <;> split <;> omega), cF (by omega) (by omega), cF (by omega) (by omega), or3]
 refine ⟨_, rfl, ?_⟩
 unfold lK
 by_cases h1 : (pl l a).rank = 0 <;> by_cases h2 : (pl l b).rank = 0 <;> simp only [h1, h2, if_true, if_false] <;> (repeat' split) <;> constructor <;> intro h3 <;> omega
theorem ltE {l : aO} (h : WF l) {a b : Int} (ha : (pl l a).entered = true) (hb : (pl l b).entered = true) : ltO (fun a b => eY a b l) a b = decide (lK l a < lK l b) := by
 obtain ⟨r, h1, h2⟩ := aVb h ha hb
 unfold ltO
 simp only [h1]
 rw [Bool.eq_iff_iff]
 simpa using h2
theorem aGb {l : aO} (h : WF l) {a b : Int} (ha : (pl l a).entered = true) (hb : (pl l b).entered = true) (he : lK l a = lK l b) : a = b := by
 obtain ⟨a1, a2, a3, a4⟩ := h.turn a ha
 obtain ⟨b1, b2, b3, b4⟩ := h.turn b hb
 have he2 := h.ent.2
 refine h.inj a b ha hb ?_
 unfold lK at he
 split at he <;> split at he <;> omega
def tE (l : aO) : List Int := (l.players.filter fun p => isE l.players p.1).map Prod.fst
def gJ (l : aO) : List Int := eP (fun a b => eY a b l) (tE l)
theorem aCf {l : aO} {n : Int} : n ∈ tE l ↔ isE l.players n = true := by
 unfold tE
 constructor
 ·intro h
  obtain ⟨p, hp, rfl⟩ := List.mem_map.1 h
  exact (List.mem_filter.1 hp).2
 ·intro h
  have he : (pl l n).entered = true := by
   rw [aLh] at h
   simp only [Bool.and_eq_true] at h
   exact h.1.1
  obtain ⟨p, hp, rfl⟩ := List.mem_map.1 (aIl he)
  exact List.mem_map.2 ⟨p, List.mem_filter.2 ⟨hp, h⟩, rfl⟩
theorem zF {l : aO} {n : Int} (h : n ∈ tE l) : (pl l n).entered = true := by
 have := aCf.1 h
 rw [aLh] at this
 simp only [Bool.and_eq_true] at this
 exact this.1.1
theorem aOf {l : aO} (h : WF l) : tY (tE l) (fun a b => eY a b l) = true := by
 unfold tY
 simp only [List.all_eq_true, Bool.and_eq_true, Bool.or_eq_true, Bool.not_eq_true', decide_eq_true_eq]
 intro x hx
 have ex := zF hx
 refine ⟨by rw [ltE h ex ex]; simp, fun y hy => ?_⟩
 have ey := zF hy
 refine ⟨⟨?_, ?_⟩, fun z hz => ?_⟩
 ·obtain ⟨r, h1, _⟩ := aVb h ex ey
  simp [h1]
 ·rw [ltE h ex ey, ltE h ey ex]
  simp only [decide_eq_true_eq]
  rcases Int.lt_trichotomy (lK l x) (lK l y) with h1 | h1 | h1
  ·exact .inl (.inr h1)
  ·exact .inl (.inl (aGb h ex ey h1))
  ·exact .inr h1
 ·have ez := zF hz
  rw [ltE h ex ey, ltE h ey ez, ltE h ex ez]
  simp only [Bool.and_eq_false_iff, decide_eq_false_iff_not, decide_eq_true_eq]
  omega
theorem xV {l : aO} (h : WF l) : gG l = some (gJ l) := by
 have e1 : (fun p : Int × aA => (iA l.players p.1).getD false) = fun p => isE l.players p.1 := by
  funext p
  rw [xW]; rfl
 have hc := h.cnt
 have hl : (tE l).length ≤ 60 := by
  unfold tE
  rw [List.length_map]
  exact Nat.le_trans (List.length_filter_le _ _) hc
 unfold gG
 rw [if_pos (by omega), e1]
 unfold uA
 rw [if_pos ⟨aOf h, by show (tE l).length < _; omega⟩]
 rfl
theorem aFs {l : aO} {n : Int} : n ∈ gJ l ↔ isE l.players n = true := by
 unfold gJ
 rw [(lB _ _).mem_iff]
 exact aCf
theorem uC {l : aO} (h : WF l) : (gJ l).length ≤ 60 := by
 unfold gJ
 rw [(lB _ _).length_eq]
 unfold tE
 rw [List.length_map]
 exact Nat.le_trans (List.length_filter_le _ _) h.cnt
theorem aKv {l : aO} {n : Int} (h : n ∈ gJ l) : (pl l n).entered = true := zF (aCf.2 (aFs.1 h))
theorem aEw {l : aO} (h : WF l) : (gJ l).Pairwise fun a b => lK l a < lK l b := by
 have hs := tZ (aOf h)
 have hn : (gJ l).Nodup := by
  refine (lB _ _).nodup_iff.2 ?_
  unfold tE
  refine List.Nodup.sublist ?_ h.keys
  exact (List.filter_sublist).map _
 refine List.Pairwise.imp_of_mem (fun {a b} ha hb hab => ?_) (hs.and hn)
 have ea := aKv (l := l) ha
 have eb := aKv (l := l) hb
 rw [ltE h eb ea] at hab
 have h1 := hab.1
 simp at h1
 rcases Int.lt_or_eq_of_le h1 with h2 | h2
 ·exact h2
 ·exact absurd (aGb h ea eb h2) hab.2
def gd (l : aO) (xs : List Int) : Nat := (xs.filter fun n => (pl l n).guard).length
theorem aJm (l : aO) (xs : List Int) (hb : xs.length ≤ 1000) : mK l xs = some ((gd l xs : Nat) : Int) := by
 have key := rR (S := Int) (fun k i s => hZ l xs (xs.length : Int) k s i) xs.length (fun i s => some (s + ((gd l (xs.drop i) : Nat) : Int))) (fun i s => 0 ≤ s ∧ s ≤ i) (fun k i s hi hI ih => ?_) (fun k s hI => ?_) BIG 0 (cR (by omega)) ⟨Int.le_refl _, Int.le_refl _⟩
 ·unfold mK
  rw [key]
  simp
 ·have hlt : decide ((i : Int) < (xs.length : Int)) = true := decide_eq_true (by omega)
  simp only [hZ, hlt, cond_true, cT hi, Option.bind_some, cA (show i < 9223372036854775807 by omega)]
  rw [show (aH xs[i] (aA.mk false false 0 0 false false false false) l.players) = pl l xs[i] from rfl]
  have hd : gd l (xs.drop i) = (if (pl l xs[i]).guard then 1 else 0) + gd l (xs.drop (i + 1)) := by
   unfold gd
   rw [List.drop_eq_getElem_cons hi, List.filter_cons]
   split <;> simp <;> omega
  rw [hd]
  cases (pl l xs[i]).guard with
  | true =>
   simp only [cond_true, if_true]
   rw [cF (by omega) (by omega), ih _ ⟨by omega, by omega⟩]
   congr 1
   omega
  | false =>
   simp only [cond_false, Bool.false_eq_true, if_false]
   rw [ih _ ⟨by omega, by omega⟩]
   congr 1
   omega
 ·simp [hZ, rA, gd]
def plc (l : aO) : Int := l.Field.Places + l.more
theorem zU {l : aO} (h : WF l) : iO l = some (plc l) := by
 have hf := h.fd
 unfold pI at hf
 simp only [Bool.and_eq_true, tS] at hf
 have hm := h.mr
 unfold iO plc
 rw [cF (by omega) (by omega)]
def zA (l : aO) (acc : List Int) : List Int → List Int
 | [] => acc
 | n :: t => zA l (bif decide ((acc.length : Int) < plc l) && (!(pl l n).guard || decide (((gd l acc : Nat) : Int) < l.Field.Guards)) then acc ++ [n] else acc) t
theorem aGc (l : aO) : ∀ (t acc : List Int), (zA l acc t).length ≤ acc.length + t.length
 | [], acc => by simp [zA]
 | n :: t, acc => by
  refine Nat.le_trans (aGc l t _) ?_
  cases decide ((acc.length : Int) < plc l) && (!(pl l n).guard || decide (((gd l acc : Nat) : Int) < l.Field.Guards)) <;> simp <;> omega
def qP (l : aO) : List Int := zA l [] (gJ l)
theorem aJo {l : aO} (h : WF l) : mL l = some (qP l) := by
 have hl := uC h
 unfold mL qP
 rw [xV h]
 simp only [Option.bind_some]
 have key := rR (iB l (gJ l) ((gJ l).length : Int)) (gJ l).length (fun i acc => some (zA l acc ((gJ l).drop i))) (fun i acc => acc.length ≤ i) (fun k i acc hi hI ih => ?_) (fun k acc hI => ?_) BIG [] (cR (by omega)) (Nat.le_refl _)
 ·rw [key]; simp
 ·have hlt : decide ((i : Int) < ((gJ l).length : Int)) = true := decide_eq_true (by omega)
  simp only [iB, hlt, cond_true, cT hi, Option.bind_some, zU h, cA (show i < 9223372036854775807 by omega)]
  rw [show (aH (gJ l)[i] (aA.mk false false 0 0 false false false false) l.players) = pl l (gJ l)[i] from rfl, aJm l acc (by omega)]
  simp only [Option.bind_some, hG, jQ]
  rw [List.drop_eq_getElem_cons hi, zA]
  cases hc : decide ((acc.length : Int) < plc l) && (!(pl l (gJ l)[i]).guard || decide (((gd l acc : Nat) : Int) < l.Field.Guards)) with
  | true =>
   simp only [cond_true]
   rw [nI (by simp; omega), Option.bind_some, ih _ (by simp; omega)]
  | false =>
   simp only [cond_false]
   rw [ih _ (by omega)]
 ·simp [iB, rB, zA]
def lF (l : aO) : List Int := bif l.frozen then l.first ++ l.late else qP l
theorem aIn {l : aO} (h : WF l) (hf : l.first.length ≤ 1000) (hl : l.late.length ≤ 1000) : fH l = some (lF l) := by
 unfold fH lF
 cases l.frozen with
 | true =>
  simp only [Bool.not_true, cond_false, cond_true]
  rw [aQc _ _ (by omega) (by omega)]; rfl
 | false =>
  simp only [Bool.not_false, cond_true, cond_false]
  rw [aJo h]; rfl
def oQ (l : aO) : aO := bif l.frozen then l else { l with frozen := true, first := qP l }
theorem aJl {l : aO} (h : WF l) : mJ l = some (oQ l) := by
 unfold mJ oQ
 cases hz : l.frozen with
 | true => simp
 | false =>
  simp only [Bool.not_false, cond_true, cond_false]
  rw [aJo h]; rfl
end Go.Am
end
section
namespace Go.Am
theorem aMa (l : aO) (n : Int) : aH n (aA.mk false false 0 0 false false false false) l.players = pl l n := rfl
def iZ (l : aO) (x : aN) : aO :=
 let p := pl l x.Player
 bif decide (x.Kind = 1) || decide (x.Kind = 2) then
  bif decide (x.Hour ≤ l.Field.Close) && !p.entered then
   aO.mk l.Field (dS x.Player (aA.mk true (decide (x.Kind = 2)) x.Rank (l.entered + 1) p.quit p.signed p.wild p.had) l.players) l.wilds l.frozen l.first l.late l.more (l.entered + 1)
  else aO.mk l.Field (dS x.Player p l.players) l.wilds l.frozen l.first l.late l.more l.entered
 else bif decide (x.Kind = 3) then
  bif ((decide (x.Hour ≤ l.Field.Freeze) && !p.wild) && !p.quit) && decide ((l.wilds.length : Int) < l.Field.Wilds) then
   aO.mk l.Field (dS x.Player (aA.mk p.entered p.guard p.rank p.turn p.quit p.signed true true) l.players) (l.wilds ++ [x.Player]) l.frozen l.first l.late l.more l.entered
  else aO.mk l.Field (dS x.Player p l.players) l.wilds l.frozen l.first l.late l.more l.entered
 else bif decide (x.Kind = 4) then
  aO.mk l.Field (dS x.Player (aA.mk p.entered p.guard p.rank p.turn true p.signed false p.had) l.players) (l.wilds.filter fun m => !decide (m = x.Player)) l.frozen l.first l.late
   (bif p.wild && decide (l.Field.Freeze < x.Hour) then l.more + 1 else l.more) l.entered
 else bif decide (x.Kind = 5) then
  aO.mk l.Field (dS x.Player (aA.mk p.entered p.guard p.rank p.turn p.quit true p.wild p.had) l.players) l.wilds l.frozen l.first l.late l.more l.entered
 else aO.mk l.Field (dS x.Player p l.players) l.wilds l.frozen l.first l.late l.more l.entered
theorem aUs (l : aO) (x : aN) (he : 0 ≤ l.entered ∧ l.entered ≤ 60) (hm : 0 ≤ l.more ∧ l.more ≤ 60) (hw : l.wilds.length ≤ 1000) : lX l x = some (iZ l x) := by
 have hd : dE l.wilds (fun y => fV y x) = some (l.wilds.filter fun m => !decide (m = x.Player)) := aGq l.wilds _ (fun m => decide (m = x.Player)) (fun m _ => rfl) (by omega)
 have ha : app 8 l.wilds [x.Player] = some (l.wilds ++ [x.Player]) := nI (by simp; omega)
 have w1 : w64 (l.entered + 1) = l.entered + 1 := cF (by omega) (by omega)
 have w2 : w64 (l.more + 1) = l.more + 1 := cF (by omega) (by omega)
 unfold lX iZ
 simp only [aMa, jQ, Option.bind_some, hd, ha, w1, w2]
 by_cases h1 : x.Kind = 1
 ·simp only [h1, decide_true, cond_true, Bool.true_or]
  cases decide (x.Hour ≤ l.Field.Close) && !(pl l x.Player).entered <;> rfl
 ·by_cases h2 : x.Kind = 2
  ·simp only [h2, decide_true, cond_true, Bool.or_true, show decide ((2 : Int) = 1) = false from rfl, cond_false]
   cases decide (x.Hour ≤ l.Field.Close) && !(pl l x.Player).entered <;> rfl
  ·have e1 : decide (x.Kind = 1) = false := decide_eq_false h1
   have e2 : decide (x.Kind = 2) = false := decide_eq_false h2
   simp only [e1, e2, cond_false, Bool.or_self]
   cases decide (x.Kind = 3) with
   | true =>
    simp only [cond_true]
    cases ((decide (x.Hour ≤ l.Field.Freeze) && !(pl l x.Player).wild) && !(pl l x.Player).quit) && decide ((l.wilds.length : Int) < l.Field.Wilds) <;> rfl
   | false =>
    simp only [cond_false]
    cases decide (x.Kind = 4) with
    | true =>
     simp only [cond_true]
     cases (pl l x.Player).wild && decide (l.Field.Freeze < x.Hour) <;> rfl
    | false =>
     simp only [cond_false]
     cases decide (x.Kind = 5) <;> rfl
theorem aDs {α β : Type} [DecidableEq α] (a : α) (v : β) : ∀ m : List (α × β), (dS a v m).map Prod.fst = if a ∈ m.map Prod.fst then m.map Prod.fst else m.map Prod.fst ++ [a]
 | [] => rfl
 | (b, u) :: m => by
  simp only [dS]
  by_cases h : a = b
  ·subst h; simp
  ·simp only [h, decide_false, cond_false, List.map_cons, aDs a v m, List.mem_cons, false_or]
   split <;> simp
theorem aPf {α β : Type} [DecidableEq α] {a : α} {v : β} {m : List (α × β)} (h : (m.map Prod.fst).Nodup) : ((dS a v m).map Prod.fst).Nodup := by
 rw [aDs]
 split
 ·exact h
 ·rename_i hn
  rw [List.nodup_append]
  exact ⟨h, by simp, fun x hx y hy => by simp at hy; subst hy; exact fun e => hn (e ▸ hx)⟩
theorem aSi {α β : Type} [DecidableEq α] (a : α) (v : β) (m : List (α × β)) : (dS a v m).length ≤ m.length + 1 := by
 have := congrArg List.length (aDs a v m)
 rw [List.length_map] at this
 rw [this]
 split <;> simp
structure Cn (l : aO) (i : Nat) : Prop where
 pls : l.players.length ≤ i
 ent : l.entered ≤ i
 mr : l.more ≤ i
 wl : l.wilds.length ≤ i
def upP (l : aO) (x : aN) : aA :=
 let p := pl l x.Player
 bif decide (x.Kind = 1) || decide (x.Kind = 2) then
  bif decide (x.Hour ≤ l.Field.Close) && !p.entered then aA.mk true (decide (x.Kind = 2)) x.Rank (l.entered + 1) p.quit p.signed p.wild p.had else p
 else bif decide (x.Kind = 3) then
  bif ((decide (x.Hour ≤ l.Field.Freeze) && !p.wild) && !p.quit) && decide ((l.wilds.length : Int) < l.Field.Wilds) then aA.mk p.entered p.guard p.rank p.turn p.quit p.signed true true else p
 else bif decide (x.Kind = 4) then aA.mk p.entered p.guard p.rank p.turn true p.signed false p.had
 else bif decide (x.Kind = 5) then aA.mk p.entered p.guard p.rank p.turn p.quit true p.wild p.had
 else p
theorem zJ (l : aO) (x : aN) : (iZ l x).players = dS x.Player (upP l x) l.players := by
 unfold iZ upP
 cases decide (x.Kind = 1) || decide (x.Kind = 2) with
 | true => simp only [cond_true]; cases decide (x.Hour ≤ l.Field.Close) && !(pl l x.Player).entered <;> rfl
 | false =>
  simp only [cond_false]
  cases decide (x.Kind = 3) with
  | true => simp only [cond_true]; cases ((decide (x.Hour ≤ l.Field.Freeze) && !(pl l x.Player).wild) && !(pl l x.Player).quit) && decide ((l.wilds.length : Int) < l.Field.Wilds) <;> rfl
  | false =>
   simp only [cond_false]
   cases decide (x.Kind = 4) with
   | true => rfl
   | false => simp only [cond_false]; cases decide (x.Kind = 5) <;> rfl
theorem aEo (l : aO) (x : aN) (n : Int) : pl (iZ l x) n = bif decide (n = x.Player) then upP l x else pl l n := by
 unfold pl
 rw [zJ, zR]
theorem aIa (l : aO) (x : aN) : (iZ l x).Field = l.Field ∧ (iZ l x).frozen = l.frozen ∧ (iZ l x).first = l.first ∧ (iZ l x).late = l.late := by
 unfold iZ
 cases decide (x.Kind = 1) || decide (x.Kind = 2) with
 | true => simp only [cond_true]; cases decide (x.Hour ≤ l.Field.Close) && !(pl l x.Player).entered <;> exact ⟨rfl, rfl, rfl, rfl⟩
 | false =>
  simp only [cond_false]
  cases decide (x.Kind = 3) with
  | true => simp only [cond_true]; cases ((decide (x.Hour ≤ l.Field.Freeze) && !(pl l x.Player).wild) && !(pl l x.Player).quit) && decide ((l.wilds.length : Int) < l.Field.Wilds) <;> exact ⟨rfl, rfl, rfl, rfl⟩
  | false =>
   simp only [cond_false]
   cases decide (x.Kind = 4) with
   | true => exact ⟨rfl, rfl, rfl, rfl⟩
   | false => simp only [cond_false]; cases decide (x.Kind = 5) <;> exact ⟨rfl, rfl, rfl, rfl⟩
def tJ (l : aO) (x : aN) : Bool := (decide (x.Kind = 1) || decide (x.Kind = 2)) && (decide (x.Hour ≤ l.Field.Close) && !(pl l x.Player).entered)
theorem aMn (l : aO) (x : aN) : (iZ l x).entered = (bif tJ l x then l.entered + 1 else l.entered) ∧
  (tJ l x = true → (upP l x).entered = true ∧ (upP l x).turn = l.entered + 1 ∧ (upP l x).rank = x.Rank ∧ (pl l x.Player).entered = false) ∧
  (tJ l x = false → (upP l x).entered = (pl l x.Player).entered ∧ (upP l x).turn = (pl l x.Player).turn ∧ (upP l x).rank = (pl l x.Player).rank) := by
 unfold iZ upP tJ
 cases decide (x.Kind = 1) || decide (x.Kind = 2) with
 | true =>
  simp only [cond_true, Bool.true_and]
  cases h : decide (x.Hour ≤ l.Field.Close) && !(pl l x.Player).entered with
  | true =>
   simp only [Bool.and_eq_true, Bool.not_eq_true'] at h
   exact ⟨rfl, fun _ => ⟨rfl, rfl, rfl, h.2⟩, fun h => by cases h⟩
  | false => exact ⟨rfl, (fun h => by cases h), fun _ => ⟨rfl, rfl, rfl⟩⟩
 | false =>
  simp only [cond_false, Bool.false_and]
  cases decide (x.Kind = 3) with
  | true => simp only [cond_true]; cases ((decide (x.Hour ≤ l.Field.Freeze) && !(pl l x.Player).wild) && !(pl l x.Player).quit) && decide ((l.wilds.length : Int) < l.Field.Wilds) <;> exact ⟨rfl, (fun h => by cases h), fun _ => ⟨rfl, rfl, rfl⟩⟩
  | false =>
   simp only [cond_false]
   cases decide (x.Kind = 4) with
   | true => exact ⟨rfl, (fun h => by cases h), fun _ => ⟨rfl, rfl, rfl⟩⟩
   | false => simp only [cond_false]; cases decide (x.Kind = 5) <;> exact ⟨rfl, (fun h => by cases h), fun _ => ⟨rfl, rfl, rfl⟩⟩
theorem aRf (l : aO) (x : aN) : (l.more ≤ (iZ l x).more ∧ (iZ l x).more ≤ l.more + 1) ∧ (iZ l x).wilds.length ≤ l.wilds.length + 1 := by
 have hf : (l.wilds.filter fun m => !decide (m = x.Player)).length ≤ l.wilds.length := List.length_filter_le _ _
 unfold iZ
 cases decide (x.Kind = 1) || decide (x.Kind = 2) with
 | true => simp only [cond_true]; cases decide (x.Hour ≤ l.Field.Close) && !(pl l x.Player).entered <;> simp <;> omega
 | false =>
  simp only [cond_false]
  cases decide (x.Kind = 3) with
  | true => simp only [cond_true]; cases ((decide (x.Hour ≤ l.Field.Freeze) && !(pl l x.Player).wild) && !(pl l x.Player).quit) && decide ((l.wilds.length : Int) < l.Field.Wilds) <;> simp <;> omega
  | false =>
   simp only [cond_false]
   cases decide (x.Kind = 4) with
   | true => simp only [cond_true]; cases (pl l x.Player).wild && decide (l.Field.Freeze < x.Hour) <;> simp only [cond_true, cond_false] <;> omega
   | false => simp only [cond_false]; cases decide (x.Kind = 5) <;> simp <;> omega
theorem aUt {l : aO} {x : aN} {i : Nat} (h : WF l) (hc : Cn l i) (hi : i < 60) (hx : pC x = true) : WF (iZ l x) ∧ Cn (iZ l x) (i + 1) := by
 obtain ⟨hF, _, _, _⟩ := aIa l x
 obtain ⟨t1, t2, t3⟩ := aMn l x
 obtain ⟨m1, m2⟩ := aRf l x
 have hent := h.ent
 have hmr := h.mr
 obtain ⟨c1, c2, c3, c4⟩ := hc
 have hpl : (iZ l x).players.length ≤ i + 1 := by rw [zJ]; have := aSi x.Player (upP l x) l.players; omega
 have hE : 0 ≤ (iZ l x).entered ∧ (iZ l x).entered ≤ (i : Int) + 1 ∧ l.entered ≤ (iZ l x).entered := by rw [t1]; cases tJ l x <;> simp only [cond_true, cond_false] <;> omega
 have hrank : tJ l x = true → 0 ≤ x.Rank ∧ x.Rank ≤ 9999 := fun he => by
  unfold tJ at he
  simp only [Bool.and_eq_true, Bool.or_eq_true, decide_eq_true_eq] at he
  unfold pC at hx
  simp only [Bool.and_eq_true] at hx
  rcases he.1 with h1 | h1
  ·have := hx.2
   rw [h1] at this
   simpa [wi] using this
  ·have := hx.2
   rw [h1] at this
   simp only [show decide ((2 : Int) = 1) = false from rfl, cond_false, decide_true, cond_true, tS] at this
   omega
 refine ⟨⟨by rw [hF]; exact h.fd, by rw [zJ]; exact aPf h.keys, by omega, ⟨hE.1, by omega⟩, ⟨by omega, by omega⟩, fun n hn => ?_, fun n m hn hm he => ?_⟩, ⟨hpl, by omega, by omega, by omega⟩⟩
 ·rw [aEo] at hn ⊢
  by_cases hnx : n = x.Player
  ·subst hnx
   simp only [decide_true, cond_true] at hn ⊢
   cases he : tJ l x with
   | true =>
    obtain ⟨_, e2, e3, _⟩ := t2 he
    have := hrank he
    rw [t1, he, e2, e3]
    simp only [cond_true]
    omega
   | false =>
    obtain ⟨e1, e2, e3⟩ := t3 he
    rw [e1] at hn
    have := h.turn _ hn
    rw [e2, e3]
    omega
  ·simp only [hnx, decide_false, cond_false] at hn ⊢
   have := h.turn _ hn
   omega
 ·rw [aEo] at hn hm
  rw [aEo, aEo] at he
  by_cases hnx : n = x.Player <;> by_cases hmx : m = x.Player
  ·rw [hnx, hmx]
  ·subst hnx
   simp only [decide_true, cond_true, hmx, decide_false, cond_false] at hn hm he
   cases hen : tJ l x with
   | true =>
    have := h.turn _ hm
    have := (t2 hen).2.1
    omega
   | false =>
    obtain ⟨e1, e2, _⟩ := t3 hen
    rw [e1] at hn
    rw [e2] at he
    exact h.inj _ _ hn hm he
  ·subst hmx
   simp only [decide_true, cond_true, hnx, decide_false, cond_false] at hn hm he
   cases hen : tJ l x with
   | true =>
    have := h.turn _ hn
    have := (t2 hen).2.1
    omega
   | false =>
    obtain ⟨e1, e2, _⟩ := t3 hen
    rw [e1] at hm
    rw [e2] at he
    exact h.inj _ _ hn hm he
  ·simp only [hnx, hmx, decide_false, cond_false] at hn hm he
   exact h.inj _ _ hn hm he
end Go.Am
end
section
namespace Go.Am
def wl (l : aO) (a b : List Int) : aO := aO.mk l.Field l.players l.wilds l.frozen a b l.more l.entered
theorem aEr {l : aO} (h : WF l) (a b : List Int) : WF (wl l a b) := ⟨h.fd, h.keys, h.cnt, h.ent, h.mr, h.turn, h.inj⟩
def tM (l : aO) (inn : List Int) (n : Int) : Bool := ((pl l n).signed && !decide (n ∈ inn)) && (!(pl l n).guard || decide (((gd l inn : Nat) : Int) < l.Field.Guards))
theorem aRx (l : aO) (inn : List Int) (n : Int) (hb : inn.length ≤ 1000) : mI n l inn = some (tM l inn n) := by
 unfold mI tM
 rw [aMa, aJm l inn hb, uM inn (by omega) n]
 simp only [Option.bind_some, jQ, hG]
theorem aLa (l : aO) (n : Int) : gR n l.players = some (!isE l.players n) := by
 unfold gR
 rw [xW]; rfl
def tT (l : aO) (first : List Int) : Nat → List Int → List Int
 | 0, late => late
 | k + 1, late => bif decide (((first ++ late).length : Int) < plc l) then (match (gJ l).find? (tM l (first ++ late)) with
  | none => late
  | some n => tT l first k (late ++ [n])) else late
theorem aHo {l : aO} (h : WF l) : 1 ≤ plc l ∧ plc l ≤ 92 := by
 have hf := h.fd
 unfold pI at hf
 simp only [Bool.and_eq_true, tS] at hf
 have hm := h.mr
 unfold plc
 omega
theorem aOx {α : Type} (p : α → Bool) (xs : List α) (hb : xs.length ≤ 1000) : (match xs.find? p with
  | none => findI p xs = -1
  | some n => 0 ≤ findI p xs ∧ idx xs (findI p xs) = some n) := by
 cases hf : xs.find? p with
 | none =>
  simp only
  unfold findI
  rw [if_neg]
  intro hl
  have h1 := List.findIdx_getElem (p := p) (w := hl)
  exact (List.find?_eq_none.1 hf) _ (List.getElem_mem hl) h1
 | some n =>
  simp only
  have hl : xs.findIdx p < xs.length := List.findIdx_lt_length_of_exists ⟨n, List.mem_of_find?_eq_some hf, List.find?_some hf⟩
  unfold findI
  rw [if_pos hl]
  refine ⟨by omega, ?_⟩
  rw [cT hl]
  rw [List.find?_eq_getElem?_findIdx, List.getElem?_eq_getElem hl] at hf
  exact hf
theorem aUb {l : aO} (h : WF l) (hfz : l.frozen = true) (first : List Int) : ∀ (d : Nat) (late : List Int) (k K : Nat), (plc l - ((first ++ late).length : Int)).toNat ≤ d → d < K → d ≤ k → (first ++ late).length ≤ 500 →
  kB l.players l.wilds first K late l.Field l.frozen l.more l.entered (first ++ late) = some (wl l first (tT l first k late)) := by
 intro d
 induction d with
 | zero =>
  intro late k K hd hK hk hb
  obtain ⟨K, rfl⟩ : ∃ q, K = q + 1 := ⟨K - 1, by omega⟩
  have hlt : decide (((first ++ late).length : Int) < plc l) = false := decide_eq_false (by omega)
  have hp : iO (aO.mk l.Field l.players l.wilds l.frozen first late l.more l.entered) = some (plc l) := zU (aEr h first late)
  have hg : tT l first k late = late := by
   cases k with
   | zero => rfl
   | succ k => simp only [tT, hlt, cond_false]
  simp only [kB, hp, Option.bind_some, hlt, cond_false, pP, hg]
  rfl
 | succ d ih =>
  intro late k K hd hK hk hb
  obtain ⟨K, rfl⟩ : ∃ q, K = q + 1 := ⟨K - 1, by omega⟩
  obtain ⟨k, rfl⟩ : ∃ q, k = q + 1 := ⟨k - 1, by omega⟩
  have hp : iO (aO.mk l.Field l.players l.wilds l.frozen first late l.more l.entered) = some (plc l) := zU (aEr h first late)
  have hen : gG (aO.mk l.Field l.players l.wilds l.frozen first late l.more l.entered) = some (gJ l) := xV (aEr h first late)
  have hix : jF (gJ l) (fun y => mI y (aO.mk l.Field l.players l.wilds l.frozen first late l.more l.entered) (first ++ late)) = some (findI (tM l (first ++ late)) (gJ l)) :=
   aLg (gJ l) _ (tM l (first ++ late)) (fun n _ => aRx (wl l first late) (first ++ late) n (by omega)) (by have := uC h; omega)
  have hfi := aOx (tM l (first ++ late)) (gJ l) (by have := uC h; omega)
  simp only [kB, hp, Option.bind_some, tT]
  cases hlt : decide (((first ++ late).length : Int) < plc l) with
  | false =>
   simp only [cond_false, pP]
   rfl
  | true =>
   simp only [cond_true, hen, Option.bind_some, hix]
   have hlt' : ((first ++ late).length : Int) < plc l := by simpa using hlt
   have hp92 := aHo h
   cases hf : (gJ l).find? (tM l (first ++ late)) with
   | none =>
    rw [hf] at hfi
    simp only at hfi
    rw [hfi]
    rfl
   | some n =>
    rw [hf] at hfi
    simp only at hfi
    rw [decide_eq_false (by omega), cond_false, hfi.2]
    simp only [Option.bind_some]
    have hbl : late.length ≤ 500 := by simp at hb; omega
    rw [nI (by simp; omega)]
    simp only [Option.bind_some]
    have hm : fH (aO.mk l.Field l.players l.wilds l.frozen first (late ++ [n]) l.more l.entered) = some (first ++ (late ++ [n])) := by
     have := aIn (aEr h first (late ++ [n])) (show first.length ≤ 1000 by simp at hb; omega) (show (late ++ [n]).length ≤ 1000 by simp; omega)
     rw [show (aO.mk l.Field l.players l.wilds l.frozen first (late ++ [n]) l.more l.entered) = wl l first (late ++ [n]) from rfl, this]
     unfold lF
     rw [show (wl l first (late ++ [n])).frozen = l.frozen from rfl, hfz]
     rfl
    rw [hm]
    simp only [Option.bind_some]
    refine ih (late ++ [n]) k K ?_ (by omega) (by omega) ?_
    ·simp only [List.length_append, List.length_cons, List.length_nil] at hd hlt' ⊢
     omega
    ·simp only [List.length_append, List.length_cons, List.length_nil] at hb hlt' ⊢
     omega
def aBt (l : aO) : aO := wl l (l.first.filter fun n => isE l.players n) (tT l (l.first.filter fun n => isE l.players n) 100 (l.late.filter fun n => isE l.players n))
theorem aUc {l : aO} (h : WF l) (hfz : l.frozen = true) (hb : (l.first ++ l.late).length ≤ 200) : lW l = some (aBt l) := by
 have hb' : l.first.length + l.late.length ≤ 200 := by simpa using hb
 have d1 : dE l.first (fun y => gR y l.players) = some (l.first.filter fun n => isE l.players n) := by
  rw [aGq l.first _ (fun n => !isE l.players n) (fun n _ => aLa l n) (by omega)]
  simp
 have d2 : dE l.late (fun y => gR y l.players) = some (l.late.filter fun n => isE l.players n) := by
  rw [aGq l.late _ (fun n => !isE l.players n) (fun n _ => aLa l n) (by omega)]
  simp
 have f1 : (l.first.filter fun n => isE l.players n).length ≤ l.first.length := List.length_filter_le _ _
 have f2 : (l.late.filter fun n => isE l.players n).length ≤ l.late.length := List.length_filter_le _ _
 have hm := aIn (aEr h (l.first.filter fun n => isE l.players n) (l.late.filter fun n => isE l.players n)) (show (l.first.filter fun n => isE l.players n).length ≤ 1000 by omega) (show (l.late.filter fun n => isE l.players n).length ≤ 1000 by omega)
 unfold lW aBt
 rw [d1, Option.bind_some, d2, Option.bind_some]
 rw [show (aO.mk l.Field l.players l.wilds l.frozen (l.first.filter fun n => isE l.players n) (l.late.filter fun n => isE l.players n) l.more l.entered) = wl l (l.first.filter fun n => isE l.players n) (l.late.filter fun n => isE l.players n) from rfl, hm, Option.bind_some]
 unfold lF
 rw [show (wl l (l.first.filter fun n => isE l.players n) (l.late.filter fun n => isE l.players n)).frozen = l.frozen from rfl]
 rw [show (bif l.frozen then (wl l (l.first.filter fun n => isE l.players n) (l.late.filter fun n => isE l.players n)).first ++ (wl l (l.first.filter fun n => isE l.players n) (l.late.filter fun n => isE l.players n)).late else qP (wl l (l.first.filter fun n => isE l.players n) (l.late.filter fun n => isE l.players n))) = (l.first.filter fun n => isE l.players n) ++ (l.late.filter fun n => isE l.players n) by rw [hfz]; rfl]
 have hp := aHo h
 exact aUb h hfz _ 100 _ 100 BIG (by omega) (cR (by omega)) (Nat.le_refl _) (by simp only [List.length_append]; omega)
theorem aJd {l : aO} (h : WF l) (first : List Int) : ∀ (k : Nat) (late : List Int), (first ++ tT l first k late).length ≤ max (first ++ late).length 92
 | 0, late => by simp only [tT]; omega
 | k + 1, late => by
  have hp := aHo h
  simp only [tT]
  cases hlt : decide (((first ++ late).length : Int) < plc l) with
  | false => simp only [cond_false]; omega
  | true =>
   simp only [cond_true]
   have hlt' : ((first ++ late).length : Int) < plc l := by simpa using hlt
   cases (gJ l).find? (tM l (first ++ late)) with
   | none => simp only; omega
   | some n =>
    simp only
    have := aJd h first k (late ++ [n])
    simp only [List.length_append, List.length_cons, List.length_nil] at this hlt' ⊢
    omega
def yC (l : aO) (x : aN) : aO :=
 let l2 := iZ (bif decide (l.Field.Freeze < x.Hour) then oQ l else l) x
 bif l2.frozen then aBt l2 else l2
structure oU (f : bE) (l : aO) (i : Nat) : Prop where
 wf : WF l
 cn : Cn l i
 fd : l.Field = f
 len : (l.first ++ l.late).length ≤ 92
 fz : l.frozen = false → l.first = [] ∧ l.late = []
theorem wL {f : bE} {l : aO} {i : Nat} (h : oU f l i) : oU f (oQ l) i := by
 unfold oQ
 cases hz : l.frozen with
 | true => exact h
 | false =>
  obtain ⟨_, hlate⟩ := h.fz hz
  simp only [cond_false]
  refine ⟨⟨h.wf.fd, h.wf.keys, h.wf.cnt, h.wf.ent, h.wf.mr, h.wf.turn, h.wf.inj⟩, ⟨h.cn.pls, h.cn.ent, h.cn.mr, h.cn.wl⟩, h.fd, ?_, fun h => by cases h⟩
  show (qP l ++ l.late).length ≤ 92
  have h1 := aGc l (gJ l) []
  have h2 := uC h.wf
  rw [hlate]
  simp only [List.append_nil]
  unfold qP
  simp only [List.length_nil] at h1
  omega
theorem aEg {f : bE} {l : aO} {x : aN} {i : Nat} (h : oU f l i) (hi : i < 60) (hx : pC x = true) : oU f (iZ l x) (i + 1) := by
 obtain ⟨h1, h2⟩ := aUt h.wf h.cn hi hx
 obtain ⟨g1, g2, g3, g4⟩ := aIa l x
 exact ⟨h1, h2, by rw [g1]; exact h.fd, by rw [g3, g4]; exact h.len, fun hz => by rw [g2] at hz; rw [g3, g4]; exact h.fz hz⟩
theorem aJe {f : bE} {l : aO} {i : Nat} (h : oU f l i) (hz : l.frozen = true) : oU f (aBt l) i := by
 have hl : l.first.length + l.late.length ≤ 92 := by have := h.len; simpa using this
 have f1 : (l.first.filter fun n => isE l.players n).length ≤ l.first.length := List.length_filter_le _ _
 have f2 : (l.late.filter fun n => isE l.players n).length ≤ l.late.length := List.length_filter_le _ _
 refine ⟨aEr h.wf _ _, ⟨h.cn.pls, h.cn.ent, h.cn.mr, h.cn.wl⟩, h.fd, ?_, fun hf => ?_⟩
 ·have := aJd h.wf (l.first.filter fun n => isE l.players n) 100 (l.late.filter fun n => isE l.players n)
  simp only [List.length_append] at this
  show ((l.first.filter fun n => isE l.players n) ++ tT l (l.first.filter fun n => isE l.players n) 100 (l.late.filter fun n => isE l.players n)).length ≤ 92
  simp only [List.length_append]
  omega
 ·have : l.frozen = false := hf
  rw [hz] at this; cases this
theorem aKa {f : bE} {l : aO} {x : aN} {i : Nat} (h : oU f l i) (hi : i < 60) (hx : pC x = true) : oU f (yC l x) (i + 1) := by
 unfold yC
 have h1 : oU f (bif decide (l.Field.Freeze < x.Hour) then oQ l else l) i := by
  cases decide (l.Field.Freeze < x.Hour) with
  | true => exact wL h
  | false => exact h
 have h2 := aEg h1 hi hx
 simp only
 cases hz : (iZ (bif decide (l.Field.Freeze < x.Hour) then oQ l else l) x).frozen with
 | true => exact aJe h2 hz
 | false => exact h2
def mR (f : bE) : aO := aO.mk f [] [] false [] [] 0 0
theorem zQ {f : bE} (hf : pI f = true) : oU f (mR f) 0 :=
 ⟨⟨hf, .nil, by simp [mR], ⟨Int.le_refl _, by simp [mR]⟩, ⟨Int.le_refl _, by simp [mR]⟩, fun n h => by simp [pl, mR, aH] at h, fun n m h => by simp [pl, mR, aH] at h⟩, ⟨by simp [mR], by simp [mR], by simp [mR], by simp [mR]⟩, rfl, by simp [mR], fun _ => ⟨rfl, rfl⟩⟩
def vB (hour : Int) (l : aO) : List aN → aO
 | [] => l
 | x :: t => bif decide (hour < x.Hour) then l else vB hour (yC l x) t
def aDg (hour : Int) (l : aO) : aO := bif decide (l.Field.Freeze < hour) then oQ l else l
theorem aGi {f : bE} (hour : Int) : ∀ (t : List aN) (l : aO) (i : Nat), oU f l i → i + t.length ≤ 60 → (∀ x ∈ t, pC x = true) → ∃ j, j ≤ 60 ∧ oU f (vB hour l t) j
 | [], l, i, h, hi, _ => ⟨i, by simpa using hi, h⟩
 | x :: t, l, i, h, hi, hx => by
  simp only [vB]
  cases decide (hour < x.Hour) with
  | true => exact ⟨i, by simp at hi; omega, h⟩
  | false =>
   simp only [List.length_cons] at hi
   exact aGi hour t _ (i + 1) (aKa h (by omega) (hx x (by simp))) (by omega) fun y hy => hx y (by simp [hy])
def cZ (f : bE) (l : List aN) (hour : Int) : aO := aDg hour (vB hour (mR f) (qU l))
theorem aRh {f : bE} (T : List aN) (hT : ∀ x ∈ T, pC x = true) (hl : T.length ≤ 60) (hour : Int) : ∀ (d i k : Nat) (l : aO), T.length - i = d → d < k → i ≤ T.length → oU f l i →
  gZ hour (T.length : Int) f T k (i : Int) l.players l.wilds l.first l.late l.Field l.frozen l.more l.entered = some (some (aDg hour (vB hour l (T.drop i)))) := by
 have hend : ∀ {l : aO} {i : Nat}, oU f l i → oP hour f l.players l.wilds l.first l.late l.Field l.frozen l.more l.entered = some (some (aDg hour l)) := by
  intro l i h
  unfold oP aDg
  rw [h.fd]
  cases decide (f.Freeze < hour) with
  | true =>
   simp only [cond_true]
   have := aJl h.wf
   rw [show (aO.mk f l.players l.wilds l.frozen l.first l.late l.more l.entered) = l by rw [← h.fd], this]
   rfl
  | false =>
   simp only [cond_false]
   rw [show (aO.mk f l.players l.wilds l.frozen l.first l.late l.more l.entered) = l by rw [← h.fd]]
 intro d
 induction d with
 | zero =>
  intro i k l hd hk hi h
  obtain ⟨k, rfl⟩ : ∃ q, k = q + 1 := ⟨k - 1, by omega⟩
  have : i = T.length := by omega
  subst this
  simp only [gZ, Int.lt_irrefl, decide_false, cond_false, List.drop_length, vB]
  exact hend h
 | succ d ih =>
  intro i k l hd hk hi h
  obtain ⟨k, rfl⟩ : ∃ q, k = q + 1 := ⟨k - 1, by omega⟩
  have hil : i < T.length := by omega
  have hlt : decide ((i : Int) < (T.length : Int)) = true := decide_eq_true (by omega)
  have hw : w64 ((i : Int) + 1) = ((i + 1 : Nat) : Int) := cA (by omega)
  have hx : pC T[i] = true := hT _ (List.getElem_mem hil)
  rw [List.drop_eq_getElem_cons hil, vB]
  simp only [gZ, hlt, cond_true, cT hil, Option.bind_some, hw]
  cases decide (hour < T[i].Hour) with
  | true => simp only [cond_true]; exact hend h
  | false =>
   simp only [cond_false]
   have hmk : (aO.mk l.Field l.players l.wilds l.frozen l.first l.late l.more l.entered) = l := rfl
   have goon : ∀ (l1 : aO), oU f l1 i → ((lX l1 T[i]).bind fun r25 =>
     bif r25.frozen then ((lW r25).bind fun r31 =>
     (gZ hour (T.length : Int) f T k) ((i + 1 : Nat) : Int) r31.players r31.wilds r31.first r31.late r31.Field r31.frozen r31.more r31.entered)
     else ((gZ hour (T.length : Int) f T k) ((i + 1 : Nat) : Int) r25.players r25.wilds r25.first r25.late r25.Field r25.frozen r25.more r25.entered)) =
     some (some (aDg hour (vB hour (bif (iZ l1 T[i]).frozen then aBt (iZ l1 T[i]) else iZ l1 T[i]) (T.drop (i + 1))))) := by
    intro l1 h1
    have hwl := h1.cn.wl
    rw [aUs l1 T[i] h1.wf.ent h1.wf.mr (by omega)]
    simp only [Option.bind_some]
    have h2 := aEg h1 (by omega) hx
    cases hz : (iZ l1 T[i]).frozen with
    | true =>
     simp only [cond_true]
     rw [aUc h2.wf hz (by have := h2.len; omega)]
     simp only [Option.bind_some]
     exact ih (i + 1) k _ (by omega) (by omega) (by omega) (aJe h2 hz)
    | false =>
     simp only [cond_false]
     have := ih (i + 1) k _ (by omega) (by omega) (by omega) h2
     rw [hz] at this
     exact this
   unfold yC
   rw [h.fd]
   cases decide (f.Freeze < T[i].Hour) with
   | true =>
    simp only [cond_true]
    have hfz := aJl h.wf
    rw [show (aO.mk f l.players l.wilds l.frozen l.first l.late l.more l.entered) = l by rw [← h.fd], hfz]
    simp only [Option.bind_some]
    exact goon (oQ l) (wL h)
   | false =>
    simp only [cond_false]
    rw [show (aO.mk f l.players l.wilds l.frozen l.first l.late l.more l.entered) = l by rw [← h.fd]]
    exact goon l h
theorem aIb (l : List aN) : (qU l).length ≤ l.length := by
 unfold qU
 have h1 := (lB (fun a b => eX a b) l).length_eq
 rw [← h1]
 cases eP (fun a b => eX a b) l with
 | nil => simp [fA]
 | cons p t => simp only [fA, List.length_cons]; have := (aBz p t).length_le; omega
theorem aRi {f : bE} {l : List aN} (h : VL f l) (hour : Int) : tL f l hour = some (some (cZ f l hour)) := by
 have hb : ∀ x ∈ l, bN x := fun x hx => aOq (h.nt x hx)
 obtain ⟨e1, e2⟩ := aVf h.len hb h.id
 have hT := aIb l
 have hlen := h.len
 unfold tL mF
 rw [Option.bind_some, e1, Option.bind_some, e2, Option.bind_some]
 exact aRh (qU l) (fun x hx => h.nt x ((yE x).1 hx)) (by omega) hour _ 0 BIG (mR f) rfl (cR (by omega)) (Nat.zero_le _) (zQ h.fd)
theorem xR {f : bE} {l : List aN} (h : VL f l) (hour : Int) : ∃ j, j ≤ 60 ∧ oU f (cZ f l hour) j := by
 have hT := aIb l
 have hlen := h.len
 obtain ⟨j, hj, hg⟩ := aGi hour (qU l) (mR f) 0 (zQ h.fd) (by omega) fun x hx => h.nt x ((yE x).1 hx)
 refine ⟨j, hj, ?_⟩
 unfold cZ aDg
 cases decide ((vB hour (mR f) (qU l)).Field.Freeze < hour) with
 | true => exact wL hg
 | false => exact hg
end Go.Am
end
section
namespace Go.Am
theorem aDr {f : bE} {l : aO} {i : Nat} (h : oU f l i) : (lF l).length ≤ 92 := by
 unfold lF
 cases l.frozen with
 | true => exact h.len
 | false =>
  simp only [cond_false]
  have h1 := aGc l (gJ l) []
  have h2 := uC h.wf
  unfold qP
  simp only [List.length_nil] at h1
  omega
theorem aGe {f : bE} {l : aO} {i : Nat} (h : oU f l i) : fH l = some (lF l) := by
 have := h.len
 simp only [List.length_append] at this
 exact aIn h.wf (by omega) (by omega)
def aGf (l : aO) : List Int := (gJ l).filter fun n => !decide (n ∈ lF l)
theorem aVq {f : bE} {l : aO} {i : Nat} (h : oU f l i) : qO l = some (aGf l) := by
 have hm := aDr h
 unfold qO aGf
 rw [aGe h, Option.bind_some, xV h.wf, Option.bind_some]
 rw [aGq (gJ l) _ (fun n => decide (n ∈ lF l)) (fun n _ => by unfold oX; rw [uM _ (by omega)]; rfl) (by have := uC h.wf; omega)]
 rfl
theorem aOb (f : bE) (l : List aN) (hour player : Int) : sW f l hour player = some (bif !decide (wK f l = 0) then (none, wK f l) else bif !wi hour 0 9999 || !wi player 0 999 then (none, 1) else (some (cZ f l hour), 0)) := by
 unfold sW
 rw [aQh, Option.bind_some]
 cases hc : decide (wK f l = 0) with
 | false => rfl
 | true =>
  simp only [Bool.not_true, cond_false, aIk, Option.bind_some, hG]
  cases !wi hour 0 9999 || !wi player 0 999 with
  | true => rfl
  | false =>
   simp only [cond_false]
   rw [aRi (uP.1 (by simpa using hc)) hour]
   rfl
def aCa (f : bE) (l : List aN) (hour : Int) : eR :=
 eR.mk (lF (cZ f l hour)) (cZ f l hour).wilds (aGf (cZ f l hour)) (plc (cZ f l hour) - ((lF (cZ f l hour)).length : Int))
theorem aNn {f : bE} {l : List aN} (h : VL f l) {hour : Int} (hh : wi hour 0 9999 = true) : qZ f l hour = some (aCa f l hour, 0) := by
 obtain ⟨i, hi, hg⟩ := xR h hour
 have hm := aDr hg
 have hp := aHo hg.wf
 unfold qZ aCa
 rw [aOb, uP.2 h, hh]
 simp only [decide_true, Bool.not_true, cond_false, show wi 0 0 999 = true from rfl, Bool.or_self, Option.bind_some]
 rw [aGe hg, Option.bind_some, aVq hg, Option.bind_some, zU hg.wf, Option.bind_some, cF (by omega) (by omega)]
end Go.Am
end
section
namespace Go.Am
theorem aAe {α : Type} (p : α → Bool) (xs : List α) : -1 ≤ findI p xs ∧ findI p xs ≤ xs.length := by
 unfold findI
 split <;> omega
def aBy (l : aO) (n : Int) : List Int → List Int
 | [] => [n]
 | m :: t => bif decide (lK l n < lK l m) then n :: m :: t else m :: aBy l n t
theorem aDp (l : aO) (n : Int) : ∀ t : List Int, (aBy l n t).Perm (n :: t)
 | [] => .refl _
 | m :: t => by
  simp only [aBy]
  cases decide (lK l n < lK l m) with
  | true => exact .refl _
  | false => exact ((aDp l n t).cons m).trans (.swap _ _ _)
theorem aEy (l : aO) (n : Int) : ∀ t : List Int, t.Pairwise (fun a b => lK l a < lK l b) → (∀ m ∈ t, lK l m ≠ lK l n) → (aBy l n t).Pairwise fun a b => lK l a < lK l b
 | [], _, _ => List.pairwise_singleton _ _
 | m :: t, hs, hne => by
  have h1 := List.pairwise_cons.1 hs
  simp only [aBy]
  cases hc : decide (lK l n < lK l m) with
  | true =>
   simp only [decide_eq_true_eq] at hc
   refine List.pairwise_cons.2 ⟨fun b hb => ?_, hs⟩
   rcases List.mem_cons.1 hb with rfl | hb
   ·exact hc
   ·exact Int.lt_trans hc (h1.1 b hb)
  | false =>
   simp only [decide_eq_false_iff_not] at hc
   refine List.pairwise_cons.2 ⟨fun b hb => ?_, aEy l n t h1.2 fun x hx => hne x (by simp [hx])⟩
   rcases List.mem_cons.1 ((aDp l n t).mem_iff.1 hb) with rfl | hb
   ·have := hne m (by simp); omega
   ·exact h1.1 b hb
def aOu (l : aO) : List Int := (tE l).foldr (aBy l) []
theorem aDh (l : aO) : ∀ t : List Int, (t.foldr (aBy l) []).Perm t
 | [] => .refl _
 | n :: t => (aDp l n _).trans ((aDh l t).cons n)
theorem aDi {l : aO} (h : WF l) : gJ l = aOu l := by
 have hn : (tE l).Nodup := by
  unfold tE
  exact h.keys.sublist ((List.filter_sublist).map _)
 have hs : ∀ t : List Int, t.Nodup → (∀ n ∈ t, (pl l n).entered = true) → (t.foldr (aBy l) []).Pairwise fun a b => lK l a < lK l b := by
  intro t
  induction t with
  | nil => intro _ _; exact .nil
  | cons n t ih =>
   intro hn he
   have h1 := List.nodup_cons.1 hn
   refine aEy l n _ (ih h1.2 fun m hm => he m (by simp [hm])) fun m hm e => ?_
   have hmt := (aDh l t).mem_iff.1 hm
   have := aGb h (he m (by simp [hmt])) (he n (by simp)) e
   subst this
   exact h1.1 hmt
 refine oE (key := lK l) (aEw h) (hs (tE l) hn fun n hm => zF hm) fun n => ?_
 rw [aFs]
 show isE l.players n = true ↔ n ∈ (tE l).foldr (aBy l) []
 rw [(aDh l (tE l)).mem_iff, aCf]
def aEl (l : aO) : List Int := zA l [] (aOu l)
theorem aHf {l : aO} (h : WF l) : qP l = aEl l := by
 unfold qP aEl
 rw [aDi h]
def aPc (l : aO) : List Int := bif l.frozen then l.first ++ l.late else aEl l
theorem aLm {l : aO} (h : WF l) : lF l = aPc l := by
 unfold lF aPc
 rw [aHf h]
def aVp (l : aO) : List Int := (aOu l).filter fun n => !decide (n ∈ aPc l)
theorem aUk {l : aO} (h : WF l) : aGf l = aVp l := by
 unfold aGf aVp
 rw [aLm h, aDi h]
def aAw (l : aO) : aO := bif l.frozen then l else { l with frozen := true, first := aEl l }
theorem aGz {l : aO} (h : WF l) : oQ l = aAw l := by
 unfold oQ aAw
 rw [aHf h]
def aGw (l : aO) (es : List Int) (first : List Int) : Nat → List Int → List Int
 | 0, late => late
 | k + 1, late => bif decide (((first ++ late).length : Int) < plc l) then (match es.find? (tM l (first ++ late)) with
  | none => late
  | some n => aGw l es first k (late ++ [n])) else late
theorem aJc {l : aO} (first : List Int) : ∀ (k : Nat) (late : List Int), tT l first k late = aGw l (gJ l) first k late
 | 0, _ => rfl
 | k + 1, late => by
  simp only [tT, aGw]
  cases (gJ l).find? (tM l (first ++ late)) with
  | none => rfl
  | some n => simp only; rw [aJc first k (late ++ [n])]
def aOw (l : aO) : aO := wl l (l.first.filter fun n => isE l.players n) (aGw l (aOu l) (l.first.filter fun n => isE l.players n) 100 (l.late.filter fun n => isE l.players n))
theorem aRy {l : aO} (h : WF l) : aBt l = aOw l := by
 unfold aBt aOw
 rw [aJc, aDi h]
def aPt (l : aO) (x : aN) : aO :=
 let l2 := iZ (bif decide (l.Field.Freeze < x.Hour) then aAw l else l) x
 bif l2.frozen then aOw l2 else l2
theorem aSr {f : bE} {l : aO} {x : aN} {i : Nat} (h : oU f l i) (hi : i < 60) (hx : pC x = true) : yC l x = aPt l x := by
 have h1 : oU f (bif decide (l.Field.Freeze < x.Hour) then oQ l else l) i := by
  cases decide (l.Field.Freeze < x.Hour) with
  | true => exact wL h
  | false => exact h
 have h2 := aEg h1 hi hx
 have e1 : (bif decide (l.Field.Freeze < x.Hour) then oQ l else l) = bif decide (l.Field.Freeze < x.Hour) then aAw l else l := by rw [aGz h.wf]
 unfold yC aPt
 simp only
 rw [e1] at h2 ⊢
 rw [aRy h2.wf]
def aMe (hour : Int) (l : aO) : List aN → aO
 | [] => l
 | x :: t => bif decide (hour < x.Hour) then l else aMe hour (aPt l x) t
theorem aOg {f : bE} (hour : Int) : ∀ (t : List aN) (l : aO) (i : Nat), oU f l i → i + t.length ≤ 60 → (∀ x ∈ t, pC x = true) → vB hour l t = aMe hour l t
 | [], _, _, _, _, _ => rfl
 | x :: t, l, i, h, hi, hx => by
  simp only [List.length_cons] at hi
  simp only [vB, aMe]
  rw [← aSr h (by omega) (hx x (by simp)), aOg hour t _ (i + 1) (aKa h (by omega) (hx x (by simp))) (by omega) fun y hy => hx y (by simp [hy])]
def aRq (hour : Int) (l : aO) : aO := bif decide (l.Field.Freeze < hour) then aAw l else l
theorem aPx {f : bE} {l : List aN} (h : VL f l) (hs : l.Pairwise fun x y => mB x < mB y) (hour : Int) : cZ f l hour = aRq hour (aMe hour (mR f) l) := by
 have hb : ∀ x ∈ l, bN x := fun x hx => aOq (h.nt x hx)
 have ht : qU l = l := oE (aCu hb h.id) hs fun x => yE x
 have hlen := h.len
 obtain ⟨j, hj, hg⟩ := aGi hour l (mR f) 0 (zQ h.fd) (by omega) h.nt
 unfold cZ aDg aRq
 rw [ht, aGz hg.wf, aOg hour l (mR f) 0 (zQ h.fd) (by omega) h.nt]
end Go.Am
end
section
namespace Go.Am
end Go.Am
end
section
namespace Go.Am
def exF : bE := ((lM).getD (⟨0, 0, 0, 0, 0⟩, [])).1
def exL : List aN := ((lM).getD (⟨0, 0, 0, 0, 0⟩, [])).2
theorem aWl : lM = some (exF, exL) := by kernel_rfl
theorem aOv : VL exF exL := uP.1 (by kernel_rfl)
theorem aQi : exL.Pairwise fun x y => mB x < mB y := of_decide_eq_true (by kernel_rfl)
def exA (h : Int) : aO := aRq h (aMe h (mR exF) exL)
theorem aKy (h : Int) : cZ exF exL h = exA h := aPx aOv aQi h
theorem aTz (h : Int) : ∃ j, j ≤ 60 ∧ oU exF (exA h) j := by
 rw [← aKy]
 exact xR aOv h
theorem aTc (h : Int) : WF (exA h) := by
 obtain ⟨j, _, hg⟩ := aTz h
 exact hg.wf
theorem aUa : qZ exF exL 12 = some (⟨[9, 8, 5], [7], [6, 4], 0⟩, 0) := by
 rw [aNn aOv (by rfl)]
 unfold aCa
 rw [aKy, aUk (aTc 12), aLm (aTc 12)]
 kernel_rfl
end Go.Am
end
