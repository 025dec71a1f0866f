/- Plain laws, one behind the other. -/
import Derived.Test.YtfdappeickbpeaaGreatEnDet
import Derived.KernelRfl
section
namespace Go.Am
def wi (n lo hi : Int) : Bool := decide (lo ≤ n) && decide (n ≤ hi)
theorem rZ {n lo hi : Int} : wi n lo hi = true ↔ lo ≤ n ∧ n ≤ hi := by simp [wi]
theorem aFm (n lo hi : Int) : bX n lo hi = some (wi n lo hi) := by
 unfold bX wi
 cases decide (lo ≤ n) <;> rfl
theorem aLl (n lo hi : Int) : cH n lo hi = some (wi n lo hi) := by
 unfold cH wi
 cases decide (lo ≤ n) <;> rfl
def qG (f : aP) : Bool := wi f.Places 1 32 && wi f.Wilds 0 32 && wi f.Guards 0 32 && wi f.Close 0 9999 && wi f.Freeze f.Close 9999
def eZ (n : aG) : Bool := wi n.Id 0 999 && wi n.Player 0 999 && wi n.Hour 0 9999 &&
 (bif decide (n.Kind = 1) then wi n.Rank 0 9999 else bif decide (n.Kind = 2) then wi n.Rank 1 9999 else bif (decide (n.Kind = 3) || decide (n.Kind = 4) || decide (n.Kind = 5)) then decide (n.Rank = 0) else false)
theorem aMq (f : aP) : pM f = some (qG f) := by
 unfold pM qG
 simp only [aFm, Option.bind_some]
 cases wi f.Places 1 32 <;> cases wi f.Wilds 0 32 <;> cases wi f.Guards 0 32 <;> cases wi f.Close 0 9999 <;> cases wi f.Freeze f.Close 9999 <;> rfl
theorem aTz (n : Int) : wi n 0 0 = decide (n = 0) := by
 unfold wi
 by_cases h : n = 0
 ·subst h; rfl
 ·have : ¬ (0 ≤ n ∧ n ≤ 0) := by omega
  cases h1 : decide (0 ≤ n) <;> cases h2 : decide (n ≤ 0) <;> simp_all <;> omega
theorem aMs (n : aG) : oG n = some (eZ n) := by
 unfold oG eZ
 simp only [aFm, Option.bind_some, aTz]
 by_cases h1 : n.Kind = 1
 ·simp only [h1, decide_true, cond_true]
  cases wi n.Id 0 999 <;> cases wi n.Player 0 999 <;> cases wi n.Hour 0 9999 <;> cases wi n.Rank 0 9999 <;> rfl
 ·by_cases h2 : n.Kind = 2
  ·simp only [h2, decide_true, cond_true, show decide ((2 : Int) = 1) = false from rfl, cond_false]
   cases wi n.Id 0 999 <;> cases wi n.Player 0 999 <;> cases wi n.Hour 0 9999 <;> cases wi n.Rank 1 9999 <;> rfl
  ·cases wi n.Id 0 999 <;> cases wi n.Player 0 999 <;> cases wi n.Hour 0 9999 <;> cases decide (n.Rank = 0) <;> cases decide (n.Kind = 3) <;> cases decide (n.Kind = 4) <;> cases decide (n.Kind = 5) <;> simp [h1, h2]
theorem aMr (n : aG) : kY n = some (eZ n) := by
 unfold kY eZ
 simp only [aLl, Option.bind_some]
 by_cases h1 : n.Kind = 1
 ·simp only [h1, decide_true, cond_true]
  cases wi n.Id 0 999 <;> cases wi n.Player 0 999 <;> cases wi n.Hour 0 9999 <;> cases wi n.Rank 0 9999 <;> rfl
 ·by_cases h2 : n.Kind = 2
  ·simp only [h2, decide_true, cond_true, show decide ((2 : Int) = 1) = false from rfl, cond_false]
   cases wi n.Id 0 999 <;> cases wi n.Player 0 999 <;> cases wi n.Hour 0 9999 <;> cases wi n.Rank 1 9999 <;> rfl
  ·cases wi n.Id 0 999 <;> cases wi n.Player 0 999 <;> cases wi n.Hour 0 9999 <;> cases decide (n.Rank = 0) <;> cases decide (n.Kind = 3) <;> cases decide (n.Kind = 4) <;> cases decide (n.Kind = 5) <;> simp [h1, h2]
def sD (l : List aG) (i : Nat) : Bool := match l[i]? with
 | some x => eZ x && (l.take i).all fun y => !decide (y.Id = x.Id) || decide (y = x)
 | none => false
def vU (f : aP) (l : List aG) : Int := bif !qG f then 50 else bif decide (60 < (l.length : Int)) then 51 else bif (List.range l.length).all (sD l) then 0 else 51
theorem vD {l : List aG} {i : Nat} (h : i < l.length) : sD l i = (eZ l[i] && (l.take i).all fun y => !decide (y.Id = l[i].Id) || decide (y = l[i])) := by
 unfold sD
 rw [List.getElem?_eq_getElem h]
theorem aOb (l : List aG) (hl : l.length ≤ 60) (i : Nat) (hi : i < l.length) (again : Int → Option Int) : ∀ k, i < k → fX again l (i : Int) k 0 =
  bif (List.range i).all (fun j => match l[j]? with | some y => !decide (y.Id = l[i].Id) || decide (y = l[i]) | none => false) then again (w64 ((i : Int) + 1)) else some 51 := by
 refine aJb (fX again l (i : Int)) i _ _ _ (fun k j hj => ?_) fun k => ?_
 ·have hj2 : j < l.length := by omega
  simp only [fX, show decide ((j : Int) < (i : Int)) = true by simpa using hj, cond_true, cV hj2, cV hi, Option.bind_some, List.getElem?_eq_getElem hj2, bU (i := j) (by omega)]
  cases h1 : decide (l[j].Id = l[i].Id) <;> cases h2 : decide (l[j] = l[i]) <;> simp
 ·simp [fX, pX, pW]
theorem aQc (l : List aG) (p : aG → Bool) (i : Nat) (hi : i ≤ l.length) : (List.range i).all (fun j => match l[j]? with | some y => p y | none => false) = (l.take i).all p := by
 rw [Bool.eq_iff_iff]
 simp only [List.all_eq_true, List.mem_range]
 constructor
 ·intro h y hy
  obtain ⟨j, hj, rfl⟩ := List.getElem_of_mem hy
  simp only [List.length_take] at hj
  have := h j (by omega)
  rw [List.getElem?_eq_getElem (by omega)] at this
  simpa using this
 ·intro h j hj
  rw [List.getElem?_eq_getElem (by omega)]
  refine h _ (List.mem_take_iff_getElem.2 ⟨j, by omega, rfl⟩)
theorem aOc (f : aP) (l : List aG) : mS f l = some (vU f l) := by
 have hF : ∀ {b : Option Int}, ((cH f.Places 1 32).bind fun r2 =>
  (bif !r2 then (some true) else ((cH f.Wilds 0 32).bind fun r3 => some (!r3))).bind fun b4 =>
  (bif b4 then (some true) else ((cH f.Guards 0 32).bind fun r5 => some (!r5))).bind fun b6 =>
  (bif b6 then (some true) else ((cH f.Close 0 9999).bind fun r7 => some (!r7))).bind fun b8 =>
  (bif b8 then (some true) else ((cH f.Freeze f.Close 9999).bind fun r9 => some (!r9))).bind fun b10 =>
  bif b10 then (some 50) else b) = bif !qG f then some 50 else b := by
  intro b
  simp only [aLl, Option.bind_some]
  unfold qG
  cases wi f.Places 1 32 <;> cases wi f.Wilds 0 32 <;> cases wi f.Guards 0 32 <;> cases wi f.Close 0 9999 <;> cases wi f.Freeze f.Close 9999 <;> rfl
 unfold mS vU
 rw [hF]
 cases qG f with
 | false => rfl
 | true =>
  simp only [Bool.not_true, cond_false]
  cases hl : decide (60 < (l.length : Int)) with
  | true => rfl
  | false =>
   simp only [cond_false]
   have hl' : l.length ≤ 60 := by simp at hl; omega
   have := aJb (fW l) l.length (sD l) (some 51) (some 0) (fun k i hi => ?_) (fun k => ?_) BIG (dC (by omega))
   ·rw [this]
    cases (List.range l.length).all (sD l) <;> rfl
   ·simp only [fW, show decide ((i : Int) < (l.length : Int)) = true by simpa using hi, cond_true, cV hi, Option.bind_some, aMr]
    rw [vD hi, aOb l hl' i hi _ BIG (dC (by omega)), aQc l (fun y => !decide (y.Id = l[i].Id) || decide (y = l[i])) i (by omega), bU (by omega)]
    cases eZ l[i] <;> cases (l.take i).all (fun y => !decide (y.Id = l[i].Id) || decide (y = l[i])) <;> rfl
   ·simp [fW, pV]
theorem aHb {α β : Type} [DecidableEq α] (a b : α) (v : β) : ∀ m : List (α × β), gJ a (bY b v m) = (decide (a = b) || gJ a m)
 | [] => by simp [bY, gJ]
 | (c, u) :: m => by
  simp only [bY]
  by_cases hbc : b = c
  ·subst hbc
   simp [gJ]
  ·simp only [hbc, decide_false, cond_false, gJ, aHb a b v m]
   by_cases h1 : a = c <;> by_cases h2 : a = b <;> simp [h1, h2]
theorem oP {α β : Type} [DecidableEq α] (a b : α) (v z : β) : ∀ m : List (α × β), aE a z (bY b v m) = bif decide (a = b) then v else aE a z m
 | [] => by simp [bY, aE]
 | (c, u) :: m => by
  simp only [bY]
  by_cases hbc : b = c
  ·subst hbc
   by_cases h : a = b <;> simp [aE, h]
  ·simp only [hbc, decide_false, cond_false, aE, oP a b v z m]
   by_cases h1 : a = c
   ·subst h1
    simp [Ne.symm hbc, Ne.symm (a := a) (b := b) (fun e => hbc e.symm)]
   ·simp [h1]
def aUy (l : List aG) (m : List (Int × aG)) : Prop := ∀ id, (gJ id m = true → aE id (aG.mk 0 0 0 0 0) m ∈ l ∧ (aE id (aG.mk 0 0 0 0 0) m).Id = id) ∧ (∀ y ∈ l, y.Id = id → gJ id m = true)
theorem aOf (f : aP) (l : List aG) : rV f l = some (vU f l) := by
 unfold rV vU
 rw [aMq]
 simp only [Option.bind_some]
 cases qG f with
 | false => rfl
 | true =>
  simp only [Bool.not_true, cond_false]
  cases hl : decide (60 < (l.length : Int)) with
  | true => rfl
  | false =>
   simp only [cond_false]
   have hl' : l.length ≤ 60 := by simp at hl; omega
   have key := kB (jX l (l.length : Int)) l.length (fun i _ => some (bif (List.range' i (l.length - i)).all (sD l) then (0 : Int) else 51))
    (fun i m => aUy (l.take i) m ∧ ∀ j, j < i → sD l j = true) (fun k i m hi hI ih => ?_) (fun k m hI => ?_) BIG [] (dC (by omega)) ⟨fun id => ⟨fun h => by simp [gJ] at h, fun y hy => by simp at hy⟩, fun j hj => by omega⟩
   ·rw [key]
    simp [List.range_eq_range']
   ·obtain ⟨hK, hg⟩ := hI
    have hrest : List.range' i (l.length - i) = i :: List.range' (i + 1) (l.length - (i + 1)) := by
     rw [show l.length - i = (l.length - (i + 1)) + 1 by omega, List.range'_succ]
    have hgood : sD l i = (eZ l[i] && !(gJ l[i].Id m && !decide (aE l[i].Id (aG.mk 0 0 0 0 0) m = l[i]))) := by
     rw [vD hi]
     congr 1
     rw [Bool.eq_iff_iff]
     simp only [List.all_eq_true, Bool.or_eq_true, Bool.not_eq_true', decide_eq_false_iff_not, decide_eq_true_eq, Bool.and_eq_false_iff, Bool.not_eq_false']
     constructor
     ·intro h
      cases hm : gJ l[i].Id m with
      | false => exact .inl rfl
      | true =>
       right
       obtain ⟨h1, h2⟩ := (hK l[i].Id).1 hm
       rcases h _ h1 with h3 | h3
       ·exact absurd h2 h3
       ·exact h3
     ·intro h y hy
      by_cases hid : y.Id = l[i].Id
      ·right
       have hm := (hK l[i].Id).2 y hy hid
       rcases h with h | h
       ·rw [hm] at h; cases h
       ·obtain ⟨h1, h2⟩ := (hK l[i].Id).1 hm
        obtain ⟨a, ha, hya⟩ := List.getElem_of_mem hy
        obtain ⟨b, hb, hmb⟩ := List.getElem_of_mem h1
        simp only [List.length_take] at ha hb
        simp only [List.getElem_take] at hya hmb
        have same : ∀ p q : Nat, p < q → q < i → ∀ (hp : p < l.length) (hq : q < l.length), l[p].Id = l[q].Id → l[p] = l[q] := by
         intro p q hpq hqi hp hq he
         have := hg q hqi
         rw [vD hq] at this
         simp only [Bool.and_eq_true, List.all_eq_true, Bool.or_eq_true, Bool.not_eq_true', decide_eq_false_iff_not, decide_eq_true_eq] at this
         rcases this.2 l[p] (List.mem_take_iff_getElem.2 ⟨p, by omega, rfl⟩) with h | h
         ·exact absurd he h
         ·exact h
        rw [← h]
        rcases Nat.lt_trichotomy a b with hab | hab | hab
        ·rw [← hya, ← hmb]
         exact same a b hab (by omega) (by omega) (by omega) (by rw [hya, hmb, hid, h2])
        ·subst hab
         rw [← hya, ← hmb]
        ·rw [← hya, ← hmb]
         exact (same b a hab (by omega) (by omega) (by omega) (by rw [hya, hmb, hid, h2])).symm
      ·exact .inl hid
    simp only [jX, show decide ((i : Int) < (l.length : Int)) = true by simpa using hi, cond_true, cV hi, Option.bind_some, aMs, bU (i := i) (by omega)]
    rw [hrest, List.all_cons, hgood]
    have ih' : sD l i = true → jX l (l.length : Int) k ((i + 1 : Nat) : Int) (bY l[i].Id l[i] m) = some (bif (List.range' (i + 1) (l.length - (i + 1))).all (sD l) then (0 : Int) else 51) := fun hgi => by
     refine ih _ ⟨fun id => ?_, fun j hj => ?_⟩
     ·have htk : l.take (i + 1) = l.take i ++ [l[i]] := by rw [List.take_add_one, List.getElem?_eq_getElem hi]; rfl
      rw [htk, aHb, oP]
      constructor
      ·intro h
       by_cases hid : id = l[i].Id
       ·subst hid
        simp only [decide_true, cond_true]
        exact ⟨List.mem_append.2 (.inr (List.mem_singleton.2 rfl)), trivial⟩
       ·simp only [hid, decide_false, Bool.false_or, cond_false] at h ⊢
        obtain ⟨h1, h2⟩ := (hK id).1 h
        exact ⟨List.mem_append.2 (.inl h1), h2⟩
      ·intro y hy he
       rcases List.mem_append.1 hy with hy | hy
       ·rw [(hK id).2 y hy he]; simp
       ·simp at hy; subst hy; simp [he]
     ·rcases Nat.lt_or_ge j i with h | h
      ·exact hg j h
      ·have : j = i := by omega
       subst this; exact hgi
    rw [hgood] at ih'
    revert ih'
    cases eZ l[i] <;> cases gJ l[i].Id m <;> cases decide (aE l[i].Id (aG.mk 0 0 0 0 0) m = l[i]) <;> intro ih' <;> first | rfl | (simpa using ih' rfl)
   ·simp [jX, tW]
structure VL (f : aP) (l : List aG) : Prop where
 fd : qG f = true
 len : l.length ≤ 60
 nt : ∀ x ∈ l, eZ x = true
 id : ∀ x ∈ l, ∀ y ∈ l, x.Id = y.Id → x = y
theorem oR {f : aP} {l : List aG} : vU f l = 0 ↔ VL f l := by
 unfold vU
 constructor
 ·intro h
  cases h1 : qG f with
  | false => rw [h1] at h; simp at h
  | true =>
   rw [h1] at h
   simp only [Bool.not_true, cond_false] at h
   cases h2 : decide (60 < (l.length : Int)) with
   | true => rw [h2] at h; simp at h
   | false =>
    rw [h2] at h
    simp only [cond_false] at h
    cases h3 : (List.range l.length).all (sD l) with
    | false => rw [h3] at h; simp at h
    | true =>
     simp only [List.all_eq_true, List.mem_range] at h3
     have hg : ∀ i (hi : i < l.length), eZ l[i] = true ∧ ∀ y ∈ l.take i, y.Id = l[i].Id → y = l[i] := fun i hi => by
      have := h3 i hi
      rw [vD hi] at this
      simp only [Bool.and_eq_true, List.all_eq_true, Bool.or_eq_true, Bool.not_eq_true', decide_eq_false_iff_not, decide_eq_true_eq] at this
      exact ⟨this.1, fun y hy he => (this.2 y hy).resolve_left fun h => h he⟩
     refine ⟨h1, by simp at h2; omega, fun x hx => ?_, fun x hx y hy he => ?_⟩
     ·obtain ⟨i, hi, rfl⟩ := List.getElem_of_mem hx
      exact (hg i hi).1
     ·obtain ⟨i, hi, rfl⟩ := List.getElem_of_mem hx
      obtain ⟨j, hj, rfl⟩ := List.getElem_of_mem hy
      rcases Nat.lt_trichotomy i j with h | h | h
      ·exact (hg j hj).2 _ (List.mem_take_iff_getElem.2 ⟨i, by omega, rfl⟩) he
      ·subst h; rfl
      ·exact ((hg i hi).2 _ (List.mem_take_iff_getElem.2 ⟨j, by omega, rfl⟩) he.symm).symm
 ·rintro ⟨h1, h2, h3, h4⟩
  rw [h1]
  have : decide (60 < (l.length : Int)) = false := by simp; omega
  rw [this]
  have h5 : (List.range l.length).all (sD l) = true := by
   simp only [List.all_eq_true, List.mem_range]
   intro i hi
   rw [vD hi]
   simp only [Bool.and_eq_true, List.all_eq_true, Bool.or_eq_true, Bool.not_eq_true', decide_eq_false_iff_not, decide_eq_true_eq]
   refine ⟨h3 _ (List.getElem_mem hi), fun y hy => ?_⟩
   by_cases he : y.Id = l[i].Id
   ·exact .inr (h4 _ (List.mem_of_mem_take hy) _ (List.getElem_mem hi) he)
   ·exact .inl he
  rw [h5]
  rfl
end Go.Am
end
section
namespace Go.Am
def cS (x : aG) : Int := x.Hour * 1000 + x.Id
section
variable {α : Type}
theorem jZ {A : List α} {x : α} {B : List α} {p : Int} (h : p = (A.length : Int)) : idx (A ++ x :: B) p = some x := by
 subst h; rw [cV (by simp)]; simp
theorem aFz {A : List α} {x y : α} {B : List α} {p : Nat} (h : p = A.length) : (A ++ x :: B).set p y = A ++ y :: B := by
 subst h; simp
theorem wY {A : List α} {x y : α} {B : List α} {p : Int} (h : p = ((A.length + 1 : Nat) : Int)) : idx (A ++ x :: y :: B) p = some y := by
 have : A ++ x :: y :: B = (A ++ [x]) ++ y :: B := by simp
 rw [this, jZ (by simp [h])]
end
def qE (p : aG) : List aG → List aG
 | [] => []
 | y :: t => if y = p then qE p t else y :: qE y t
def qN : List aG → List aG
 | [] => []
 | x :: t => x :: qE x t
theorem aMj (again : Int → List aG → Option (List aG)) {k0 : Nat} : ∀ (t : List aG) (p : aG) (W X : List aG) (k2 k : Nat), 1 ≤ k2 → W.length + X.length + 1 = k0 + k2 → k0 ≤ W.length → (W ++ X ++ p :: t).length < 4611686018427387904 → t.length < k →
  dK again (k0 : Nat) k (W.length : Nat) (k2 : Nat) (W ++ X ++ p :: t) = some (W ++ qE p t) := by
 intro t
 induction t with
 | nil =>
  intro p W X k2 k h1 h2 h3 hb hk
  obtain ⟨k, rfl⟩ : ∃ q, k = q + 1 := ⟨k - 1, by omega⟩
  simp only [List.length_append, List.length_cons, List.length_nil] at hb
  have t0 : ((k0 : Nat) : Int).toNat = k0 := rfl
  have t1 : ((W.length : Nat) : Int).toNat = W.length := rfl
  have hlt : decide ((k2 : Int) < (((W ++ X ++ [p]).drop k0).length : Int)) = false := decide_eq_false (by simp; omega)
  have c1 : (decide ((0 : Int) ≤ (W.length : Int)) && decide ((W.length : Int) ≤ ((W ++ X ++ [p]).length : Int))) = true := by simp; omega
  have c2 : decide (W.length ≤ (W ++ X ++ [p]).length) = true := by simp
  have c3 : decide ((0 : Int) ≤ (W.length : Int)) = true := by simp
  simp only [dK, t0, hlt, cond_false, lH]
  rw [c1, t1, c2, c3]
  simp [chk, qE]
 | cons y t ih =>
  intro p W X k2 k h1 h2 h3 hb hk
  obtain ⟨k, rfl⟩ : ∃ q, k = q + 1 := ⟨k - 1, by omega⟩
  simp only [List.length_append, List.length_cons] at hb hk
  have t0 : ((k0 : Nat) : Int).toNat = k0 := rfl
  have t1 : ((W.length : Nat) : Int).toNat = W.length := rfl
  have hlt : decide ((k2 : Int) < (((W ++ X ++ p :: y :: t).drop k0).length : Int)) = true := decide_eq_true (by simp; omega)
  have ed : (W ++ X ++ p :: y :: t).drop k0 = (W ++ X).drop k0 ++ p :: y :: t := by rw [List.drop_append_of_le_length (by simp; omega)]
  have hdl : ((W ++ X).drop k0).length = k2 - 1 := by simp; omega
  have i1 : idx ((W ++ X ++ p :: y :: t).drop k0) (k2 : Nat) = some y := by rw [ed]; exact wY (by rw [hdl]; omega)
  have i2 : idx ((W ++ X ++ p :: y :: t).drop k0) (w64 ((k2 : Int) - 1)) = some p := by rw [aKj (by omega) (by omega), ed]; exact jZ (by rw [hdl])
  simp only [dK, t0, hlt, cond_true, i1, i2, Option.bind_some, bU (show k2 < 9223372036854775807 by omega)]
  by_cases hyp : y = p
  ·subst hyp
   have := ih y W (X ++ [y]) (k2 + 1) k (by omega) (by simp; omega) h3 (by simp only [List.length_append, List.length_cons, List.length_nil]; omega) (by omega)
   have e1 : W ++ (X ++ [y]) ++ y :: t = W ++ X ++ y :: y :: t := by simp
   rw [e1] at this
   rw [decide_eq_true rfl, Bool.not_true, cond_false, this]
   simp [qE]
  ·have hd : (!decide (y = p)) = true := by rw [decide_eq_false hyp]; rfl
   have i3 : ∃ z, idx (W ++ X ++ p :: y :: t) (W.length : Nat) = some z := ⟨_, cV (by simp; omega)⟩
   obtain ⟨z, i3⟩ := i3
   rw [hd, cond_true, i3, Option.bind_some, t1, bU (by omega)]
   obtain ⟨X', e2⟩ : ∃ X', (W ++ X ++ p :: y :: t).set W.length y = (W ++ [y]) ++ X' ++ y :: t ∧ X'.length = X.length := by
    cases X with
    | nil => exact ⟨[], by simp, rfl⟩
    | cons x X => exact ⟨X ++ [p], by simp, by simp⟩
   rw [e2.1]
   have := ih y (W ++ [y]) X' (k2 + 1) k (by omega) (by rw [List.length_append, e2.2]; simp; omega) (by simp; omega) (by simp only [List.length_append, List.length_cons, List.length_nil, e2.2]; omega) (by omega)
   have e3 : (W ++ [y]).length = W.length + 1 := by simp
   rw [e3] at this
   rw [this]
   simp [qE, hyp]
theorem aIg (s : List aG) (hb : s.length < 4611686018427387904) : fV s = some (qN s) := by
 have main : ∀ (t A : List aG) (p : aG) (k : Nat), t.length < k → (A ++ p :: t).length < 4611686018427387904 → cP k ((A.length + 1 : Nat) : Int) (A ++ p :: t) = some (A ++ p :: qE p t) := by
  intro t
  induction t with
  | nil =>
   intro A p k hk hb
   obtain ⟨k, rfl⟩ : ∃ q, k = q + 1 := ⟨k - 1, by omega⟩
   have hlt : decide (((A.length + 1 : Nat) : Int) < ((A ++ [p]).length : Int)) = false := decide_eq_false (by simp)
   simp only [cP, hlt, cond_false, lF, qE]
  | cons y t ih =>
   intro A p k hk hb
   obtain ⟨k, rfl⟩ : ∃ q, k = q + 1 := ⟨k - 1, by omega⟩
   simp only [List.length_append, List.length_cons] at hb hk
   have hlt : decide (((A.length + 1 : Nat) : Int) < ((A ++ p :: y :: t).length : Int)) = true := decide_eq_true (by simp; omega)
   have i2 : w64 (((A.length + 1 : Nat) : Int) - 1) = (A.length : Int) := by rw [cR (by omega) (by omega)]; omega
   simp only [cP, hlt, cond_true, wY rfl, i2, jZ rfl, Option.bind_some]
   by_cases hyp : y = p
   ·subst hyp
    have c1 : (decide ((0 : Int) ≤ ((A.length + 1 : Nat) : Int)) && decide (((A.length + 1 : Nat) : Int) ≤ ((A ++ y :: y :: t).length : Int))) = true := by simp; omega
    rw [decide_eq_true rfl, cond_true, c1]
    simp only [chk, cond_true, Option.bind_some]
    have := aMj (cP k) (k0 := A.length + 1) t y (A ++ [y]) [] 1 BIG (Nat.le_refl _) (by simp) (by simp) (by simp only [List.length_append, List.length_cons, List.length_nil]; omega) (dC (by omega))
    have e3 : (A ++ [y]).length = A.length + 1 := by simp
    have e4 : A ++ [y] ++ [] ++ y :: t = A ++ y :: y :: t := by simp
    rw [e3, e4] at this
    have e5 : ((1 : Nat) : Int) = 1 := rfl
    rw [e5] at this
    rw [this]
    simp [qE]
   ·rw [decide_eq_false hyp, cond_false]
    unfold lG
    rw [bU (by omega)]
    have := ih (A ++ [p]) y k (by omega) (by simp only [List.length_append, List.length_cons, List.length_nil]; omega)
    have e3 : (A ++ [p]).length = A.length + 1 := by simp
    have e4 : A ++ [p] ++ y :: t = A ++ p :: y :: t := by simp
    rw [e3, e4] at this
    rw [this]
    simp [qE, hyp]
 unfold fV
 match s, hb with
 | [], _ => simp [qN]
 | x :: t, hb =>
  by_cases ht : t = []
  ·subst ht; simp [qN, qE]
  ·have hl : 0 < t.length := List.length_pos_iff.2 ht
   have hd : decide (((x :: t).length : Int) < 2) = false := decide_eq_false (by simp; omega)
   rw [hd, cond_false]
   have := main t [] x BIG (dC (by simp at hb; omega)) (by simpa using hb)
   simp only [List.length_nil, List.nil_append, Nat.zero_add] at this
   have e5 : ((1 : Nat) : Int) = 1 := rfl
   rw [e5] at this
   rw [this]; rfl
theorem aQr (p x : aG) (t : List aG) : (x = p ∨ x ∈ qE p t) ↔ (x = p ∨ x ∈ t) := by
 induction t generalizing p with
 | nil => rfl
 | cons y t ih =>
  simp only [qE, List.mem_cons]
  by_cases h : y = p
  ·subst h
   rw [if_pos rfl]
   have := ih y
   constructor
   ·rintro (h | h)
    ·exact .inl h
    ·rcases this.1 (.inr h) with h | h
     ·exact .inl h
     ·exact .inr (.inr h)
   ·rintro (h | h | h)
    ·exact .inl h
    ·exact .inl h
    ·exact this.2 (.inr h)
  ·rw [if_neg h, List.mem_cons]
   have := ih y
   constructor
   ·rintro (h | h)
    ·exact .inl h
    ·exact .inr (this.1 h)
   ·rintro (h | h)
    ·exact .inl h
    ·exact .inr (this.2 h)
theorem aKm (x : aG) (s : List aG) : x ∈ qN s ↔ x ∈ s := by
 cases s with
 | nil => rfl
 | cons p t => simp only [qN, List.mem_cons]; exact aQr p x t
theorem aQs (p : aG) (t : List aG) : (qE p t).Sublist t := by
 induction t generalizing p with
 | nil => exact .slnil
 | cons y t ih =>
  simp only [qE]
  split
  ·exact (ih p).cons _
  ·exact (ih y).cons_cons _
theorem aKp (p : aG) (t : List aG) (hs : (p :: t).Pairwise fun x y => cS x ≤ cS y) (hcl : ∀ x ∈ p :: t, ∀ y ∈ p :: t, cS x = cS y → x = y) : (p :: qE p t).Pairwise fun x y => cS x < cS y := by
 induction t generalizing p with
 | nil => exact List.pairwise_singleton _ _
 | cons y t ih =>
  have h1 := List.pairwise_cons.1 hs
  have h2 := List.pairwise_cons.1 h1.2
  simp only [qE]
  by_cases h : y = p
  ·subst h
   rw [if_pos rfl]
   exact ih y h1.2 (fun a ha b hb => hcl a (List.mem_cons_of_mem _ ha) b (List.mem_cons_of_mem _ hb))
  ·rw [if_neg h]
   have h3 := ih y h1.2 (fun a ha b hb => hcl a (List.mem_cons_of_mem _ ha) b (List.mem_cons_of_mem _ hb))
   refine List.pairwise_cons.2 ⟨fun z hz => ?_, h3⟩
   have hpy : cS p < cS y := by
    have := h1.1 y (by simp)
    rcases Int.lt_or_eq_of_le this with h4 | h4
    ·exact h4
    ·exact absurd (hcl p (by simp) y (by simp) h4).symm h
   rcases List.mem_cons.1 hz with rfl | hz
   ·exact hpy
   ·exact Int.lt_trans hpy ((List.pairwise_cons.1 h3).1 z hz)
theorem jN {α : Type} {key : α → Int} : ∀ {xs ys : List α}, xs.Pairwise (fun x y => key x < key y) → ys.Pairwise (fun x y => key x < key y) → (∀ x, x ∈ xs ↔ x ∈ ys) → xs = ys
 | [], [], _, _, _ => rfl
 | [], y :: ys, _, _, h => by have := (h y).2 (by simp); simp at this
 | x :: xs, [], _, _, h => by have := (h x).1 (by simp); simp at this
 | x :: xs, y :: ys, h1, h2, h => by
  have a1 := List.pairwise_cons.1 h1
  have a2 := List.pairwise_cons.1 h2
  have hxy : x = y := by
   rcases List.mem_cons.1 ((h x).1 (by simp)) with e | e
   ·exact e
   ·rcases List.mem_cons.1 ((h y).2 (by simp)) with e2 | e2
    ·exact e2.symm
    ·have := a2.1 x e; have := a1.1 y e2; omega
  subst hxy
  have := jN a1.2 a2.2 fun z => by
   have hz := h z
   simp only [List.mem_cons] at hz
   constructor
   ·intro hm
    rcases hz.1 (.inr hm) with e | e
    ·have := a1.1 z hm; rw [e] at this; omega
    ·exact e
   ·intro hm
    rcases hz.2 (.inr hm) with e | e
    ·have := a2.1 z hm; rw [e] at this; omega
    ·exact e
  rw [this]
theorem aMi (l : List aG) (hb : l.length ≤ 60) : iD l = some l := by
 have key := kB (cL (fun (s3 : List aG) x4 => (app 40 s3 ([x4])).bind fun x6 => some (x6, true)) l (l.length : Int)) l.length (fun i s => some (s ++ l.drop i, true)) (fun i s => s.length = i) (fun k i s hi hI ih => ?_) (fun k s hI => ?_) BIG [] (dC (by omega)) rfl
 ·unfold iD jA fG
  rw [key]
  simp
 ·simp only [cL, show decide ((i : Int) < (l.length : Int)) = true by simpa using hi, cond_true, cV hi, Option.bind_some]
  rw [eN (by simp; omega)]
  simp only [Option.bind_some, Bool.not_true, cond_false]
  rw [bU (by omega), ih _ (by simp; omega)]
  rw [List.append_assoc, List.singleton_append, ← List.drop_eq_getElem_cons hi]
 ·simp [cL, gR]
theorem or2 (a b : Int) : nN [a, b] = some (if a ≠ 0 then a else b) := by
 unfold nN
 obtain ⟨k, hk⟩ : ∃ k, BIG = k + 1 + 1 + 1 := ⟨BIG - 3, by unfold BIG; omega⟩
 rw [show ((([a, b] : List Int).length : Nat) : Int) = 2 from rfl, hk]
 simp only [nL, sA, show decide ((0 : Int) < 2) = true from rfl, cond_true, show idx [a, b] 0 = some a from rfl, Option.bind_some, show w64 (0 + 1) = 1 from rfl, show decide ((1 : Int) < 2) = true from rfl, show idx [a, b] 1 = some b from rfl, show w64 (1 + 1) = 2 from rfl, show decide ((2 : Int) < 2) = false from rfl, cond_false]
 by_cases h : a = 0
 ·subst h
  by_cases h2 : b = 0
  ·subst h2; simp
  ·simp [h2]
 ·simp [h]
def bN (x : aG) : Prop := 0 ≤ x.Id ∧ x.Id ≤ 999 ∧ 0 ≤ x.Hour ∧ x.Hour ≤ 9999
theorem rI {x : aG} (h : eZ x = true) : bN x := by
 unfold eZ at h
 simp only [Bool.and_eq_true, rZ] at h
 exact ⟨h.1.1.1.1, h.1.1.1.2, h.1.2.1, h.1.2.2⟩
theorem aUd {x y : aG} (hx : bN x) (hy : bN y) : ∃ r, eC x y = some r ∧ (r < 0 ↔ cS x < cS y) := by
 obtain ⟨a1, a2, a3, a4⟩ := hx
 obtain ⟨b1, b2, b3, b4⟩ := hy
 unfold eC
 rw [cR (by omega) (by omega), cR (by omega) (by omega), or2]
 refine ⟨_, rfl, ?_⟩
 unfold cS
 split <;> constructor <;> intro h <;> omega
theorem ltN {x y : aG} (hx : bN x) (hy : bN y) : ltO (fun a b => eC a b) x y = decide (cS x < cS y) := by
 obtain ⟨r, h1, h2⟩ := aUd hx hy
 unfold ltO
 simp only [h1]
 rw [Bool.eq_iff_iff]
 simpa using h2
theorem zG {x y : aG} (hx : bN x) (hy : bN y) (h : cS x = cS y) : x.Id = y.Id := by
 obtain ⟨a1, a2, a3, a4⟩ := hx
 obtain ⟨b1, b2, b3, b4⟩ := hy
 unfold cS at h
 omega
theorem aLs {l : List aG} (hb : ∀ x ∈ l, bN x) (hid : ∀ x ∈ l, ∀ y ∈ l, x.Id = y.Id → x = y) : sE l (fun a b => eC a b) = true := by
 unfold sE
 simp only [List.all_eq_true, Bool.and_eq_true, Bool.or_eq_true, Bool.not_eq_true', decide_eq_true_eq]
 intro x hx
 refine ⟨by rw [ltN (hb x hx) (hb x hx)]; simp, fun y hy => ⟨⟨?_, ?_⟩, fun z hz => ⟨?_, ?_⟩⟩⟩
 ·obtain ⟨r, h1, _⟩ := aUd (hb x hx) (hb y hy)
  simp [h1]
 ·rw [ltN (hb x hx) (hb y hy), ltN (hb y hy) (hb x hx)]
  simp only [decide_eq_true_eq]
  rcases Int.lt_trichotomy (cS x) (cS y) with h | h | h
  ·exact .inl (.inr h)
  ·exact .inl (.inl (hid x hx y hy (zG (hb x hx) (hb y hy) h)))
  ·exact .inr h
 ·rw [ltN (hb x hx) (hb y hy), ltN (hb y hy) (hb z hz), ltN (hb x hx) (hb z hz)]
  simp only [Bool.and_eq_false_iff, decide_eq_false_iff_not, decide_eq_true_eq]
  omega
 ·rw [ltN (hb x hx) (hb y hy), ltN (hb y hy) (hb z hz), ltN (hb x hx) (hb z hz)]
  simp only [decide_eq_false_iff_not, decide_eq_true_eq]
  omega
def cN (l : List aG) : List aG := qN (dT (fun a b => eC a b) l)
theorem aUh {l : List aG} (hlen : l.length ≤ 60) (hb : ∀ x ∈ l, bN x) (hid : ∀ x ∈ l, ∀ y ∈ l, x.Id = y.Id → x = y) :
  gI l (fun y5 y6 => eC y5 y6) = some (dT (fun a b => eC a b) l) ∧ fV (dT (fun a b => eC a b) l) = some (cN l) := by
 have hl : (dT (fun a b => eC a b) l).length = l.length := (iL _ l).length_eq
 refine ⟨?_, aIg _ (by omega)⟩
 unfold gI mB
 rw [aMi l hlen]
 simp only [Option.bind_some]
 unfold sG
 rw [if_pos ⟨aLs hb hid, by omega⟩]
 rfl
theorem dR {l : List aG} (x : aG) : x ∈ cN l ↔ x ∈ l := by
 unfold cN
 rw [aKm]
 exact (iL _ l).mem_iff
theorem jP {l : List aG} (hb : ∀ x ∈ l, bN x) (hid : ∀ x ∈ l, ∀ y ∈ l, x.Id = y.Id → x = y) : (cN l).Pairwise fun x y => cS x < cS y := by
 have hs := sF (aLs hb hid)
 have hm : ∀ x, x ∈ dT (fun a b => eC a b) l ↔ x ∈ l := fun x => (iL _ l).mem_iff
 unfold cN
 generalize hz : dT (fun a b => eC a b) l = z at hs hm
 have hs' : z.Pairwise fun x y => cS x ≤ cS y := by
  refine List.Pairwise.imp_of_mem (fun {x y} hx hy h => ?_) hs
  rw [ltN (hb y ((hm y).1 hy)) (hb x ((hm x).1 hx))] at h
  simp at h
  omega
 cases z with
 | nil => exact .nil
 | cons p t => exact aKp p t hs' fun x hx y hy h => hid x ((hm x).1 hx) y ((hm y).1 hy) (zG (hb x ((hm x).1 hx)) (hb y ((hm y).1 hy)) h)
end Go.Am
end
section
namespace Go.Am
section lists
variable {α : Type}
theorem aKd {A : List α} {x y : α} {B : List α} {p : Nat} (h : p = A.length) : (A ++ x :: B).set p y = A ++ y :: B := by
 subst h; simp
theorem aPl {A : List α} {x y z : α} {B : List α} {p : Nat} (h : p = A.length + 1) : (A ++ x :: y :: B).set p z = A ++ x :: z :: B := by
 have : A ++ x :: y :: B = (A ++ [x]) ++ y :: B := by simp
 rw [this, aKd (by simp [h])]; simp
end lists
theorem aRq (again : Int → List aG → Option (List aG)) (l : List aG) (i : Nat) (T : List aG) (x : aG) (a : Nat) (hT : T.length ≤ 100) : ∀ (n k c : Nat), c - a = n → a ≤ c → c ≤ T.length → n < k →
  kZ again l (i : Int) (a : Int) k (c : Int) (T.take c ++ x :: T.drop c) = again (w64 ((i : Int) + 1)) (T.take a ++ x :: T.drop a) := by
 intro n
 induction n with
 | zero =>
  intro k c hn hac hc hk
  obtain ⟨k, rfl⟩ : ∃ q, k = q + 1 := ⟨k - 1, by omega⟩
  have : c = a := by omega
  subst this
  simp [kZ, tT, nE]
 | succ n ih =>
  intro k c hn hac hc hk
  obtain ⟨k, rfl⟩ : ∃ q, k = q + 1 := ⟨k - 1, by omega⟩
  have hlt : decide ((a : Int) < (c : Int)) = true := decide_eq_true (by omega)
  obtain ⟨c, rfl⟩ : ∃ q, c = q + 1 := ⟨c - 1, by omega⟩
  have hcl : c < T.length := by omega
  have hw : w64 (((c + 1 : Nat) : Int) - 1) = (c : Int) := by rw [cR (by omega) (by omega)]; omega
  have htk : T.take (c + 1) = T.take c ++ [T[c]] := by rw [List.take_add_one, List.getElem?_eq_getElem hcl]; rfl
  have hlen : (T.take c).length = c := by simp; omega
  have e1 : T.take (c + 1) ++ x :: T.drop (c + 1) = T.take c ++ T[c] :: x :: T.drop (c + 1) := by rw [htk, List.append_assoc]; rfl
  rw [e1]
  have n1 : (((c + 1 : Nat) : Int)).toNat = c + 1 := by omega
  have n2 : ((c : Int)).toNat = c := by omega
  have g1 : idx (T.take c ++ T[c] :: x :: T.drop (c + 1)) (c : Int) = some T[c] := jZ (by rw [hlen])
  have g2 : idx (T.take c ++ T[c] :: x :: T.drop (c + 1)) ((c + 1 : Nat) : Int) = some x := wY (by rw [hlen])
  have s1 : (T.take c ++ T[c] :: x :: T.drop (c + 1)).set (c + 1) T[c] = T.take c ++ T[c] :: T[c] :: T.drop (c + 1) := aPl (by rw [hlen])
  have g3 : idx (T.take c ++ T[c] :: T[c] :: T.drop (c + 1)) (c : Int) = some T[c] := jZ (by rw [hlen])
  have s2 : (T.take c ++ T[c] :: T[c] :: T.drop (c + 1)).set c x = T.take c ++ x :: T[c] :: T.drop (c + 1) := aKd (by rw [hlen])
  simp only [kZ, hlt, cond_true, hw, g1, g2, Option.bind_some, n1, n2, s1, g3, s2]
  rw [← List.drop_eq_getElem_cons hcl]
  exact ih k c (by omega) (by omega) (by omega) (by omega)
def nR (x : aG) (T : List aG) : Nat := T.findIdx fun y => decide (cS x < cS y)
theorem aJq (x : aG) (T : List aG) : nR x T ≤ T.length := List.findIdx_le_length
theorem zM {x : aG} {T : List aG} (hs : T.Pairwise fun x y => cS x < cS y) {k : Nat} (hk : k < T.length) : cS x < cS T[k] ↔ nR x T ≤ k := by
 constructor
 ·intro h
  refine Nat.le_of_not_lt fun hl => ?_
  have := List.not_of_lt_findIdx (p := fun y => decide (cS x < cS y)) (xs := T) (i := k) hl
  simp at this
  omega
 ·intro h
  have hl : nR x T < T.length := by omega
  have := List.findIdx_getElem (p := fun y => decide (cS x < cS y)) (xs := T) (w := hl)
  simp only [decide_eq_true_eq] at this
  rcases Nat.lt_or_eq_of_le h with h2 | h2
  ·have h3 := (List.pairwise_iff_getElem.1 hs) _ _ hl hk h2
   exact Int.lt_trans this h3
  ·have e : T[nR x T]'hl = T[k] := by congr 1
   unfold nR at e
   rw [e] at this
   exact this
theorem aVm {x y : aG} (hx : bN x) (hy : bN y) : (decide (x.Hour < y.Hour) || (decide (x.Hour = y.Hour) && decide (x.Id < y.Id))) = decide (cS x < cS y) := by
 obtain ⟨a1, a2, a3, a4⟩ := hx
 obtain ⟨b1, b2, b3, b4⟩ := hy
 unfold cS
 rw [Bool.eq_iff_iff]
 simp only [Bool.or_eq_true, Bool.and_eq_true, decide_eq_true_eq]
 omega
theorem aRp (again : Int → List aG → Option (List aG)) (l : List aG) (i : Nat) (hi : i < l.length) (T : List aG) (hT : T.length ≤ 100) (hb : ∀ y ∈ T, bN y) (hx : bN l[i]) (hs : T.Pairwise fun x y => cS x < cS y) : ∀ (j k : Nat), j ≤ T.length → j < k →
  jF again l (i : Int) T k ((max j (nR l[i] T) : Nat) : Int) ((T.drop j).contains l[i]) ((j : Int) - 1) =
   qA again l (i : Int) ((nR l[i] T : Nat) : Int) (T.contains l[i]) T := by
 intro j
 induction j with
 | zero =>
  intro k hj hk
  obtain ⟨k, rfl⟩ : ∃ q, k = q + 1 := ⟨k - 1, by omega⟩
  simp [jF]
 | succ j ih =>
  intro k hj hk
  obtain ⟨k, rfl⟩ : ∃ q, k = q + 1 := ⟨k - 1, by omega⟩
  have hjl : j < T.length := by omega
  have e0 : (((j + 1 : Nat) : Int) - 1) = (j : Int) := by omega
  have hw : w64 ((j : Int) - 1) = (j : Int) - 1 := cR (by omega) (by omega)
  have hge : decide ((0 : Int) ≤ (j : Int)) = true := decide_eq_true (by omega)
  have hd : T.drop j = T[j] :: T.drop (j + 1) := List.drop_eq_getElem_cons hjl
  have hc : (T.drop j).contains l[i] = ((T.drop (j + 1)).contains l[i] || decide (T[j] = l[i])) := by
   rw [hd, List.contains_cons, Bool.or_comm]
   congr 1
   rw [Bool.eq_iff_iff, beq_iff_eq, decide_eq_true_eq]
   exact eq_comm
  have hcm := aVm hx (hb T[j] (List.getElem_mem hjl))
  have hlt := zM (x := l[i]) hs hjl
  rw [e0]
  simp only [jF, hge, cond_true, cV hjl, cV hi, Option.bind_some, lE, jQ, hw]
  rw [hcm]
  have := ih k (by omega) (by omega)
  rw [hc] at this
  by_cases hle : nR l[i] T ≤ j
  ·rw [decide_eq_true (hlt.2 hle), cond_true]
   rw [show max j (nR l[i] T) = j by omega] at this
   exact this
  ·rw [decide_eq_false (fun h => hle (hlt.1 h)), cond_false]
   rw [show max j (nR l[i] T) = max (j + 1) (nR l[i] T) by omega] at this
   exact this
def uF (x : aG) (T : List aG) : List aG := bif T.contains x then T else T.take (nR x T) ++ x :: T.drop (nR x T)
theorem aDi {x y : aG} {T : List aG} : y ∈ uF x T ↔ y = x ∨ y ∈ T := by
 unfold uF
 cases h : T.contains x with
 | true =>
  simp only [cond_true]
  have : x ∈ T := by simpa using h
  constructor
  ·exact .inr
  ·rintro (rfl | h)
   ·exact this
   ·exact h
 | false =>
  simp only [cond_false, List.mem_append, List.mem_cons]
  have : y ∈ T ↔ y ∈ T.take (nR x T) ∨ y ∈ T.drop (nR x T) := by rw [← List.mem_append, List.take_append_drop]
  rw [this]
  constructor
  ·rintro (h | h | h)
   ·exact .inr (.inl h)
   ·exact .inl h
   ·exact .inr (.inr h)
  ·rintro (h | h | h)
   ·exact .inr (.inl h)
   ·exact .inl h
   ·exact .inr (.inr h)
theorem aCr {x : aG} {T : List aG} (hs : T.Pairwise fun x y => cS x < cS y) (hk : ∀ y ∈ T, cS y = cS x → y = x) : (uF x T).Pairwise fun x y => cS x < cS y := by
 unfold uF
 cases h : T.contains x with
 | true => exact hs
 | false =>
  simp only [cond_false]
  have hx : x ∉ T := by simpa using h
  rw [List.pairwise_append, List.pairwise_cons]
  refine ⟨hs.sublist (List.take_sublist _ _), ⟨fun y hy => ?_, hs.sublist (List.drop_sublist _ _)⟩, fun a ha b hb => ?_⟩
  ·obtain ⟨j, hj, rfl⟩ := List.getElem_of_mem hy
   simp only [List.length_drop] at hj
   rw [List.getElem_drop]
   exact (zM hs (by omega)).2 (by omega)
  ·obtain ⟨j, hj, rfl⟩ := List.getElem_of_mem ha
   simp only [List.length_take] at hj
   rw [List.getElem_take]
   have hjT : j < T.length := by omega
   have hax : cS T[j] < cS x := by
    have h1 : ¬ cS x < cS T[j] := fun h => by have := (zM hs hjT).1 h; omega
    have h2 : cS T[j] ≠ cS x := fun h => hx (hk _ (List.getElem_mem hjT) h ▸ List.getElem_mem hjT)
    omega
   rcases List.mem_cons.1 hb with rfl | hb
   ·exact hax
   ·obtain ⟨q, hq, rfl⟩ := List.getElem_of_mem hb
    simp only [List.length_drop] at hq
    rw [List.getElem_drop]
    exact Int.lt_trans hax ((zM hs (by omega)).2 (by omega))
theorem aUf {l : List aG} (hlen : l.length ≤ 60) (hb : ∀ x ∈ l, bN x) (hid : ∀ x ∈ l, ∀ y ∈ l, x.Id = y.Id → x = y) : sJ l = some (cN l) := by
 have key := kB (fY l) l.length (fun i T => some ((l.drop i).foldl (fun T x => uF x T) T))
  (fun i T => T.length ≤ i ∧ (∀ y ∈ T, y ∈ l) ∧ T.Pairwise fun x y => cS x < cS y) (fun k i T hi hI ih => ?_) (fun k T hI => ?_) BIG [] (dC (by omega)) ⟨by simp, by simp, .nil⟩
 ·unfold sJ
  rw [key]
  congr 1
  have fold : ∀ (xs T : List aG), (∀ y ∈ xs, y ∈ l) → (∀ y ∈ T, y ∈ l) → (T.Pairwise fun x y => cS x < cS y) → (∀ y, y ∈ xs.foldl (fun T x => uF x T) T ↔ y ∈ T ∨ y ∈ xs) ∧ (xs.foldl (fun T x => uF x T) T).Pairwise fun x y => cS x < cS y := by
   intro xs
   induction xs with
   | nil => intro T _ _ hs; exact ⟨fun y => by simp, hs⟩
   | cons x xs ih =>
    intro T hx hT hs
    have hxl := hx x (by simp)
    obtain ⟨h1, h2⟩ := ih (uF x T) (fun y hy => hx y (by simp [hy])) (fun y hy => by
     rcases aDi.1 hy with rfl | h
     ·exact hxl
     ·exact hT y h) (aCr hs fun y hy he => hid y (hT y hy) x hxl (zG (hb y (hT y hy)) (hb x hxl) he))
    refine ⟨fun y => ?_, h2⟩
    rw [List.foldl_cons, h1, aDi, List.mem_cons]
    constructor
    ·rintro ((h | h) | h)
     ·exact .inr (.inl h)
     ·exact .inl h
     ·exact .inr (.inr h)
    ·rintro (h | h | h)
     ·exact .inl (.inr h)
     ·exact .inl (.inl h)
     ·exact .inr h
  obtain ⟨h1, h2⟩ := fold (l.drop 0) [] (by simp) (by simp) .nil
  exact jN h2 (jP hb hid) fun y => by rw [h1, dR]; simp
 ·obtain ⟨hI1, hI2, hI3⟩ := hI
  have hxl : l[i] ∈ l := List.getElem_mem hi
  have hTb : ∀ y ∈ T, bN y := fun y hy => hb y (hI2 y hy)
  have hw : w64 ((T.length : Int) - 1) = (T.length : Int) - 1 := cR (by omega) (by omega)
  simp only [fY, show decide ((i : Int) < (l.length : Int)) = true by simpa using hi, cond_true]
  have hL2 := aRp (fY l k) l i hi T (by omega) hTb (hb _ hxl) hI3 T.length BIG (Nat.le_refl _) (dC (by omega))
  rw [show max T.length (nR l[i] T) = T.length by have := aJq l[i] T; omega, show (T.drop T.length).contains l[i] = false by simp] at hL2
  rw [hw, hL2]
  have hnext : fY l k ((i + 1 : Nat) : Int) (uF l[i] T) = some ((l.drop (i + 1)).foldl (fun T x => uF x T) (uF l[i] T)) := by
   refine ih _ ⟨?_, fun y hy => ?_, aCr hI3 fun y hy he => hid y (hI2 y hy) _ hxl (zG (hTb y hy) (hb _ hxl) he)⟩
   ·unfold uF
    cases T.contains l[i] with
    | true => simp only [cond_true]; omega
    | false => simp only [cond_false, List.length_append, List.length_cons, List.length_take, List.length_drop]; omega
   ·rcases aDi.1 hy with rfl | h
    ·exact hxl
    ·exact hI2 y h
  rw [List.drop_eq_getElem_cons hi, List.foldl_cons, ← hnext]
  unfold qA nE uF
  cases hc : T.contains l[i] with
  | true => simp only [cond_true]; rw [bU (by omega)]
  | false =>
   simp only [cond_false, cV hi, Option.bind_some]
   rw [eN (by simp; omega)]
   simp only [Option.bind_some]
   have hw2 : w64 (((T ++ [l[i]]).length : Int) - 1) = (T.length : Int) := by rw [cR (by simp only [List.length_append, List.length_cons, List.length_nil]; omega) (by simp only [List.length_append, List.length_cons, List.length_nil]; omega)]; simp
   rw [hw2]
   have h4 := aRq (fY l k) l i T l[i] (nR l[i] T) (by omega) _ BIG T.length rfl (aJq _ _) (Nat.le_refl _) (dC (by omega))
   rw [List.take_length, List.drop_length] at h4
   rw [h4, bU (by omega)]
 ·simp [fY, tS]
end Go.Am
end
section
namespace Go.Am
def fA {α : Type} (p : α → Bool) (l : List α) : Int := if l.findIdx p < l.length then (l.findIdx p : Int) else -1
theorem aAp {α : Type} (p : α → Bool) (l : List α) : decide (0 ≤ fA p l) = l.any p := by
 unfold fA
 split
 ·rename_i h
  have : l.any p = true := List.any_eq_true.2 ⟨_, List.getElem_mem h, List.findIdx_getElem (w := h)⟩
  rw [this]; simp
 ·rename_i h
  have : l.any p = false := by
   rw [Bool.eq_false_iff]
   intro hn
   obtain ⟨x, hx, hp⟩ := List.any_eq_true.1 hn
   exact h (List.findIdx_lt_length_of_exists ⟨x, hx, hp⟩)
  rw [this]; simp
theorem aAq {α : Type} (F : Nat → Int → Option Int) (l : List α) (p : α → Bool) (h1 : ∀ k i (hi : i < l.length), F (k + 1) (i : Nat) = bif p l[i] then some (i : Int) else F k ((i + 1 : Nat) : Int)) (h2 : ∀ k, F (k + 1) (l.length : Nat) = some (-1)) :
  ∀ k, l.length < k → F k 0 = some (fA p l) := by
 have main : ∀ d i k, l.length - i = d → d < k → i ≤ l.length → (∀ j (hj : j < l.length), j < i → p l[j] = false) → F k (i : Nat) = some (fA p l) := by
  intro d
  induction d with
  | zero =>
   intro i k hd hk hi hno
   obtain ⟨k, rfl⟩ : ∃ q, k = q + 1 := ⟨k - 1, by omega⟩
   have : i = l.length := by omega
   subst this
   have he : ¬ l.findIdx p < l.length := fun h => by
    have := hno _ h h
    rw [List.findIdx_getElem (w := h)] at this
    cases this
   rw [h2, fA, if_neg he]
  | succ d ih =>
   intro i k hd hk hi hno
   obtain ⟨k, rfl⟩ : ∃ q, k = q + 1 := ⟨k - 1, by omega⟩
   have hil : i < l.length := by omega
   rw [h1 k i hil]
   cases hp : p l[i] with
   | true =>
    have he : l.findIdx p = i := by
     rw [List.findIdx_eq hil]
     exact ⟨hp, fun j hj => hno j (by omega) hj⟩
    rw [cond_true, fA, he, if_pos hil]
   | false =>
    rw [cond_false]
    exact ih (i + 1) k (by omega) (by omega) (by omega) fun j hj hji => by
     rcases Nat.lt_or_eq_of_le (Nat.le_of_lt_succ hji) with h | h
     ·exact hno j hj h
     ·subst h; exact hp
 intro k hk
 exact main _ 0 k rfl (by omega) (Nat.zero_le _) fun j _ h => by omega
section del
theorem aIw (l : List Int) (f : Int → Option Bool) (p : Int → Bool) (h : ∀ x ∈ l, f x = some (p x)) (hb : l.length ≤ 1000000) : gQ l f = some (fA p l) := by
 unfold gQ
 refine aAq (fun k i => fJ l f (l.length : Int) k i) l p (fun k i hi => ?_) (fun k => ?_) BIG (dC (by omega))
 ·have hlt : decide ((i : Int) < (l.length : Int)) = true := decide_eq_true (by omega)
  simp only [fJ, hlt, cond_true, cV hi, Option.bind_some, h _ (List.getElem_mem hi), bU (show i < 9223372036854775807 by omega)]
 ·have hlt : decide ((l.length : Int) < (l.length : Int)) = false := decide_eq_false (by omega)
  simp only [fJ, hlt, cond_false, nJ]
theorem aKn (f : Int → Option Bool) (p : Int → Bool) : ∀ (t W X : List Int) (k : Nat), (∀ x ∈ t, f x = some (p x)) → 0 < X.length → (W ++ X ++ t).length ≤ 1000000 → t.length < k →
  eI f k (W.length : Nat) ((W.length + X.length : Nat) : Int) (W ++ X ++ t) = some (W ++ t.filter fun x => !p x) := by
 intro t
 induction t with
 | nil =>
  intro W X k hf hX hb hk
  obtain ⟨k, rfl⟩ : ∃ q, k = q + 1 := ⟨k - 1, by omega⟩
  simp only [List.length_append, List.length_nil] at hb
  have hlt : decide (((W.length + X.length : Nat) : Int) < ((W ++ X ++ []).length : Int)) = false := decide_eq_false (by simp)
  have t1 : ((W.length : Nat) : Int).toNat = W.length := rfl
  have c1 : (decide ((0 : Int) ≤ (W.length : Int)) && decide ((W.length : Int) ≤ ((W ++ X ++ []).length : Int))) = true := by simp; omega
  have c2 : decide (W.length ≤ (W ++ X ++ []).length) = true := by simp
  have c3 : decide ((0 : Int) ≤ (W.length : Int)) = true := by simp
  simp only [eI, hlt, cond_false, mY]
  rw [c1, t1, c2, c3]
  simp [chk]
 | cons y t ih =>
  intro W X k hf hX hb hk
  obtain ⟨k, rfl⟩ : ∃ q, k = q + 1 := ⟨k - 1, by omega⟩
  simp only [List.length_append, List.length_cons] at hb hk
  have hlt : decide (((W.length + X.length : Nat) : Int) < ((W ++ X ++ y :: t).length : Int)) = true := decide_eq_true (by simp; omega)
  have i1 : idx (W ++ X ++ y :: t) ((W.length + X.length : Nat) : Int) = some y := jZ (by simp)
  have hf1 := hf y (by simp)
  have hf2 : ∀ x ∈ t, f x = some (p x) := fun x hx => hf x (List.mem_cons_of_mem _ hx)
  have t1 : ((W.length : Nat) : Int).toNat = W.length := rfl
  simp only [eI, hlt, cond_true, i1, hf1, Option.bind_some, bU (show W.length + X.length < 9223372036854775807 by omega)]
  cases hp : p y with
  | true =>
   simp only [Bool.not_true, cond_false]
   have := ih W (X ++ [y]) k hf2 (by simp) (by simp; omega) (by omega)
   have e1 : W ++ (X ++ [y]) ++ t = W ++ X ++ y :: t := by simp
   have e2 : W.length + (X ++ [y]).length = W.length + X.length + 1 := by simp; omega
   rw [e1, e2] at this
   rw [this]; simp [hp]
  | false =>
   simp only [Bool.not_false, cond_true]
   match X, hX with
   | x :: X, _ =>
    have i2 : idx (W ++ (x :: X) ++ y :: t) (W.length : Nat) = some x := by
     have : W ++ (x :: X) ++ y :: t = W ++ x :: (X ++ y :: t) := by simp
     rw [this]; exact jZ rfl
    have e3 : (W ++ (x :: X) ++ y :: t).set W.length y = (W ++ [y]) ++ (X ++ [y]) ++ t := by
     have : W ++ (x :: X) ++ y :: t = W ++ x :: (X ++ y :: t) := by simp
     rw [this, aFz rfl]; simp
    rw [i2, Option.bind_some, t1, e3, bU (by omega)]
    have := ih (W ++ [y]) (X ++ [y]) k hf2 (by simp) (by simp at hb ⊢; omega) (by omega)
    have e4 : (W ++ [y]).length = W.length + 1 := by simp
    have e5 : (W ++ [y]).length + (X ++ [y]).length = W.length + (x :: X).length + 1 := by simp; omega
    rw [e5, e4] at this
    rw [this]; simp [hp]
theorem aAj (s : List Int) (f : Int → Option Bool) (p : Int → Bool) (h : ∀ x ∈ s, f x = some (p x)) (hb : s.length ≤ 1000000) : cA s f = some (s.filter fun x => !p x) := by
 unfold cA
 rw [aIw s f p h hb, Option.bind_some]
 unfold fA
 by_cases hl : s.findIdx p < s.length
 ·rw [if_pos hl, decide_eq_false (by omega), cond_false]
  obtain ⟨i, hi⟩ : ∃ i, i = s.findIdx p := ⟨_, rfl⟩
  rw [← hi] at hl ⊢
  have hno : ∀ x ∈ s.take i, (!p x) = true := fun x hx => by
   obtain ⟨j, hj, rfl⟩ := List.getElem_of_mem hx
   simp only [List.length_take] at hj
   rw [List.getElem_take]
   have := List.not_of_lt_findIdx (p := p) (xs := s) (i := j) (by omega)
   simpa using this
  have hyes : p s[i] = true := by
   have := List.findIdx_getElem (p := p) (xs := s) (w := hi ▸ hl)
   simpa [← hi] using this
  have es : s = s.take i ++ [s[i]] ++ s.drop (i + 1) := by
   rw [List.append_assoc, List.singleton_append, ← List.drop_eq_getElem_cons hl, List.take_append_drop]
  have hloop := aKn f p (s.drop (i + 1)) (s.take i) [s[i]] BIG (fun x hx => h x (List.mem_of_mem_drop hx)) (by simp) (by rw [← es]; omega) (dC (by simp; omega))
  have e1 : (s.take i).length = i := by simp; omega
  rw [e1, ← es] at hloop
  rw [bU (by omega)]
  have e2 : i + [s[i]].length = i + 1 := rfl
  rw [e2] at hloop
  rw [hloop]
  congr 1
  conv => rhs; rw [es]
  rw [List.filter_append, List.filter_append, List.filter_eq_self.2 hno]
  simp [hyes]
 ·rw [if_neg hl, decide_eq_true rfl, cond_true]
  congr 1
  symm
  refine List.filter_eq_self.2 fun x hx => ?_
  cases hp : p x with
  | false => rfl
  | true => exact absurd (List.findIdx_lt_length_of_exists ⟨x, hx, hp⟩) hl
end del
theorem aHx (l : List Int) (hl : l.length ≤ 9223372036854775807) (v : Int) : iJ l v = some (match l.findIdx? (fun x => decide (v = x)) with | some i => (i : Int) | none => -1) := by
 unfold iJ
 rw [kB (S := Unit) (fun k i _ => eL l v l.length k i) l.length (fun i _ => some (match (l.drop i).findIdx? (fun x => decide (v = x)) with | some j => ((i + j : Nat) : Int) | none => -1)) (fun _ _ => True) ?_ ?_ BIG () (dC hl) trivial]
 ·simp
 ·intro k i _ hi _ ih
  have := ih () trivial
  simp only [eL, cV hi, Option.bind_some, bU (show i < 9223372036854775807 by omega), Int.ofNat_lt, hi, decide_true, cond_true, this]
  rw [List.drop_eq_getElem_cons hi, List.findIdx?_cons]
  by_cases h : v = l[i]
  ·simp [h]
  ·simp only [h, decide_false, cond_false, Bool.false_eq_true, if_false]
   cases List.findIdx? (fun x => decide (v = x)) (List.drop (i + 1) l) with
   | none => rfl
   | some j => simp; omega
 ·intro k _ _
  simp [eL, nG]
theorem xL (l : List Int) (hl : l.length ≤ 9223372036854775807) (v : Int) : jI l v = some (decide (v ∈ l)) := by
 unfold jI
 rw [aHx l hl v]
 cases h : List.findIdx? (fun x => decide (v = x)) l with
 | none =>
  simp at h
  have : v ∉ l := fun hm => h v hm rfl
  simp [this]
 | some j =>
  have : v ∈ l := by
   obtain ⟨h1, h2, _⟩ := List.findIdx?_eq_some_iff_getElem.1 h
   simp at h2
   rw [h2]; exact List.getElem_mem h1
  simp [this]
theorem aJs (out : List Int) (p : Int) (hb : out.length ≤ 1000000) : iJ out p = some (fA (fun x => decide (p = x)) out) := by
 unfold iJ
 refine aAq (fun k i => eL out p (out.length : Int) k i) out (fun x => decide (p = x)) (fun k i hi => ?_) (fun k => ?_) BIG (dC (by omega))
 ·have hlt : decide ((i : Int) < (out.length : Int)) = true := decide_eq_true (by omega)
  simp only [eL, hlt, cond_true, cV hi, Option.bind_some, bU (show i < 9223372036854775807 by omega)]
 ·have hlt : decide ((out.length : Int) < (out.length : Int)) = false := decide_eq_false (by omega)
  simp only [eL, hlt, cond_false, nG]
theorem aNz (a b : List Int) (ha : a.length ≤ 100000) (hb : b.length ≤ 100000) : mG [a, b] = some (a ++ b) := by
 have e1 : ∀ k s, fR [a, b] 2 (k + 3) 0 s = (app 8 s a).bind fun x => (app 8 x b).bind fun y => some y := by
  intro k s
  have w1 : w64 (0 + 1) = 1 := rfl
  have w2 : w64 (1 + 1) = 2 := rfl
  have i0 : idx [a, b] 0 = some a := rfl
  have i1 : idx [a, b] 1 = some b := rfl
  have c0 : decide ((0 : Int) < 2) = true := rfl
  have c1 : decide ((1 : Int) < 2) = true := rfl
  have c2 : decide ((2 : Int) < 2) = false := rfl
  rw [fR, c0, cond_true, i0, Option.bind_some, w1]
  refine congrArg _ (funext fun x => ?_)
  rw [fR, c1, cond_true, i1, Option.bind_some, w2]
  refine congrArg _ (funext fun y => ?_)
  rw [fR, c2, cond_false]; rfl
 have hB : BIG = (18446744073709551616 - 3) + 3 := rfl
 have hL : (([a, b] : List (List Int)).length : Int) = 2 := rfl
 have g1 : w64 (0 + (a.length : Int)) = a.length := by rw [cR (by omega) (by omega)]; omega
 have g2 : w64 ((a.length : Int) + (b.length : Int)) = ((a.length + b.length : Nat) : Int) := by rw [cR (by omega) (by omega)]; omega
 have hgrow : nS ((a.length + b.length : Nat) : Int) = some [] := by
  unfold nS
  have w0 : w64 (0 - 0) = 0 := rfl
  rw [decide_eq_false (by omega), cond_false, w0, Int.sub_zero, cR (by omega) (by omega)]
  by_cases h0 : (0 : Int) < ((a.length + b.length : Nat) : Int)
  ·have c1 : decide (((a.length + b.length : Nat) : Int) * ((8 : Nat) : Int) ≤ 140737488355328) = true := decide_eq_true (by omega)
   rw [decide_eq_true h0, cond_true, c1]; rfl
  ·rw [decide_eq_false h0, cond_false]
 unfold mG
 rw [hB, hL]
 have w1 : w64 (0 + 1) = 1 := rfl
 have w2 : w64 (1 + 1) = 2 := rfl
 have i0 : idx [a, b] 0 = some a := rfl
 have i1 : idx [a, b] 1 = some b := rfl
 have c0 : decide ((0 : Int) < 2) = true := rfl
 have c1 : decide ((1 : Int) < 2) = true := rfl
 have c2 : decide ((2 : Int) < 2) = false := rfl
 rw [gP, c0, cond_true, i0, Option.bind_some, g1, decide_eq_false (by omega), cond_false, w1, gP, c1, cond_true, i1, Option.bind_some, g2, decide_eq_false (by omega), cond_false, w2, gP, c2, cond_false]
 unfold pF
 rw [hgrow, Option.bind_some, hB, hL, e1, eN (by simp; omega), Option.bind_some, List.nil_append, eN (by omega), Option.bind_some]
end Go.Am
end
section
namespace Go.Am
abbrev zP : aA := aA.mk false false 0 0 false false false false
def pl (l : aH) (n : Int) : aA := aE n zP l.players
structure WF (l : aH) : Prop where
 fd : qG l.Field = true
 keys : (l.players.map Prod.fst).Nodup
 cnt : l.players.length ≤ 60
 ent : 0 ≤ l.entered ∧ l.entered ≤ 60
 mr : 0 ≤ l.more ∧ l.more ≤ 60
 turn : ∀ n, (pl l n).entered = true → 1 ≤ (pl l n).turn ∧ (pl l n).turn ≤ l.entered ∧ 0 ≤ (pl l n).rank ∧ (pl l n).rank ≤ 9999
 inj : ∀ n m, (pl l n).entered = true → (pl l m).entered = true → (pl l n).turn = (pl l m).turn → n = m
theorem aEp {α β : Type} [DecidableEq α] {n : α} {z : β} : ∀ {m : List (α × β)}, n ∉ m.map Prod.fst → aE n z m = z
 | [], _ => rfl
 | (b, v) :: m, h => by
  simp only [List.map_cons, List.mem_cons, not_or] at h
  simp only [aE, h.1, decide_false, cond_false]
  exact aEp h.2
theorem aFo {l : aH} {n : Int} (h : (pl l n).entered = true) : n ∈ l.players.map Prod.fst := by
 refine Classical.byContradiction fun hn => ?_
 unfold pl at h
 rw [aEp hn] at h
 cases h
theorem qU (l : aH) (n : Int) : isE l.players n = ((pl l n).entered && !(pl l n).quit && !(pl l n).had) := rfl
def dQ (l : aH) (n : Int) : Int := (if (pl l n).rank = 0 then 10000 else (pl l n).rank) * 100 + (pl l n).turn
theorem or3 (a b c : Int) : nN [a, b, c] = some (if a ≠ 0 then a else if b ≠ 0 then b else c) := by
 obtain ⟨k, hk⟩ : ∃ k, BIG = k + 1 + 1 + 1 + 1 := ⟨BIG - 4, by unfold BIG; omega⟩
 unfold nN
 rw [show ((([a, b, c] : List Int).length : Nat) : Int) = 3 from rfl, hk]
 simp only [nL, sA, show decide ((0 : Int) < 3) = true from rfl, cond_true, show idx [a, b, c] 0 = some a from rfl, Option.bind_some, show w64 (0 + 1) = 1 from rfl, show decide ((1 : Int) < 3) = true from rfl, show idx [a, b, c] 1 = some b from rfl, show w64 (1 + 1) = 2 from rfl, show decide ((2 : Int) < 3) = true from rfl, show idx [a, b, c] 2 = some c from rfl, show w64 (2 + 1) = 3 from rfl, show decide ((3 : Int) < 3) = false from rfl, cond_false]
 by_cases h : a = 0
 ·subst h
  by_cases h2 : b = 0
  ·subst h2
   by_cases h3 : c = 0
   ·subst h3; simp
   ·simp [h3]
  ·simp [h2]
 ·simp [h]
theorem aTf (p : aA) : gW p = some (if p.rank = 0 then 1 else 0) := by
 unfold gW
 by_cases h : p.rank = 0 <;> simp [h]
theorem aUc {l : aH} (h : WF l) {a b : Int} (ha : (pl l a).entered = true) (hb : (pl l b).entered = true) : ∃ r, eG a b l = some r ∧ (r < 0 ↔ dQ l a < dQ l b) := by
 obtain ⟨a1, a2, a3, a4⟩ := h.turn a ha
 obtain ⟨b1, b2, b3, b4⟩ := h.turn b hb
 have he := h.ent.2
 unfold eG
 rw [show (aE a (aA.mk false false 0 0 false false false false) l.players) = pl l a from rfl, show (aE b (aA.mk false false 0 0 false false false false) l.players) = pl l b from rfl]
 simp only [aTf, Option.bind_some]
 rw [cR (by split <;> split <;> omega) (by split <;> split <;> omega), cR (by omega) (by omega), cR (by omega) (by omega), or3]
 refine ⟨_, rfl, ?_⟩
 unfold dQ
 by_cases h1 : (pl l a).rank = 0 <;> by_cases h2 : (pl l b).rank = 0 <;> simp only [h1, h2, if_true, if_false] <;> (repeat' split) <;> constructor <;> intro h3 <;> omega
theorem ltE {l : aH} (h : WF l) {a b : Int} (ha : (pl l a).entered = true) (hb : (pl l b).entered = true) : ltO (fun a b => eG a b l) a b = decide (dQ l a < dQ l b) := by
 obtain ⟨r, h1, h2⟩ := aUc h ha hb
 unfold ltO
 simp only [h1]
 rw [Bool.eq_iff_iff]
 simpa using h2
theorem zF {l : aH} (h : WF l) {a b : Int} (ha : (pl l a).entered = true) (hb : (pl l b).entered = true) (he : dQ l a = dQ l b) : a = b := by
 obtain ⟨a1, a2, a3, a4⟩ := h.turn a ha
 obtain ⟨b1, b2, b3, b4⟩ := h.turn b hb
 have he2 := h.ent.2
 refine h.inj a b ha hb ?_
 unfold dQ at he
 split at he <;> split at he <;> omega
def qY (l : aH) : List Int := (l.players.filter fun p => isE l.players p.1).map Prod.fst
def bF (l : aH) : List Int := dT (fun a b => eG a b l) (qY l)
theorem zN {l : aH} {n : Int} : n ∈ qY l ↔ isE l.players n = true := by
 unfold qY
 constructor
 ·intro h
  obtain ⟨p, hp, rfl⟩ := List.mem_map.1 h
  exact (List.mem_filter.1 hp).2
 ·intro h
  have he : (pl l n).entered = true := by
   rw [qU] at h
   simp only [Bool.and_eq_true] at h
   exact h.1.1
  obtain ⟨p, hp, rfl⟩ := List.mem_map.1 (aFo he)
  exact List.mem_map.2 ⟨p, List.mem_filter.2 ⟨hp, h⟩, rfl⟩
theorem xD {l : aH} {n : Int} (h : n ∈ qY l) : (pl l n).entered = true := by
 have := zN.1 h
 rw [qU] at this
 simp only [Bool.and_eq_true] at this
 exact this.1.1
theorem aLx {l : aH} (h : WF l) : sE (qY l) (fun a b => eG a b l) = true := by
 unfold sE
 simp only [List.all_eq_true, Bool.and_eq_true, Bool.or_eq_true, Bool.not_eq_true', decide_eq_true_eq]
 intro x hx
 have ex := xD hx
 refine ⟨by rw [ltE h ex ex]; simp, fun y hy => ?_⟩
 have ey := xD hy
 refine ⟨⟨?_, ?_⟩, fun z hz => ?_⟩
 ·obtain ⟨r, h1, _⟩ := aUc h ex ey
  simp [h1]
 ·rw [ltE h ex ey, ltE h ey ex]
  simp only [decide_eq_true_eq]
  rcases Int.lt_trichotomy (dQ l x) (dQ l y) with h1 | h1 | h1
  ·exact .inl (.inr h1)
  ·exact .inl (.inl (zF h ex ey h1))
  ·exact .inr h1
 ·have ez := xD hz
  rw [ltE h ex ey, ltE h ey ez, ltE h ex ez]
  simp only [Bool.and_eq_false_iff, decide_eq_false_iff_not, decide_eq_true_eq]
  omega
theorem sZ {l : aH} (h : WF l) : eY l = some (bF l) := by
 have e1 : (fun p : Int × aA => (fP l.players p.1).getD false) = fun p => isE l.players p.1 := by
  funext p
  rw [vW]; rfl
 have hc := h.cnt
 have hl : (qY l).length ≤ 60 := by
  unfold qY
  rw [List.length_map]
  exact Nat.le_trans (List.length_filter_le _ _) hc
 unfold eY
 rw [if_pos (by omega), e1]
 unfold sG
 rw [if_pos ⟨aLx h, by show (qY l).length < _; omega⟩]
 rfl
theorem gF {l : aH} {n : Int} : n ∈ bF l ↔ isE l.players n = true := by
 unfold bF
 rw [(iL _ _).mem_iff]
 exact zN
theorem kF {l : aH} (h : WF l) : (bF l).length ≤ 60 := by
 unfold bF
 rw [(iL _ _).length_eq]
 unfold qY
 rw [List.length_map]
 exact Nat.le_trans (List.length_filter_le _ _) h.cnt
theorem aIj {l : aH} {n : Int} (h : n ∈ bF l) : (pl l n).entered = true := xD (zN.2 (gF.1 h))
theorem nW {l : aH} (h : WF l) : (bF l).Pairwise fun a b => dQ l a < dQ l b := by
 have hs := sF (aLx h)
 have hn : (bF l).Nodup := by
  refine (iL _ _).nodup_iff.2 ?_
  unfold qY
  refine List.Nodup.sublist ?_ h.keys
  exact (List.filter_sublist).map _
 refine List.Pairwise.imp_of_mem (fun {a b} ha hb hab => ?_) (hs.and hn)
 have ea := aIj (l := l) ha
 have eb := aIj (l := l) hb
 rw [ltE h eb ea] at hab
 have h1 := hab.1
 simp at h1
 rcases Int.lt_or_eq_of_le h1 with h2 | h2
 ·exact h2
 ·exact absurd (zF h ea eb h2) hab.2
theorem jK {l : aH} (h : WF l) : (bF l).Nodup := (nW h).imp fun {a b} hab e => by subst e; omega
def gd (l : aH) (xs : List Int) : Nat := (xs.filter fun n => (pl l n).guard).length
theorem aAx (l : aH) (xs : List Int) (hb : xs.length ≤ 1000) : iU l xs = some ((gd l xs : Nat) : Int) := by
 have key := kB (S := Int) (fun k i s => fO l xs (xs.length : Int) k s i) xs.length (fun i s => some (s + ((gd l (xs.drop i) : Nat) : Int))) (fun i s => 0 ≤ s ∧ s ≤ i) (fun k i s hi hI ih => ?_) (fun k s hI => ?_) BIG 0 (dC (by omega)) ⟨Int.le_refl _, Int.le_refl _⟩
 ·unfold iU
  rw [key]
  simp
 ·have hlt : decide ((i : Int) < (xs.length : Int)) = true := decide_eq_true (by omega)
  simp only [fO, hlt, cond_true, cV hi, Option.bind_some, bU (show i < 9223372036854775807 by omega)]
  rw [show (aE xs[i] (aA.mk false false 0 0 false false false false) l.players) = pl l xs[i] from rfl]
  have hd : gd l (xs.drop i) = (if (pl l xs[i]).guard then 1 else 0) + gd l (xs.drop (i + 1)) := by
   unfold gd
   rw [List.drop_eq_getElem_cons hi, List.filter_cons]
   split <;> simp <;> omega
  rw [hd]
  cases (pl l xs[i]).guard with
  | true =>
   simp only [cond_true, if_true]
   rw [cR (by omega) (by omega), ih _ ⟨by omega, by omega⟩]
   congr 1
   omega
  | false =>
   simp only [cond_false, Bool.false_eq_true, if_false]
   rw [ih _ ⟨by omega, by omega⟩]
   congr 1
   omega
 ·simp [fO, oZ, gd]
def plc (l : aH) : Int := l.Field.Places + l.more
theorem qX {l : aH} (h : WF l) : eO l = some (plc l) := by
 have hf := h.fd
 unfold qG at hf
 simp only [Bool.and_eq_true, rZ] at hf
 have hm := h.mr
 unfold eO plc
 rw [cR (by omega) (by omega)]
def qF (l : aH) (acc : List Int) : List Int → List Int
 | [] => acc
 | n :: t => qF l (bif decide ((acc.length : Int) < plc l) && (!(pl l n).guard || decide (((gd l acc : Nat) : Int) < l.Field.Guards)) then acc ++ [n] else acc) t
theorem aDj (l : aH) : ∀ (t acc : List Int), (qF l acc t).length ≤ acc.length + t.length
 | [], acc => by simp [qF]
 | n :: t, acc => by
  refine Nat.le_trans (aDj l t _) ?_
  cases decide ((acc.length : Int) < plc l) && (!(pl l n).guard || decide (((gd l acc : Nat) : Int) < l.Field.Guards)) <;> simp <;> omega
def kA (l : aH) : List Int := qF l [] (bF l)
theorem aHa {l : aH} (h : WF l) : kQ l = some (kA l) := by
 have hl := kF h
 unfold kQ kA
 rw [sZ h]
 simp only [Option.bind_some]
 have key := kB (fQ l (bF l) ((bF l).length : Int)) (bF l).length (fun i acc => some (qF l acc ((bF l).drop i))) (fun i acc => acc.length ≤ i) (fun k i acc hi hI ih => ?_) (fun k acc hI => ?_) BIG [] (dC (by omega)) (Nat.le_refl _)
 ·rw [key]; simp
 ·have hlt : decide ((i : Int) < ((bF l).length : Int)) = true := decide_eq_true (by omega)
  simp only [fQ, hlt, cond_true, cV hi, Option.bind_some, qX h, bU (show i < 9223372036854775807 by omega)]
  rw [show (aE (bF l)[i] (aA.mk false false 0 0 false false false false) l.players) = pl l (bF l)[i] from rfl, aAx l acc (by omega)]
  simp only [Option.bind_some, lE, jQ]
  rw [List.drop_eq_getElem_cons hi, qF]
  cases hc : decide ((acc.length : Int) < plc l) && (!(pl l (bF l)[i]).guard || decide (((gd l acc : Nat) : Int) < l.Field.Guards)) with
  | true =>
   simp only [cond_true]
   rw [eN (by simp; omega), Option.bind_some, ih _ (by simp; omega)]
  | false =>
   simp only [cond_false]
   rw [ih _ (by omega)]
 ·simp [fQ, pA, qF]
def aW (l : aH) : List Int := bif l.frozen then l.first ++ l.late else kA l
theorem aFr {l : aH} (h : WF l) (hf : l.first.length ≤ 1000) (hl : l.late.length ≤ 1000) : dY l = some (aW l) := by
 unfold dY aW
 cases l.frozen with
 | true =>
  simp only [Bool.not_true, cond_false, cond_true]
  rw [aNz _ _ (by omega) (by omega)]; rfl
 | false =>
  simp only [Bool.not_false, cond_true, cond_false]
  rw [aHa h]; rfl
def cC (l : aH) : aH := bif l.frozen then l else { l with frozen := true, first := kA l }
theorem aGx {l : aH} (h : WF l) : kP l = some (cC l) := by
 unfold kP cC
 cases hz : l.frozen with
 | true => simp
 | false =>
  simp only [Bool.not_false, cond_true, cond_false]
  rw [aHa h]; rfl
end Go.Am
end
section
namespace Go.Am
theorem aBg (l : aH) (n : Int) : aE n (aA.mk false false 0 0 false false false false) l.players = pl l n := rfl
def bC (l : aH) (x : aG) : aH :=
 let p := pl l x.Player
 bif decide (x.Kind = 1) || decide (x.Kind = 2) then
  bif decide (x.Hour ≤ l.Field.Close) && !p.entered then
   aH.mk l.Field (bY x.Player (aA.mk true (decide (x.Kind = 2)) x.Rank (l.entered + 1) p.quit p.signed p.wild p.had) l.players) l.wilds l.frozen l.first l.late l.more (l.entered + 1)
  else aH.mk l.Field (bY x.Player p l.players) l.wilds l.frozen l.first l.late l.more l.entered
 else bif decide (x.Kind = 3) then
  bif ((decide (x.Hour ≤ l.Field.Freeze) && !p.wild) && !p.quit) && decide ((l.wilds.length : Int) < l.Field.Wilds) then
   aH.mk l.Field (bY x.Player (aA.mk p.entered p.guard p.rank p.turn p.quit p.signed true true) l.players) (l.wilds ++ [x.Player]) l.frozen l.first l.late l.more l.entered
  else aH.mk l.Field (bY x.Player p l.players) l.wilds l.frozen l.first l.late l.more l.entered
 else bif decide (x.Kind = 4) then
  aH.mk l.Field (bY x.Player (aA.mk p.entered p.guard p.rank p.turn true p.signed false p.had) l.players) (l.wilds.filter fun m => !decide (m = x.Player)) l.frozen l.first l.late
   (bif p.wild && decide (l.Field.Freeze < x.Hour) then l.more + 1 else l.more) l.entered
 else bif decide (x.Kind = 5) then
  aH.mk l.Field (bY x.Player (aA.mk p.entered p.guard p.rank p.turn p.quit true p.wild p.had) l.players) l.wilds l.frozen l.first l.late l.more l.entered
 else aH.mk l.Field (bY x.Player p l.players) l.wilds l.frozen l.first l.late l.more l.entered
theorem aTq (l : aH) (x : aG) (he : 0 ≤ l.entered ∧ l.entered ≤ 60) (hm : 0 ≤ l.more ∧ l.more ≤ 60) (hw : l.wilds.length ≤ 1000) : kH l x = some (bC l x) := by
 have hd : cA l.wilds (fun y => eP y x) = some (l.wilds.filter fun m => !decide (m = x.Player)) := aAj l.wilds _ (fun m => decide (m = x.Player)) (fun m _ => rfl) (by omega)
 have ha : app 8 l.wilds [x.Player] = some (l.wilds ++ [x.Player]) := eN (by simp; omega)
 have w1 : w64 (l.entered + 1) = l.entered + 1 := cR (by omega) (by omega)
 have w2 : w64 (l.more + 1) = l.more + 1 := cR (by omega) (by omega)
 unfold kH bC
 simp only [aBg, jQ, Option.bind_some, hd, ha, w1, w2]
 by_cases h1 : x.Kind = 1
 ·simp only [h1, decide_true, cond_true, Bool.true_or]
  cases decide (x.Hour ≤ l.Field.Close) && !(pl l x.Player).entered <;> rfl
 ·by_cases h2 : x.Kind = 2
  ·simp only [h2, decide_true, cond_true, Bool.or_true, show decide ((2 : Int) = 1) = false from rfl, cond_false]
   cases decide (x.Hour ≤ l.Field.Close) && !(pl l x.Player).entered <;> rfl
  ·have e1 : decide (x.Kind = 1) = false := decide_eq_false h1
   have e2 : decide (x.Kind = 2) = false := decide_eq_false h2
   simp only [e1, e2, cond_false, Bool.or_self]
   cases decide (x.Kind = 3) with
   | true =>
    simp only [cond_true]
    cases ((decide (x.Hour ≤ l.Field.Freeze) && !(pl l x.Player).wild) && !(pl l x.Player).quit) && decide ((l.wilds.length : Int) < l.Field.Wilds) <;> rfl
   | false =>
    simp only [cond_false]
    cases decide (x.Kind = 4) with
    | true =>
     simp only [cond_true]
     cases (pl l x.Player).wild && decide (l.Field.Freeze < x.Hour) <;> rfl
    | false =>
     simp only [cond_false]
     cases decide (x.Kind = 5) <;> rfl
theorem aBd {α β : Type} [DecidableEq α] (a : α) (v : β) : ∀ m : List (α × β), (bY a v m).map Prod.fst = if a ∈ m.map Prod.fst then m.map Prod.fst else m.map Prod.fst ++ [a]
 | [] => rfl
 | (b, u) :: m => by
  simp only [bY]
  by_cases h : a = b
  ·subst h; simp
  ·simp only [h, decide_false, cond_false, List.map_cons, aBd a v m, List.mem_cons, false_or]
   split <;> simp
theorem aMv {α β : Type} [DecidableEq α] {a : α} {v : β} {m : List (α × β)} (h : (m.map Prod.fst).Nodup) : ((bY a v m).map Prod.fst).Nodup := by
 rw [aBd]
 split
 ·exact h
 ·rename_i hn
  rw [List.nodup_append]
  exact ⟨h, by simp, fun x hx y hy => by simp at hy; subst hy; exact fun e => hn (e ▸ hx)⟩
theorem aRa {α β : Type} [DecidableEq α] (a : α) (v : β) (m : List (α × β)) : (bY a v m).length ≤ m.length + 1 := by
 have := congrArg List.length (aBd a v m)
 rw [List.length_map] at this
 rw [this]
 split <;> simp
structure Cn (l : aH) (i : Nat) : Prop where
 pls : l.players.length ≤ i
 ent : l.entered ≤ i
 mr : l.more ≤ i
 wl : l.wilds.length ≤ i
def upP (l : aH) (x : aG) : aA :=
 let p := pl l x.Player
 bif decide (x.Kind = 1) || decide (x.Kind = 2) then
  bif decide (x.Hour ≤ l.Field.Close) && !p.entered then aA.mk true (decide (x.Kind = 2)) x.Rank (l.entered + 1) p.quit p.signed p.wild p.had else p
 else bif decide (x.Kind = 3) then
  bif ((decide (x.Hour ≤ l.Field.Freeze) && !p.wild) && !p.quit) && decide ((l.wilds.length : Int) < l.Field.Wilds) then aA.mk p.entered p.guard p.rank p.turn p.quit p.signed true true else p
 else bif decide (x.Kind = 4) then aA.mk p.entered p.guard p.rank p.turn true p.signed false p.had
 else bif decide (x.Kind = 5) then aA.mk p.entered p.guard p.rank p.turn p.quit true p.wild p.had
 else p
theorem rG (l : aH) (x : aG) : (bC l x).players = bY x.Player (upP l x) l.players := by
 unfold bC upP
 cases decide (x.Kind = 1) || decide (x.Kind = 2) with
 | true => simp only [cond_true]; cases decide (x.Hour ≤ l.Field.Close) && !(pl l x.Player).entered <;> rfl
 | false =>
  simp only [cond_false]
  cases decide (x.Kind = 3) with
  | true => simp only [cond_true]; cases ((decide (x.Hour ≤ l.Field.Freeze) && !(pl l x.Player).wild) && !(pl l x.Player).quit) && decide ((l.wilds.length : Int) < l.Field.Wilds) <;> rfl
  | false =>
   simp only [cond_false]
   cases decide (x.Kind = 4) with
   | true => rfl
   | false => simp only [cond_false]; cases decide (x.Kind = 5) <;> rfl
theorem lX (l : aH) (x : aG) (n : Int) : pl (bC l x) n = bif decide (n = x.Player) then upP l x else pl l n := by
 unfold pl
 rw [rG, oP]
theorem jO (l : aH) (x : aG) : (bC l x).Field = l.Field ∧ (bC l x).frozen = l.frozen ∧ (bC l x).first = l.first ∧ (bC l x).late = l.late := by
 unfold bC
 cases decide (x.Kind = 1) || decide (x.Kind = 2) with
 | true => simp only [cond_true]; cases decide (x.Hour ≤ l.Field.Close) && !(pl l x.Player).entered <;> exact ⟨rfl, rfl, rfl, rfl⟩
 | false =>
  simp only [cond_false]
  cases decide (x.Kind = 3) with
  | true => simp only [cond_true]; cases ((decide (x.Hour ≤ l.Field.Freeze) && !(pl l x.Player).wild) && !(pl l x.Player).quit) && decide ((l.wilds.length : Int) < l.Field.Wilds) <;> exact ⟨rfl, rfl, rfl, rfl⟩
  | false =>
   simp only [cond_false]
   cases decide (x.Kind = 4) with
   | true => exact ⟨rfl, rfl, rfl, rfl⟩
   | false => simp only [cond_false]; cases decide (x.Kind = 5) <;> exact ⟨rfl, rfl, rfl, rfl⟩
def pK (l : aH) (x : aG) : Bool := (decide (x.Kind = 1) || decide (x.Kind = 2)) && (decide (x.Hour ≤ l.Field.Close) && !(pl l x.Player).entered)
theorem aBq (l : aH) (x : aG) : (bC l x).entered = (bif pK l x then l.entered + 1 else l.entered) ∧
  (pK l x = true → (upP l x).entered = true ∧ (upP l x).turn = l.entered + 1 ∧ (upP l x).rank = x.Rank ∧ (pl l x.Player).entered = false) ∧
  (pK l x = false → (upP l x).entered = (pl l x.Player).entered ∧ (upP l x).turn = (pl l x.Player).turn ∧ (upP l x).rank = (pl l x.Player).rank) := by
 unfold bC upP pK
 cases decide (x.Kind = 1) || decide (x.Kind = 2) with
 | true =>
  simp only [cond_true, Bool.true_and]
  cases h : decide (x.Hour ≤ l.Field.Close) && !(pl l x.Player).entered with
  | true =>
   simp only [Bool.and_eq_true, Bool.not_eq_true'] at h
   exact ⟨rfl, fun _ => ⟨rfl, rfl, rfl, h.2⟩, fun h => by cases h⟩
  | false => exact ⟨rfl, (fun h => by cases h), fun _ => ⟨rfl, rfl, rfl⟩⟩
 | false =>
  simp only [cond_false, Bool.false_and]
  cases decide (x.Kind = 3) with
  | true => simp only [cond_true]; cases ((decide (x.Hour ≤ l.Field.Freeze) && !(pl l x.Player).wild) && !(pl l x.Player).quit) && decide ((l.wilds.length : Int) < l.Field.Wilds) <;> exact ⟨rfl, (fun h => by cases h), fun _ => ⟨rfl, rfl, rfl⟩⟩
  | false =>
   simp only [cond_false]
   cases decide (x.Kind = 4) with
   | true => exact ⟨rfl, (fun h => by cases h), fun _ => ⟨rfl, rfl, rfl⟩⟩
   | false => simp only [cond_false]; cases decide (x.Kind = 5) <;> exact ⟨rfl, (fun h => by cases h), fun _ => ⟨rfl, rfl, rfl⟩⟩
theorem aBr (l : aH) (x : aG) : (l.more ≤ (bC l x).more ∧ (bC l x).more ≤ l.more + 1) ∧ (bC l x).wilds.length ≤ l.wilds.length + 1 := by
 have hf : (l.wilds.filter fun m => !decide (m = x.Player)).length ≤ l.wilds.length := List.length_filter_le _ _
 unfold bC
 cases decide (x.Kind = 1) || decide (x.Kind = 2) with
 | true => simp only [cond_true]; cases decide (x.Hour ≤ l.Field.Close) && !(pl l x.Player).entered <;> simp <;> omega
 | false =>
  simp only [cond_false]
  cases decide (x.Kind = 3) with
  | true => simp only [cond_true]; cases ((decide (x.Hour ≤ l.Field.Freeze) && !(pl l x.Player).wild) && !(pl l x.Player).quit) && decide ((l.wilds.length : Int) < l.Field.Wilds) <;> simp <;> omega
  | false =>
   simp only [cond_false]
   cases decide (x.Kind = 4) with
   | true => simp only [cond_true]; cases (pl l x.Player).wild && decide (l.Field.Freeze < x.Hour) <;> simp only [cond_true, cond_false] <;> omega
   | false => simp only [cond_false]; cases decide (x.Kind = 5) <;> simp <;> omega
theorem aTr {l : aH} {x : aG} {i : Nat} (h : WF l) (hc : Cn l i) (hi : i < 60) (hx : eZ x = true) : WF (bC l x) ∧ Cn (bC l x) (i + 1) := by
 obtain ⟨hF, _, _, _⟩ := jO l x
 obtain ⟨t1, t2, t3⟩ := aBq l x
 obtain ⟨m1, m2⟩ := aBr l x
 have hent := h.ent
 have hmr := h.mr
 obtain ⟨c1, c2, c3, c4⟩ := hc
 have hpl : (bC l x).players.length ≤ i + 1 := by rw [rG]; have := aRa x.Player (upP l x) l.players; omega
 have hE : 0 ≤ (bC l x).entered ∧ (bC l x).entered ≤ (i : Int) + 1 ∧ l.entered ≤ (bC l x).entered := by rw [t1]; cases pK l x <;> simp only [cond_true, cond_false] <;> omega
 have hrank : pK l x = true → 0 ≤ x.Rank ∧ x.Rank ≤ 9999 := fun he => by
  unfold pK at he
  simp only [Bool.and_eq_true, Bool.or_eq_true, decide_eq_true_eq] at he
  unfold eZ at hx
  simp only [Bool.and_eq_true] at hx
  rcases he.1 with h1 | h1
  ·have := hx.2
   rw [h1] at this
   simpa [wi] using this
  ·have := hx.2
   rw [h1] at this
   simp only [show decide ((2 : Int) = 1) = false from rfl, cond_false, decide_true, cond_true, rZ] at this
   omega
 refine ⟨⟨by rw [hF]; exact h.fd, by rw [rG]; exact aMv h.keys, by omega, ⟨hE.1, by omega⟩, ⟨by omega, by omega⟩, fun n hn => ?_, fun n m hn hm he => ?_⟩, ⟨hpl, by omega, by omega, by omega⟩⟩
 ·rw [lX] at hn ⊢
  by_cases hnx : n = x.Player
  ·subst hnx
   simp only [decide_true, cond_true] at hn ⊢
   cases he : pK l x with
   | true =>
    obtain ⟨_, e2, e3, _⟩ := t2 he
    have := hrank he
    rw [t1, he, e2, e3]
    simp only [cond_true]
    omega
   | false =>
    obtain ⟨e1, e2, e3⟩ := t3 he
    rw [e1] at hn
    have := h.turn _ hn
    rw [e2, e3]
    omega
  ·simp only [hnx, decide_false, cond_false] at hn ⊢
   have := h.turn _ hn
   omega
 ·rw [lX] at hn hm
  rw [lX, lX] at he
  by_cases hnx : n = x.Player <;> by_cases hmx : m = x.Player
  ·rw [hnx, hmx]
  ·subst hnx
   simp only [decide_true, cond_true, hmx, decide_false, cond_false] at hn hm he
   cases hen : pK l x with
   | true =>
    have := h.turn _ hm
    have := (t2 hen).2.1
    omega
   | false =>
    obtain ⟨e1, e2, _⟩ := t3 hen
    rw [e1] at hn
    rw [e2] at he
    exact h.inj _ _ hn hm he
  ·subst hmx
   simp only [decide_true, cond_true, hnx, decide_false, cond_false] at hn hm he
   cases hen : pK l x with
   | true =>
    have := h.turn _ hn
    have := (t2 hen).2.1
    omega
   | false =>
    obtain ⟨e1, e2, _⟩ := t3 hen
    rw [e1] at hm
    rw [e2] at he
    exact h.inj _ _ hn hm he
  ·simp only [hnx, hmx, decide_false, cond_false] at hn hm he
   exact h.inj _ _ hn hm he
end Go.Am
end
section
namespace Go.Am
def wl (l : aH) (a b : List Int) : aH := aH.mk l.Field l.players l.wilds l.frozen a b l.more l.entered
theorem aCi {l : aH} (h : WF l) (a b : List Int) : WF (wl l a b) := ⟨h.fd, h.keys, h.cnt, h.ent, h.mr, h.turn, h.inj⟩
def iC (l : aH) (inn : List Int) (n : Int) : Bool := ((pl l n).signed && !decide (n ∈ inn)) && (!(pl l n).guard || decide (((gd l inn : Nat) : Int) < l.Field.Guards))
theorem aQh (l : aH) (inn : List Int) (n : Int) (hb : inn.length ≤ 1000) : kO n l inn = some (iC l inn n) := by
 unfold kO iC
 rw [aBg, aAx l inn hb, xL inn (by omega) n]
 simp only [Option.bind_some, jQ, lE]
theorem aIo (l : aH) (n : Int) : fE n l.players = some (!isE l.players n) := by
 unfold fE
 rw [vW]; rfl
def fT (l : aH) (first : List Int) : Nat → List Int → List Int
 | 0, late => late
 | k + 1, late => bif decide (((first ++ late).length : Int) < plc l) then (match (bF l).find? (iC l (first ++ late)) with
  | none => late
  | some n => fT l first k (late ++ [n])) else late
theorem oH {l : aH} (h : WF l) : 1 ≤ plc l ∧ plc l ≤ 92 := by
 have hf := h.fd
 unfold qG at hf
 simp only [Bool.and_eq_true, rZ] at hf
 have hm := h.mr
 unfold plc
 omega
theorem aMn {α : Type} (p : α → Bool) (xs : List α) (hb : xs.length ≤ 1000) : (match xs.find? p with
  | none => fA p xs = -1
  | some n => 0 ≤ fA p xs ∧ idx xs (fA p xs) = some n) := by
 cases hf : xs.find? p with
 | none =>
  simp only
  unfold fA
  rw [if_neg]
  intro hl
  have h1 := List.findIdx_getElem (p := p) (w := hl)
  exact (List.find?_eq_none.1 hf) _ (List.getElem_mem hl) h1
 | some n =>
  simp only
  have hl : xs.findIdx p < xs.length := List.findIdx_lt_length_of_exists ⟨n, List.mem_of_find?_eq_some hf, List.find?_some hf⟩
  unfold fA
  rw [if_pos hl]
  refine ⟨by omega, ?_⟩
  rw [cV hl]
  rw [List.find?_eq_getElem?_findIdx, List.getElem?_eq_getElem hl] at hf
  exact hf
theorem aTa {l : aH} (h : WF l) (hfz : l.frozen = true) (first : List Int) : ∀ (d : Nat) (late : List Int) (k K : Nat), (plc l - ((first ++ late).length : Int)).toNat ≤ d → d < K → d ≤ k → (first ++ late).length ≤ 500 →
  iH l.players l.wilds first K late l.Field l.frozen l.more l.entered (first ++ late) = some (wl l first (fT l first k late)) := by
 intro d
 induction d with
 | zero =>
  intro late k K hd hK hk hb
  obtain ⟨K, rfl⟩ : ∃ q, K = q + 1 := ⟨K - 1, by omega⟩
  have hlt : decide (((first ++ late).length : Int) < plc l) = false := decide_eq_false (by omega)
  have hp : eO (aH.mk l.Field l.players l.wilds l.frozen first late l.more l.entered) = some (plc l) := qX (aCi h first late)
  have hg : fT l first k late = late := by
   cases k with
   | zero => rfl
   | succ k => simp only [fT, hlt, cond_false]
  simp only [iH, hp, Option.bind_some, hlt, cond_false, nQ, hg]
  rfl
 | succ d ih =>
  intro late k K hd hK hk hb
  obtain ⟨K, rfl⟩ : ∃ q, K = q + 1 := ⟨K - 1, by omega⟩
  obtain ⟨k, rfl⟩ : ∃ q, k = q + 1 := ⟨k - 1, by omega⟩
  have hp : eO (aH.mk l.Field l.players l.wilds l.frozen first late l.more l.entered) = some (plc l) := qX (aCi h first late)
  have hen : eY (aH.mk l.Field l.players l.wilds l.frozen first late l.more l.entered) = some (bF l) := sZ (aCi h first late)
  have hix : gQ (bF l) (fun y => kO y (aH.mk l.Field l.players l.wilds l.frozen first late l.more l.entered) (first ++ late)) = some (fA (iC l (first ++ late)) (bF l)) :=
   aIw (bF l) _ (iC l (first ++ late)) (fun n _ => aQh (wl l first late) (first ++ late) n (by omega)) (by have := kF h; omega)
  have hfi := aMn (iC l (first ++ late)) (bF l) (by have := kF h; omega)
  simp only [iH, hp, Option.bind_some, fT]
  cases hlt : decide (((first ++ late).length : Int) < plc l) with
  | false =>
   simp only [cond_false, nQ]
   rfl
  | true =>
   simp only [cond_true, hen, Option.bind_some, hix]
   have hlt' : ((first ++ late).length : Int) < plc l := by simpa using hlt
   have hp92 := oH h
   cases hf : (bF l).find? (iC l (first ++ late)) with
   | none =>
    rw [hf] at hfi
    simp only at hfi
    rw [hfi]
    rfl
   | some n =>
    rw [hf] at hfi
    simp only at hfi
    rw [decide_eq_false (by omega), cond_false, hfi.2]
    simp only [Option.bind_some]
    have hbl : late.length ≤ 500 := by simp at hb; omega
    rw [eN (by simp; omega)]
    simp only [Option.bind_some]
    have hm : dY (aH.mk l.Field l.players l.wilds l.frozen first (late ++ [n]) l.more l.entered) = some (first ++ (late ++ [n])) := by
     have := aFr (aCi h first (late ++ [n])) (show first.length ≤ 1000 by simp at hb; omega) (show (late ++ [n]).length ≤ 1000 by simp; omega)
     rw [show (aH.mk l.Field l.players l.wilds l.frozen first (late ++ [n]) l.more l.entered) = wl l first (late ++ [n]) from rfl, this]
     unfold aW
     rw [show (wl l first (late ++ [n])).frozen = l.frozen from rfl, hfz]
     rfl
    rw [hm]
    simp only [Option.bind_some]
    refine ih (late ++ [n]) k K ?_ (by omega) (by omega) ?_
    ·simp only [List.length_append, List.length_cons, List.length_nil] at hd hlt' ⊢
     omega
    ·simp only [List.length_append, List.length_cons, List.length_nil] at hb hlt' ⊢
     omega
def jL (l : aH) : aH := wl l (l.first.filter fun n => isE l.players n) (fT l (l.first.filter fun n => isE l.players n) 100 (l.late.filter fun n => isE l.players n))
theorem aTc {l : aH} (h : WF l) (hfz : l.frozen = true) (hb : (l.first ++ l.late).length ≤ 200) : kG l = some (jL l) := by
 have hb' : l.first.length + l.late.length ≤ 200 := by simpa using hb
 have d1 : cA l.first (fun y => fE y l.players) = some (l.first.filter fun n => isE l.players n) := by
  rw [aAj l.first _ (fun n => !isE l.players n) (fun n _ => aIo l n) (by omega)]
  simp
 have d2 : cA l.late (fun y => fE y l.players) = some (l.late.filter fun n => isE l.players n) := by
  rw [aAj l.late _ (fun n => !isE l.players n) (fun n _ => aIo l n) (by omega)]
  simp
 have f1 : (l.first.filter fun n => isE l.players n).length ≤ l.first.length := List.length_filter_le _ _
 have f2 : (l.late.filter fun n => isE l.players n).length ≤ l.late.length := List.length_filter_le _ _
 have hm := aFr (aCi h (l.first.filter fun n => isE l.players n) (l.late.filter fun n => isE l.players n)) (show (l.first.filter fun n => isE l.players n).length ≤ 1000 by omega) (show (l.late.filter fun n => isE l.players n).length ≤ 1000 by omega)
 unfold kG jL
 rw [d1, Option.bind_some, d2, Option.bind_some]
 rw [show (aH.mk l.Field l.players l.wilds l.frozen (l.first.filter fun n => isE l.players n) (l.late.filter fun n => isE l.players n) l.more l.entered) = wl l (l.first.filter fun n => isE l.players n) (l.late.filter fun n => isE l.players n) from rfl, hm, Option.bind_some]
 unfold aW
 rw [show (wl l (l.first.filter fun n => isE l.players n) (l.late.filter fun n => isE l.players n)).frozen = l.frozen from rfl]
 rw [show (bif l.frozen then (wl l (l.first.filter fun n => isE l.players n) (l.late.filter fun n => isE l.players n)).first ++ (wl l (l.first.filter fun n => isE l.players n) (l.late.filter fun n => isE l.players n)).late else kA (wl l (l.first.filter fun n => isE l.players n) (l.late.filter fun n => isE l.players n))) = (l.first.filter fun n => isE l.players n) ++ (l.late.filter fun n => isE l.players n) by rw [hfz]; rfl]
 have hp := oH h
 exact aTa h hfz _ 100 _ 100 BIG (by omega) (dC (by omega)) (Nat.le_refl _) (by simp only [List.length_append]; omega)
theorem aGo {l : aH} (h : WF l) (first : List Int) : ∀ (k : Nat) (late : List Int), (first ++ fT l first k late).length ≤ max (first ++ late).length 92
 | 0, late => by simp only [fT]; omega
 | k + 1, late => by
  have hp := oH h
  simp only [fT]
  cases hlt : decide (((first ++ late).length : Int) < plc l) with
  | false => simp only [cond_false]; omega
  | true =>
   simp only [cond_true]
   have hlt' : ((first ++ late).length : Int) < plc l := by simpa using hlt
   cases (bF l).find? (iC l (first ++ late)) with
   | none => simp only; omega
   | some n =>
    simp only
    have := aGo h first k (late ++ [n])
    simp only [List.length_append, List.length_cons, List.length_nil] at this hlt' ⊢
    omega
def bJ (l : aH) (x : aG) : aH :=
 let l2 := bC (bif decide (l.Field.Freeze < x.Hour) then cC l else l) x
 bif l2.frozen then jL l2 else l2
structure eQ (f : aP) (l : aH) (i : Nat) : Prop where
 wf : WF l
 cn : Cn l i
 fd : l.Field = f
 len : (l.first ++ l.late).length ≤ 92
 fz : l.frozen = false → l.first = [] ∧ l.late = []
theorem lK {f : aP} {l : aH} {i : Nat} (h : eQ f l i) : eQ f (cC l) i := by
 unfold cC
 cases hz : l.frozen with
 | true => exact h
 | false =>
  obtain ⟨_, hlate⟩ := h.fz hz
  simp only [cond_false]
  refine ⟨⟨h.wf.fd, h.wf.keys, h.wf.cnt, h.wf.ent, h.wf.mr, h.wf.turn, h.wf.inj⟩, ⟨h.cn.pls, h.cn.ent, h.cn.mr, h.cn.wl⟩, h.fd, ?_, fun h => by cases h⟩
  show (kA l ++ l.late).length ≤ 92
  have h1 := aDj l (bF l) []
  have h2 := kF h.wf
  rw [hlate]
  simp only [List.append_nil]
  unfold kA
  simp only [List.length_nil] at h1
  omega
theorem rE {f : aP} {l : aH} {x : aG} {i : Nat} (h : eQ f l i) (hi : i < 60) (hx : eZ x = true) : eQ f (bC l x) (i + 1) := by
 obtain ⟨h1, h2⟩ := aTr h.wf h.cn hi hx
 obtain ⟨g1, g2, g3, g4⟩ := jO l x
 exact ⟨h1, h2, by rw [g1]; exact h.fd, by rw [g3, g4]; exact h.len, fun hz => by rw [g2] at hz; rw [g3, g4]; exact h.fz hz⟩
theorem aGq {f : aP} {l : aH} {i : Nat} (h : eQ f l i) (hz : l.frozen = true) : eQ f (jL l) i := by
 have hl : l.first.length + l.late.length ≤ 92 := by have := h.len; simpa using this
 have f1 : (l.first.filter fun n => isE l.players n).length ≤ l.first.length := List.length_filter_le _ _
 have f2 : (l.late.filter fun n => isE l.players n).length ≤ l.late.length := List.length_filter_le _ _
 refine ⟨aCi h.wf _ _, ⟨h.cn.pls, h.cn.ent, h.cn.mr, h.cn.wl⟩, h.fd, ?_, fun hf => ?_⟩
 ·have := aGo h.wf (l.first.filter fun n => isE l.players n) 100 (l.late.filter fun n => isE l.players n)
  simp only [List.length_append] at this
  show ((l.first.filter fun n => isE l.players n) ++ fT l (l.first.filter fun n => isE l.players n) 100 (l.late.filter fun n => isE l.players n)).length ≤ 92
  simp only [List.length_append]
  omega
 ·have : l.frozen = false := hf
  rw [hz] at this; cases this
theorem kT {f : aP} {l : aH} {x : aG} {i : Nat} (h : eQ f l i) (hi : i < 60) (hx : eZ x = true) : eQ f (bJ l x) (i + 1) := by
 unfold bJ
 have h1 : eQ f (bif decide (l.Field.Freeze < x.Hour) then cC l else l) i := by
  cases decide (l.Field.Freeze < x.Hour) with
  | true => exact lK h
  | false => exact h
 have h2 := rE h1 hi hx
 simp only
 cases hz : (bC (bif decide (l.Field.Freeze < x.Hour) then cC l else l) x).frozen with
 | true => exact aGq h2 hz
 | false => exact h2
def dB (f : aP) : aH := aH.mk f [] [] false [] [] 0 0
theorem gX {f : aP} (hf : qG f = true) : eQ f (dB f) 0 :=
 ⟨⟨hf, .nil, by simp [dB], ⟨Int.le_refl _, by simp [dB]⟩, ⟨Int.le_refl _, by simp [dB]⟩, fun n h => by simp [pl, dB, aE] at h, fun n m h => by simp [pl, dB, aE] at h⟩, ⟨by simp [dB], by simp [dB], by simp [dB], by simp [dB]⟩, rfl, by simp [dB], fun _ => ⟨rfl, rfl⟩⟩
def nI (hour : Int) (l : aH) : List aG → aH
 | [] => l
 | x :: t => bif decide (hour < x.Hour) then l else nI hour (bJ l x) t
def kU (hour : Int) (l : aH) : aH := bif decide (l.Field.Freeze < hour) then cC l else l
theorem sO {f : aP} (hour : Int) : ∀ (t : List aG) (l : aH) (i : Nat), eQ f l i → i + t.length ≤ 60 → (∀ x ∈ t, eZ x = true) → ∃ j, j ≤ 60 ∧ eQ f (nI hour l t) j
 | [], l, i, h, hi, _ => ⟨i, by simpa using hi, h⟩
 | x :: t, l, i, h, hi, hx => by
  simp only [nI]
  cases decide (hour < x.Hour) with
  | true => exact ⟨i, by simp at hi; omega, h⟩
  | false =>
   simp only [List.length_cons] at hi
   exact sO hour t _ (i + 1) (kT h (by omega) (hx x (by simp))) (by omega) fun y hy => hx y (by simp [hy])
def aZ (f : aP) (l : List aG) (hour : Int) : aH := kU hour (nI hour (dB f) (cN l))
theorem aQb {f : aP} (T : List aG) (hT : ∀ x ∈ T, eZ x = true) (hl : T.length ≤ 60) (hour : Int) : ∀ (d i k : Nat) (l : aH), T.length - i = d → d < k → i ≤ T.length → eQ f l i →
  fL hour (T.length : Int) f T k (i : Int) l.players l.wilds l.first l.late l.Field l.frozen l.more l.entered = some (some (kU hour (nI hour l (T.drop i)))) := by
 have hend : ∀ {l : aH} {i : Nat}, eQ f l i → mQ hour f l.players l.wilds l.first l.late l.Field l.frozen l.more l.entered = some (some (kU hour l)) := by
  intro l i h
  unfold mQ kU
  rw [h.fd]
  cases decide (f.Freeze < hour) with
  | true =>
   simp only [cond_true]
   have := aGx h.wf
   rw [show (aH.mk f l.players l.wilds l.frozen l.first l.late l.more l.entered) = l by rw [← h.fd], this]
   rfl
  | false =>
   simp only [cond_false]
   rw [show (aH.mk f l.players l.wilds l.frozen l.first l.late l.more l.entered) = l by rw [← h.fd]]
 intro d
 induction d with
 | zero =>
  intro i k l hd hk hi h
  obtain ⟨k, rfl⟩ : ∃ q, k = q + 1 := ⟨k - 1, by omega⟩
  have : i = T.length := by omega
  subst this
  simp only [fL, Int.lt_irrefl, decide_false, cond_false, List.drop_length, nI]
  exact hend h
 | succ d ih =>
  intro i k l hd hk hi h
  obtain ⟨k, rfl⟩ : ∃ q, k = q + 1 := ⟨k - 1, by omega⟩
  have hil : i < T.length := by omega
  have hlt : decide ((i : Int) < (T.length : Int)) = true := decide_eq_true (by omega)
  have hw : w64 ((i : Int) + 1) = ((i + 1 : Nat) : Int) := bU (by omega)
  have hx : eZ T[i] = true := hT _ (List.getElem_mem hil)
  rw [List.drop_eq_getElem_cons hil, nI]
  simp only [fL, hlt, cond_true, cV hil, Option.bind_some, hw]
  cases decide (hour < T[i].Hour) with
  | true => simp only [cond_true]; exact hend h
  | false =>
   simp only [cond_false]
   have hmk : (aH.mk l.Field l.players l.wilds l.frozen l.first l.late l.more l.entered) = l := rfl
   have goon : ∀ (l1 : aH), eQ f l1 i → ((kH l1 T[i]).bind fun r25 =>
     bif r25.frozen then ((kG r25).bind fun r31 =>
     (fL hour (T.length : Int) f T k) ((i + 1 : Nat) : Int) r31.players r31.wilds r31.first r31.late r31.Field r31.frozen r31.more r31.entered)
     else ((fL hour (T.length : Int) f T k) ((i + 1 : Nat) : Int) r25.players r25.wilds r25.first r25.late r25.Field r25.frozen r25.more r25.entered)) =
     some (some (kU hour (nI hour (bif (bC l1 T[i]).frozen then jL (bC l1 T[i]) else bC l1 T[i]) (T.drop (i + 1))))) := by
    intro l1 h1
    have hwl := h1.cn.wl
    rw [aTq l1 T[i] h1.wf.ent h1.wf.mr (by omega)]
    simp only [Option.bind_some]
    have h2 := rE h1 (by omega) hx
    cases hz : (bC l1 T[i]).frozen with
    | true =>
     simp only [cond_true]
     rw [aTc h2.wf hz (by have := h2.len; omega)]
     simp only [Option.bind_some]
     exact ih (i + 1) k _ (by omega) (by omega) (by omega) (aGq h2 hz)
    | false =>
     simp only [cond_false]
     have := ih (i + 1) k _ (by omega) (by omega) (by omega) h2
     rw [hz] at this
     exact this
   unfold bJ
   rw [h.fd]
   cases decide (f.Freeze < T[i].Hour) with
   | true =>
    simp only [cond_true]
    have hfz := aGx h.wf
    rw [show (aH.mk f l.players l.wilds l.frozen l.first l.late l.more l.entered) = l by rw [← h.fd], hfz]
    simp only [Option.bind_some]
    exact goon (cC l) (lK h)
   | false =>
    simp only [cond_false]
    rw [show (aH.mk f l.players l.wilds l.frozen l.first l.late l.more l.entered) = l by rw [← h.fd]]
    exact goon l h
theorem nV (l : List aG) : (cN l).length ≤ l.length := by
 unfold cN
 have h1 := (iL (fun a b => eC a b) l).length_eq
 rw [← h1]
 cases dT (fun a b => eC a b) l with
 | nil => simp [qN]
 | cons p t => simp only [qN, List.length_cons]; have := (aQs p t).length_le; omega
theorem aIa {f : aP} {l : List aG} (h : VL f l) (hour : Int) : pR f l hour = some (some (aZ f l hour)) := by
 have hb : ∀ x ∈ l, bN x := fun x hx => rI (h.nt x hx)
 obtain ⟨e1, e2⟩ := aUh h.len hb h.id
 have hT := nV l
 have hlen := h.len
 unfold pR kL
 rw [Option.bind_some, e1, Option.bind_some, e2, Option.bind_some]
 exact aQb (cN l) (fun x hx => h.nt x ((dR x).1 hx)) (by omega) hour _ 0 BIG (dB f) rfl (dC (by omega)) (Nat.zero_le _) (gX h.fd)
theorem sW {f : aP} {l : List aG} (h : VL f l) (hour : Int) : ∃ j, j ≤ 60 ∧ eQ f (aZ f l hour) j := by
 have hT := nV l
 have hlen := h.len
 obtain ⟨j, hj, hg⟩ := sO hour (cN l) (dB f) 0 (gX h.fd) (by omega) fun x hx => h.nt x ((dR x).1 hx)
 refine ⟨j, hj, ?_⟩
 unfold aZ kU
 cases decide ((nI hour (dB f) (cN l)).Field.Freeze < hour) with
 | true => exact lK hg
 | false => exact hg
end Go.Am
end
section
namespace Go.Am
theorem aJd (l : aH) : ∀ (t acc : List Int) {n : Int}, n ∈ qF l acc t → n ∈ acc ∨ n ∈ t
 | [], acc, n, h => .inl h
 | m :: t, acc, n, h => by
  rcases aJd l t _ h with h1 | h1
  ·cases hc : decide ((acc.length : Int) < plc l) && (!(pl l m).guard || decide (((gd l acc : Nat) : Int) < l.Field.Guards)) with
   | true =>
    rw [hc] at h1
    simp only [cond_true, List.mem_append, List.mem_singleton] at h1
    rcases h1 with h1 | h1
    ·exact .inl h1
    ·exact .inr (by simp [h1])
   | false =>
    rw [hc] at h1
    exact .inl h1
  ·exact .inr (by simp [h1])
theorem sS {f : aP} {l : aH} {i : Nat} (h : eQ f l i) : (aW l).length ≤ 92 := by
 unfold aW
 cases l.frozen with
 | true => exact h.len
 | false =>
  simp only [cond_false]
  have h1 := aDj l (bF l) []
  have h2 := kF h.wf
  unfold kA
  simp only [List.length_nil] at h1
  omega
theorem zI {f : aP} {l : aH} {i : Nat} (h : eQ f l i) : dY l = some (aW l) := by
 have := h.len
 simp only [List.length_append] at this
 exact aFr h.wf (by omega) (by omega)
def uJ (l : aH) : List Int := (bF l).filter fun n => !decide (n ∈ aW l)
theorem aJm {f : aP} {l : aH} {i : Nat} (h : eQ f l i) : iN l = some (uJ l) := by
 have hm := sS h
 unfold iN uJ
 rw [zI h, Option.bind_some, sZ h.wf, Option.bind_some]
 rw [aAj (bF l) _ (fun n => decide (n ∈ aW l)) (fun n _ => by unfold lC; rw [xL _ (by omega)]; rfl) (by have := kF h.wf; omega)]
 rfl
theorem aCc (f : aP) (l : List aG) (hour player : Int) : pC f l hour player = some (bif !decide (vU f l = 0) then (none, vU f l) else bif !wi hour 0 9999 || !wi player 0 999 then (none, 1) else (some (aZ f l hour), 0)) := by
 unfold pC
 rw [aOf, Option.bind_some]
 cases hc : decide (vU f l = 0) with
 | false => rfl
 | true =>
  simp only [Bool.not_true, cond_false, aFm, Option.bind_some, lE]
  cases !wi hour 0 9999 || !wi player 0 999 with
  | true => rfl
  | false =>
   simp only [cond_false]
   rw [aIa (oR.1 (by simpa using hc)) hour]
   rfl
def mM (f : aP) (l : List aG) (hour : Int) : gM :=
 gM.mk (aW (aZ f l hour)) (aZ f l hour).wilds (uJ (aZ f l hour)) (plc (aZ f l hour) - ((aW (aZ f l hour)).length : Int))
theorem aLa {f : aP} {l : List aG} (h : VL f l) {hour : Int} (hh : wi hour 0 9999 = true) : oU f l hour = some (mM f l hour, 0) := by
 obtain ⟨i, hi, hg⟩ := sW h hour
 have hm := sS hg
 have hp := oH hg.wf
 unfold oU mM
 rw [aCc, oR.2 h, hh]
 simp only [decide_true, Bool.not_true, cond_false, show wi 0 0 999 = true from rfl, Bool.or_self, Option.bind_some]
 rw [zI hg, Option.bind_some, aJm hg, Option.bind_some, qX hg.wf, Option.bind_some, cR (by omega) (by omega)]
end Go.Am
end
section
namespace Go.Am
def rC (a b c : List Int) (p : Int) : Int × Int :=
 bif decide (0 ≤ fA (fun x => decide (p = x)) a) then (1, fA (fun x => decide (p = x)) a + 1)
 else bif decide (0 ≤ fA (fun x => decide (p = x)) b) then (2, fA (fun x => decide (p = x)) b + 1)
 else bif decide (0 ≤ fA (fun x => decide (p = x)) c) then (3, fA (fun x => decide (p = x)) c + 1)
 else (0, 0)
theorem uS {α : Type} (p : α → Bool) (xs : List α) : -1 ≤ fA p xs ∧ fA p xs ≤ xs.length := by
 unfold fA
 split <;> omega
theorem aRk (a b c : List Int) (p : Int) (ha : a.length ≤ 1000) (hb : b.length ≤ 1000) (hc : c.length ≤ 1000) : jH p [a, b, c] 3 BIG 0 = some (rC a b c p) := by
 obtain ⟨k, hk⟩ : ∃ k, BIG = k + 1 + 1 + 1 + 1 := ⟨BIG - 4, by unfold BIG; omega⟩
 have i1 := aJs a p (by omega)
 have i2 := aJs b p (by omega)
 have i3 := aJs c p (by omega)
 have r1 := uS (fun x => decide (p = x)) a
 have r2 := uS (fun x => decide (p = x)) b
 have r3 := uS (fun x => decide (p = x)) c
 rw [hk]
 unfold rC
 simp only [jH, qD, show decide ((0 : Int) < 3) = true from rfl, cond_true, show idx [a, b, c] 0 = some a from rfl, Option.bind_some, show w64 (0 + 1) = 1 from rfl, show decide ((1 : Int) < 3) = true from rfl, show idx [a, b, c] 1 = some b from rfl, show w64 (1 + 1) = 2 from rfl, show decide ((2 : Int) < 3) = true from rfl, show idx [a, b, c] 2 = some c from rfl, show w64 (2 + 1) = 3 from rfl, show decide ((3 : Int) < 3) = false from rfl, cond_false, i1, i2, i3]
 rw [cR (by omega) (by omega), cR (by omega) (by omega), cR (by omega) (by omega)]
 cases decide (0 ≤ fA (fun x => decide (p = x)) a) <;> cases decide (0 ≤ fA (fun x => decide (p = x)) b) <;> cases decide (0 ≤ fA (fun x => decide (p = x)) c) <;> rfl
def nT (l : aH) (p : Int) : Int × Int := rC (aW l) l.wilds (uJ l) p
theorem aJl {l : aH} (h : WF l) : (uJ l).length ≤ 60 := Nat.le_trans (List.length_filter_le _ _) (kF h)
theorem aDp {f : aP} {l : aH} {i : Nat} (h : eQ f l i) (hi : i ≤ 60) (p : Int) : lD l p = some (nT l p) := by
 have hm := sS h
 have ho := aJl h.wf
 have hw := h.cn.wl
 unfold lD nT
 rw [zI h, Option.bind_some, aJm h, Option.bind_some]
 exact aRk _ _ _ p (by omega) (by omega) (by omega)
def zE (l : aH) (n : Int) : List Int → List Int
 | [] => [n]
 | m :: t => bif decide (dQ l n < dQ l m) then n :: m :: t else m :: zE l n t
theorem aAz (l : aH) (n : Int) : ∀ t : List Int, (zE l n t).Perm (n :: t)
 | [] => .refl _
 | m :: t => by
  simp only [zE]
  cases decide (dQ l n < dQ l m) with
  | true => exact .refl _
  | false => exact ((aAz l n t).cons m).trans (.swap _ _ _)
theorem aCq (l : aH) (n : Int) : ∀ t : List Int, t.Pairwise (fun a b => dQ l a < dQ l b) → (∀ m ∈ t, dQ l m ≠ dQ l n) → (zE l n t).Pairwise fun a b => dQ l a < dQ l b
 | [], _, _ => List.pairwise_singleton _ _
 | m :: t, hs, hne => by
  have h1 := List.pairwise_cons.1 hs
  simp only [zE]
  cases hc : decide (dQ l n < dQ l m) with
  | true =>
   simp only [decide_eq_true_eq] at hc
   refine List.pairwise_cons.2 ⟨fun b hb => ?_, hs⟩
   rcases List.mem_cons.1 hb with rfl | hb
   ·exact hc
   ·exact Int.lt_trans hc (h1.1 b hb)
  | false =>
   simp only [decide_eq_false_iff_not] at hc
   refine List.pairwise_cons.2 ⟨fun b hb => ?_, aCq l n t h1.2 fun x hx => hne x (by simp [hx])⟩
   rcases List.mem_cons.1 ((aAz l n t).mem_iff.1 hb) with rfl | hb
   ·have := hne m (by simp); omega
   ·exact h1.1 b hb
def aMk (l : aH) : List Int := (qY l).foldr (zE l) []
theorem aAm (l : aH) : ∀ t : List Int, (t.foldr (zE l) []).Perm t
 | [] => .refl _
 | n :: t => (aAz l n _).trans ((aAm l t).cons n)
theorem xO {l : aH} (h : WF l) : bF l = aMk l := by
 have hn : (qY l).Nodup := by
  unfold qY
  exact h.keys.sublist ((List.filter_sublist).map _)
 have hs : ∀ t : List Int, t.Nodup → (∀ n ∈ t, (pl l n).entered = true) → (t.foldr (zE l) []).Pairwise fun a b => dQ l a < dQ l b := by
  intro t
  induction t with
  | nil => intro _ _; exact .nil
  | cons n t ih =>
   intro hn he
   have h1 := List.nodup_cons.1 hn
   refine aCq l n _ (ih h1.2 fun m hm => he m (by simp [hm])) fun m hm e => ?_
   have hmt := (aAm l t).mem_iff.1 hm
   have := zF h (he m (by simp [hmt])) (he n (by simp)) e
   subst this
   exact h1.1 hmt
 refine jN (key := dQ l) (nW h) (hs (qY l) hn fun n hm => xD hm) fun n => ?_
 rw [gF]
 show isE l.players n = true ↔ n ∈ (qY l).foldr (zE l) []
 rw [(aAm l (qY l)).mem_iff, zN]
def aCa (l : aH) : List Int := qF l [] (aMk l)
theorem zH {l : aH} (h : WF l) : kA l = aCa l := by
 unfold kA aCa
 rw [xO h]
def vX (l : aH) : List Int := bif l.frozen then l.first ++ l.late else aCa l
theorem aDk {l : aH} (h : WF l) : aW l = vX l := by
 unfold aW vX
 rw [zH h]
def aBf (l : aH) : List Int := (aMk l).filter fun n => !decide (n ∈ vX l)
theorem aLt {l : aH} (h : WF l) : uJ l = aBf l := by
 unfold uJ aBf
 rw [aDk h, xO h]
def yN (l : aH) : aH := bif l.frozen then l else { l with frozen := true, first := aCa l }
theorem aEg {l : aH} (h : WF l) : cC l = yN l := by
 unfold cC yN
 rw [zH h]
def aEc (l : aH) (es : List Int) (first : List Int) : Nat → List Int → List Int
 | 0, late => late
 | k + 1, late => bif decide (((first ++ late).length : Int) < plc l) then (match es.find? (iC l (first ++ late)) with
  | none => late
  | some n => aEc l es first k (late ++ [n])) else late
theorem aGk {l : aH} (first : List Int) : ∀ (k : Nat) (late : List Int), fT l first k late = aEc l (bF l) first k late
 | 0, _ => rfl
 | k + 1, late => by
  simp only [fT, aEc]
  cases (bF l).find? (iC l (first ++ late)) with
  | none => rfl
  | some n => simp only; rw [aGk first k (late ++ [n])]
def aMm (l : aH) : aH := wl l (l.first.filter fun n => isE l.players n) (aEc l (aMk l) (l.first.filter fun n => isE l.players n) 100 (l.late.filter fun n => isE l.players n))
theorem aQi {l : aH} (h : WF l) : jL l = aMm l := by
 unfold jL aMm
 rw [aGk, xO h]
def aNi (l : aH) (x : aG) : aH :=
 let l2 := bC (bif decide (l.Field.Freeze < x.Hour) then yN l else l) x
 bif l2.frozen then aMm l2 else l2
theorem aRl {f : aP} {l : aH} {x : aG} {i : Nat} (h : eQ f l i) (hi : i < 60) (hx : eZ x = true) : bJ l x = aNi l x := by
 have h1 : eQ f (bif decide (l.Field.Freeze < x.Hour) then cC l else l) i := by
  cases decide (l.Field.Freeze < x.Hour) with
  | true => exact lK h
  | false => exact h
 have h2 := rE h1 hi hx
 have e1 : (bif decide (l.Field.Freeze < x.Hour) then cC l else l) = bif decide (l.Field.Freeze < x.Hour) then yN l else l := by rw [aEg h.wf]
 unfold bJ aNi
 simp only
 rw [e1] at h2 ⊢
 rw [aQi h2.wf]
def aJx (hour : Int) (l : aH) : List aG → aH
 | [] => l
 | x :: t => bif decide (hour < x.Hour) then l else aJx hour (aNi l x) t
theorem aLy {f : aP} (hour : Int) : ∀ (t : List aG) (l : aH) (i : Nat), eQ f l i → i + t.length ≤ 60 → (∀ x ∈ t, eZ x = true) → nI hour l t = aJx hour l t
 | [], _, _, _, _, _ => rfl
 | x :: t, l, i, h, hi, hx => by
  simp only [List.length_cons] at hi
  simp only [nI, aJx]
  rw [← aRl h (by omega) (hx x (by simp)), aLy hour t _ (i + 1) (kT h (by omega) (hx x (by simp))) (by omega) fun y hy => hx y (by simp [hy])]
def aQd (hour : Int) (l : aH) : aH := bif decide (l.Field.Freeze < hour) then yN l else l
theorem aNk {f : aP} {l : List aG} (h : VL f l) (hs : l.Pairwise fun x y => cS x < cS y) (hour : Int) : aZ f l hour = aQd hour (aJx hour (dB f) l) := by
 have hb : ∀ x ∈ l, bN x := fun x hx => rI (h.nt x hx)
 have ht : cN l = l := jN (jP hb h.id) hs fun x => dR x
 have hlen := h.len
 obtain ⟨j, hj, hg⟩ := sO hour l (dB f) 0 (gX h.fd) (by omega) h.nt
 unfold aZ kU aQd
 rw [ht, aEg hg.wf, aLy hour l (dB f) 0 (gX h.fd) (by omega) h.nt]
end Go.Am
end
section
namespace Go.Am
def qL (p : Int) : List Int → List Int
 | [] => []
 | y :: t => if y = p then qL p t else y :: qL y t
def qO : List Int → List Int
 | [] => []
 | x :: t => x :: qL x t
theorem aKl (again : Int → List Int → Option (List Int)) {k0 : Nat} : ∀ (t : List Int) (p : Int) (W X : List Int) (k2 k : Nat), 1 ≤ k2 → W.length + X.length + 1 = k0 + k2 → k0 ≤ W.length → (W ++ X ++ p :: t).length < 4611686018427387904 → t.length < k →
  fD again (k0 : Nat) k (W.length : Nat) (k2 : Nat) (W ++ X ++ p :: t) = some (W ++ qL p t) := by
 intro t
 induction t with
 | nil =>
  intro p W X k2 k h1 h2 h3 hb hk
  obtain ⟨k, rfl⟩ : ∃ q, k = q + 1 := ⟨k - 1, by omega⟩
  simp only [List.length_append, List.length_cons, List.length_nil] at hb
  have t0 : ((k0 : Nat) : Int).toNat = k0 := rfl
  have t1 : ((W.length : Nat) : Int).toNat = W.length := rfl
  have hlt : decide ((k2 : Int) < (((W ++ X ++ [p]).drop k0).length : Int)) = false := decide_eq_false (by simp; omega)
  have c1 : (decide ((0 : Int) ≤ (W.length : Int)) && decide ((W.length : Int) ≤ ((W ++ X ++ [p]).length : Int))) = true := by simp; omega
  have c2 : decide (W.length ≤ (W ++ X ++ [p]).length) = true := by simp
  have c3 : decide ((0 : Int) ≤ (W.length : Int)) = true := by simp
  simp only [fD, t0, hlt, cond_false, oL]
  rw [c1, t1, c2, c3]
  simp [chk, qL]
 | cons y t ih =>
  intro p W X k2 k h1 h2 h3 hb hk
  obtain ⟨k, rfl⟩ : ∃ q, k = q + 1 := ⟨k - 1, by omega⟩
  simp only [List.length_append, List.length_cons] at hb hk
  have t0 : ((k0 : Nat) : Int).toNat = k0 := rfl
  have t1 : ((W.length : Nat) : Int).toNat = W.length := rfl
  have hlt : decide ((k2 : Int) < (((W ++ X ++ p :: y :: t).drop k0).length : Int)) = true := decide_eq_true (by simp; omega)
  have ed : (W ++ X ++ p :: y :: t).drop k0 = (W ++ X).drop k0 ++ p :: y :: t := by rw [List.drop_append_of_le_length (by simp; omega)]
  have hdl : ((W ++ X).drop k0).length = k2 - 1 := by simp; omega
  have i1 : idx ((W ++ X ++ p :: y :: t).drop k0) (k2 : Nat) = some y := by rw [ed]; exact wY (by rw [hdl]; omega)
  have i2 : idx ((W ++ X ++ p :: y :: t).drop k0) (w64 ((k2 : Int) - 1)) = some p := by rw [aKj (by omega) (by omega), ed]; exact jZ (by rw [hdl])
  simp only [fD, t0, hlt, cond_true, i1, i2, Option.bind_some, bU (show k2 < 9223372036854775807 by omega)]
  by_cases hyp : y = p
  ·subst hyp
   have := ih y W (X ++ [y]) (k2 + 1) k (by omega) (by simp; omega) h3 (by simp only [List.length_append, List.length_cons, List.length_nil]; omega) (by omega)
   have e1 : W ++ (X ++ [y]) ++ y :: t = W ++ X ++ y :: y :: t := by simp
   rw [e1] at this
   rw [decide_eq_true rfl, Bool.not_true, cond_false, this]
   simp [qL]
  ·have hd : (!decide (y = p)) = true := by rw [decide_eq_false hyp]; rfl
   have i3 : ∃ z, idx (W ++ X ++ p :: y :: t) (W.length : Nat) = some z := ⟨_, cV (by simp; omega)⟩
   obtain ⟨z, i3⟩ := i3
   rw [hd, cond_true, i3, Option.bind_some, t1, bU (by omega)]
   obtain ⟨X', e2⟩ : ∃ X', (W ++ X ++ p :: y :: t).set W.length y = (W ++ [y]) ++ X' ++ y :: t ∧ X'.length = X.length := by
    cases X with
    | nil => exact ⟨[], by simp, rfl⟩
    | cons x X => exact ⟨X ++ [p], by simp, by simp⟩
   rw [e2.1]
   have := ih y (W ++ [y]) X' (k2 + 1) k (by omega) (by rw [List.length_append, e2.2]; simp; omega) (by simp; omega) (by simp only [List.length_append, List.length_cons, List.length_nil, e2.2]; omega) (by omega)
   have e3 : (W ++ [y]).length = W.length + 1 := by simp
   rw [e3] at this
   rw [this]
   simp [qL, hyp]
theorem aHk (s : List Int) (hb : s.length < 4611686018427387904) : lQ s = some (qO s) := by
 have main : ∀ (t A : List Int) (p : Int) (k : Nat), t.length < k → (A ++ p :: t).length < 4611686018427387904 → dU k ((A.length + 1 : Nat) : Int) (A ++ p :: t) = some (A ++ p :: qL p t) := by
  intro t
  induction t with
  | nil =>
   intro A p k hk hb
   obtain ⟨k, rfl⟩ : ∃ q, k = q + 1 := ⟨k - 1, by omega⟩
   have hlt : decide (((A.length + 1 : Nat) : Int) < ((A ++ [p]).length : Int)) = false := decide_eq_false (by simp)
   simp only [dU, hlt, cond_false, oJ, qL]
  | cons y t ih =>
   intro A p k hk hb
   obtain ⟨k, rfl⟩ : ∃ q, k = q + 1 := ⟨k - 1, by omega⟩
   simp only [List.length_append, List.length_cons] at hb hk
   have hlt : decide (((A.length + 1 : Nat) : Int) < ((A ++ p :: y :: t).length : Int)) = true := decide_eq_true (by simp; omega)
   have i2 : w64 (((A.length + 1 : Nat) : Int) - 1) = (A.length : Int) := by rw [cR (by omega) (by omega)]; omega
   simp only [dU, hlt, cond_true, wY rfl, i2, jZ rfl, Option.bind_some]
   by_cases hyp : y = p
   ·subst hyp
    have c1 : (decide ((0 : Int) ≤ ((A.length + 1 : Nat) : Int)) && decide (((A.length + 1 : Nat) : Int) ≤ ((A ++ y :: y :: t).length : Int))) = true := by simp; omega
    rw [decide_eq_true rfl, cond_true, c1]
    simp only [chk, cond_true, Option.bind_some]
    have := aKl (dU k) (k0 := A.length + 1) t y (A ++ [y]) [] 1 BIG (Nat.le_refl _) (by simp) (by simp) (by simp only [List.length_append, List.length_cons, List.length_nil]; omega) (dC (by omega))
    have e3 : (A ++ [y]).length = A.length + 1 := by simp
    have e4 : A ++ [y] ++ [] ++ y :: t = A ++ y :: y :: t := by simp
    rw [e3, e4] at this
    have e5 : ((1 : Nat) : Int) = 1 := rfl
    rw [e5] at this
    rw [this]
    simp [qL]
   ·rw [decide_eq_false hyp, cond_false]
    unfold oK
    rw [bU (by omega)]
    have := ih (A ++ [p]) y k (by omega) (by simp only [List.length_append, List.length_cons, List.length_nil]; omega)
    have e3 : (A ++ [p]).length = A.length + 1 := by simp
    have e4 : A ++ [p] ++ y :: t = A ++ p :: y :: t := by simp
    rw [e3, e4] at this
    rw [this]
    simp [qL, hyp]
 unfold lQ
 match s, hb with
 | [], _ => simp [qO]
 | x :: t, hb =>
  by_cases ht : t = []
  ·subst ht; simp [qO, qL]
  ·have hl : 0 < t.length := List.length_pos_iff.2 ht
   have hd : decide (((x :: t).length : Int) < 2) = false := decide_eq_false (by simp; omega)
   rw [hd, cond_false]
   have := main t [] x BIG (dC (by simp at hb; omega)) (by simpa using hb)
   simp only [List.length_nil, List.nil_append, Nat.zero_add] at this
   have e5 : ((1 : Nat) : Int) = 1 := rfl
   rw [e5] at this
   rw [this]; rfl
theorem aOr (p : Int) (t : List Int) : (qL p t).Sublist t := by
 induction t generalizing p with
 | nil => exact .slnil
 | cons y t ih =>
  simp only [qL]
  split
  ·exact (ih p).cons _
  ·exact (ih y).cons_cons _
theorem aHh (l : List Int) : (sH l).length = l.length := (List.mergeSort_perm l _).length_eq
def yO (l : List aG) : List Int := qO (sH (l.map fun x => x.Hour))
def aFn (f : aP) (l : List aG) (p h : Int) : Bool := decide ((nT (aZ f l h) p).1 = 1) || decide ((nT (aZ f l h) p).1 = 2)
theorem aTy {f : aP} {l : List aG} (h : VL f l) (p : Int) (T : List Int) (hT : T.length ≤ 1000) : ∀ (d i k : Nat), T.length - i = d → d < k → i ≤ T.length →
  lZ l p (T.length : Int) f T k (i : Int) = some (match (T.drop i).find? (aFn f l p) with | some x => (x, 0) | none => (0, 3)) := by
 intro d
 induction d with
 | zero =>
  intro i k hd hk hi
  obtain ⟨k, rfl⟩ : ∃ q, k = q + 1 := ⟨k - 1, by omega⟩
  have : i = T.length := by omega
  subst this
  simp [lZ, vN]
 | succ d ih =>
  intro i k hd hk hi
  obtain ⟨k, rfl⟩ : ∃ q, k = q + 1 := ⟨k - 1, by omega⟩
  have hil : i < T.length := by omega
  have hlt : decide ((i : Int) < (T.length : Int)) = true := decide_eq_true (by omega)
  obtain ⟨j, hj, hg⟩ := sW h T[i]
  simp only [lZ, hlt, cond_true, cV hil, Option.bind_some, aIa h, aDp hg hj, lE]
  rw [List.drop_eq_getElem_cons hil, List.find?_cons]
  rw [show (decide ((nT (aZ f l T[i]) p).1 = 1) || decide ((nT (aZ f l T[i]) p).1 = 2)) = aFn f l p T[i] from rfl]
  cases aFn f l p T[i] with
  | true => rfl
  | false =>
   simp only [cond_false]
   rw [bU (by omega)]
   exact ih (i + 1) k (by omega) (by omega) (by omega)
theorem aSn {f : aP} {l : List aG} (h : VL f l) {p : Int} (hp : wi p 0 999 = true) : rK f l p = some (match (yO l).find? (aFn f l p) with | some x => (x, 0) | none => (0, 3)) := by
 have hlen := h.len
 have hH : (yO l).length ≤ 60 := by
  unfold yO
  have h1 := aHh (l.map fun x => x.Hour)
  rw [List.length_map] at h1
  cases hs : sH (l.map fun x => x.Hour) with
  | nil => simp [qO]
  | cons q t =>
   rw [hs] at h1
   simp only [List.length_cons] at h1
   have := (aOr q t).length_le
   simp only [qO, List.length_cons]
   omega
 have key := kB (lY l p l (l.length : Int) f) l.length (fun i s => sC l p f (s ++ (l.drop i).map fun x => x.Hour)) (fun i s => s.length = i) (fun k i s hi hI ih => ?_) (fun k s hI => ?_) BIG [] (dC (by omega)) rfl
 ·unfold rK
  rw [aCc, oR.2 h, hp]
  simp only [decide_true, Bool.not_true, cond_false, show wi 0 0 9999 = true from rfl, Bool.or_self, Option.bind_some]
  rw [key]
  simp only [List.drop_zero, List.nil_append]
  unfold sC slices_Sort_int
  rw [if_pos (by rw [List.length_map]; omega), Option.bind_some, aHk _ (by rw [aHh, List.length_map]; omega), Option.bind_some]
  exact aTy h p (yO l) (by omega) _ 0 BIG rfl (dC (by omega)) (Nat.zero_le _)
 ·simp only [lY, show decide ((i : Int) < (l.length : Int)) = true by simpa using hi, cond_true, cV hi, Option.bind_some]
  rw [eN (by simp; omega)]
  simp only [Option.bind_some]
  rw [bU (by omega), ih _ (by simp; omega), List.append_assoc, List.singleton_append, ← List.map_cons (f := fun x : aG => x.Hour), ← List.drop_eq_getElem_cons hi]
 ·simp [lY]
end Go.Am
end
section
namespace Go.Am
def exF : aP := ((jV).getD (⟨0, 0, 0, 0, 0⟩, [])).1
def exL : List aG := ((jV).getD (⟨0, 0, 0, 0, 0⟩, [])).2
theorem aVc : jV = some (exF, exL) := by kernel_rfl
theorem aEa : VL exF exL := oR.1 (by kernel_rfl)
theorem aOj : exL.Pairwise fun x y => cS x < cS y := of_decide_eq_true (by kernel_rfl)
def exA (h : Int) : aH := aQd h (aJx h (dB exF) exL)
theorem yZ (h : Int) : aZ exF exL h = exA h := aNk aEa aOj h
theorem aLp (h : Int) : ∃ j, j ≤ 60 ∧ eQ exF (exA h) j := by
 rw [← yZ]
 exact sW aEa h
theorem aBy (h : Int) : WF (exA h) := by
 obtain ⟨j, _, hg⟩ := aLp h
 exact hg.wf
theorem aSy : oU exF exL 12 = some (⟨[9, 8, 5], [7], [6, 4], 0⟩, 0) := by
 rw [aLa aEa (by rfl)]
 unfold mM
 rw [yZ, aLt (aBy 12), aDk (aBy 12)]
 kernel_rfl
theorem aIn (h p : Int) : nT (exA h) p = rC (vX (exA h)) (exA h).wilds (aBf (exA h)) p := by
 unfold nT
 rw [aLt (aBy h), aDk (aBy h)]
theorem aOi : iT (exA 10) 4 = some 2 := by
 unfold iT
 rw [sZ (aBy 10), xO (aBy 10)]
 kernel_rfl
theorem aQf : dD exF exL 10 4 = some (2, 0) := by
 obtain ⟨j, hj, hg⟩ := aLp 10
 unfold dD
 rw [aCc, oR.2 aEa, yZ]
 simp only [decide_true, Bool.not_true, cond_false, show wi 10 0 9999 = true from rfl, show wi 4 0 999 = true from rfl, Bool.or_self, Option.bind_some]
 rw [aDp hg hj, aIn, aOi, show rC (vX (exA 10)) (exA 10).wilds (aBf (exA 10)) 4 = (3, 3) by kernel_rfl, show (exA 10).frozen = false by kernel_rfl]
 rfl
theorem aQe : yO exL = [1, 2, 3, 4, 5, 6, 11, 12, 15, 21, 22] := by
 have h : sH (exL.map fun x => x.Hour) = exL.map fun x => x.Hour := by
  have hs := List.pairwise_mergeSort (le := fun x y : Int => decide (x ≤ y)) (by intro a b c; simp only [decide_eq_true_eq]; omega) (by intro a b; simp only [Bool.or_eq_true, decide_eq_true_eq]; omega) (exL.map fun x => x.Hour)
  refine uK (R := fun x y : Int => x ≤ y) (List.mergeSort_perm _ _) (hs.imp fun {x y} h => by simpa using h) (of_decide_eq_true (by kernel_rfl)) fun a _ b _ h1 h2 => Int.le_antisymm h1 h2
 unfold yO
 rw [h]
 have : qO (exL.map fun x => x.Hour) = [1, 2, 3, 4, 5, 6, 11, 12, 15, 21, 22] := by kernel_rfl
 exact this
theorem aSz : rK exF exL 4 = some (15, 0) := by
 have hf : aFn exF exL 4 = fun h => decide ((rC (vX (exA h)) (exA h).wilds (aBf (exA h)) 4).1 = 1) || decide ((rC (vX (exA h)) (exA h).wilds (aBf (exA h)) 4).1 = 2) := by
  funext h
  unfold aFn
  rw [yZ, aIn]
 rw [aSn aEa (by rfl), hf, aQe]
 have : [1, 2, 3, 4, 5, 6, 11, 12, 15, 21, 22].find? (fun h => decide ((rC (vX (exA h)) (exA h).wilds (aBf (exA h)) 4).1 = 1) || decide ((rC (vX (exA h)) (exA h).wilds (aBf (exA h)) 4).1 = 2)) = some 15 := by kernel_rfl
 rw [this]
theorem oN : jS = some true := by
 unfold jS
 rw [aVc, Option.bind_some, aSy, Option.bind_some, aQf, Option.bind_some, aSz, Option.bind_some]
 kernel_rfl
end Go.Am
end
