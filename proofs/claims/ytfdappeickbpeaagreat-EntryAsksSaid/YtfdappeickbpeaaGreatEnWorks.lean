/- Plain laws, one behind the other. -/
import Derived.Test.YtfdappeickbpeaaGreatEnDet
import Derived.KernelRfl
section
namespace Go.Am
def wi (n lo hi : Int) : Bool := decide (lo ≤ n) && decide (n ≤ hi)
theorem yA {n lo hi : Int} : wi n lo hi = true ↔ lo ≤ n ∧ n ≤ hi := by simp [wi]
theorem aIs (n lo hi : Int) : cP n lo hi = some (wi n lo hi) := by
 unfold cP wi
 cases decide (lo ≤ n) <;> rfl
theorem aFh (n lo hi : Int) : cS n lo hi = some (wi n lo hi) := by
 unfold cS wi
 cases decide (lo ≤ n) <;> rfl
def tB (f : aT) : Bool := wi f.Places 1 32 && wi f.Wilds 0 32 && wi f.Guards 0 32 && wi f.Close 0 9999 && wi f.Freeze f.Close 9999
def gQ (n : aO) : Bool := wi n.Id 0 999 && wi n.Player 0 999 && wi n.Hour 0 9999 &&
 (bif decide (n.Kind = 1) then wi n.Rank 0 9999 else bif decide (n.Kind = 2) then wi n.Rank 1 9999 else bif (decide (n.Kind = 3) || decide (n.Kind = 4) || decide (n.Kind = 5)) then decide (n.Rank = 0) else false)
theorem aQj (f : aT) : rX f = some (tB f) := by
 unfold rX tB
 simp only [aIs, Option.bind_some]
 cases wi f.Places 1 32 <;> cases wi f.Wilds 0 32 <;> cases wi f.Guards 0 32 <;> cases wi f.Close 0 9999 <;> cases wi f.Freeze f.Close 9999 <;> rfl
theorem aYf (n : Int) : wi n 0 0 = decide (n = 0) := by
 unfold wi
 by_cases h : n = 0
 ·subst h; rfl
 ·have : ¬ (0 ≤ n ∧ n ≤ 0) := by omega
  cases h1 : decide (0 ≤ n) <;> cases h2 : decide (n ≤ 0) <;> simp_all <;> omega
theorem aQl (n : aO) : qR n = some (gQ n) := by
 unfold qR gQ
 simp only [aIs, Option.bind_some, aYf]
 by_cases h1 : n.Kind = 1
 ·simp only [h1, decide_true, cond_true]
  cases wi n.Id 0 999 <;> cases wi n.Player 0 999 <;> cases wi n.Hour 0 9999 <;> cases wi n.Rank 0 9999 <;> rfl
 ·by_cases h2 : n.Kind = 2
  ·simp only [h2, decide_true, cond_true, show decide ((2 : Int) = 1) = false from rfl, cond_false]
   cases wi n.Id 0 999 <;> cases wi n.Player 0 999 <;> cases wi n.Hour 0 9999 <;> cases wi n.Rank 1 9999 <;> rfl
  ·cases wi n.Id 0 999 <;> cases wi n.Player 0 999 <;> cases wi n.Hour 0 9999 <;> cases decide (n.Rank = 0) <;> cases decide (n.Kind = 3) <;> cases decide (n.Kind = 4) <;> cases decide (n.Kind = 5) <;> simp [h1, h2]
theorem aQk (n : aO) : mQ n = some (gQ n) := by
 unfold mQ gQ
 simp only [aFh, Option.bind_some]
 by_cases h1 : n.Kind = 1
 ·simp only [h1, decide_true, cond_true]
  cases wi n.Id 0 999 <;> cases wi n.Player 0 999 <;> cases wi n.Hour 0 9999 <;> cases wi n.Rank 0 9999 <;> rfl
 ·by_cases h2 : n.Kind = 2
  ·simp only [h2, decide_true, cond_true, show decide ((2 : Int) = 1) = false from rfl, cond_false]
   cases wi n.Id 0 999 <;> cases wi n.Player 0 999 <;> cases wi n.Hour 0 9999 <;> cases wi n.Rank 1 9999 <;> rfl
  ·cases wi n.Id 0 999 <;> cases wi n.Player 0 999 <;> cases wi n.Hour 0 9999 <;> cases decide (n.Rank = 0) <;> cases decide (n.Kind = 3) <;> cases decide (n.Kind = 4) <;> cases decide (n.Kind = 5) <;> simp [h1, h2]
def uT (l : List aO) (i : Nat) : Bool := match l[i]? with
 | some x => gQ x && (l.take i).all fun y => !decide (y.Id = x.Id) || decide (y = x)
 | none => false
def nE (f : aT) (l : List aO) : Int := bif !tB f then 50 else bif decide (60 < (l.length : Int)) then 51 else bif (List.range l.length).all (uT l) then 0 else 51
theorem xR {l : List aO} {i : Nat} (h : i < l.length) : uT l i = (gQ l[i] && (l.take i).all fun y => !decide (y.Id = l[i].Id) || decide (y = l[i])) := by
 unfold uT
 rw [List.getElem?_eq_getElem h]
theorem aRu (l : List aO) (hl : l.length ≤ 60) (i : Nat) (hi : i < l.length) (again : Int → Option Int) : ∀ k, i < k → iN again l (i : Int) k 0 =
  bif (List.range i).all (fun j => match l[j]? with | some y => !decide (y.Id = l[i].Id) || decide (y = l[i]) | none => false) then again (w64 ((i : Int) + 1)) else some 51 := by
 refine aMv (iN again l (i : Int)) i _ _ _ (fun k j hj => ?_) fun k => ?_
 ·have hj2 : j < l.length := by omega
  simp only [iN, show decide ((j : Int) < (i : Int)) = true by simpa using hj, cond_true, dA hj2, dA hi, Option.bind_some, List.getElem?_eq_getElem hj2, cF (i := j) (by omega)]
  cases h1 : decide (l[j].Id = l[i].Id) <;> cases h2 : decide (l[j] = l[i]) <;> simp
 ·simp [iN, sL, sK]
theorem aTz (l : List aO) (p : aO → Bool) (i : Nat) (hi : i ≤ l.length) : (List.range i).all (fun j => match l[j]? with | some y => p y | none => false) = (l.take i).all p := by
 rw [Bool.eq_iff_iff]
 simp only [List.all_eq_true, List.mem_range]
 constructor
 ·intro h y hy
  obtain ⟨j, hj, rfl⟩ := List.getElem_of_mem hy
  simp only [List.length_take] at hj
  have := h j (by omega)
  rw [List.getElem?_eq_getElem (by omega)] at this
  simpa using this
 ·intro h j hj
  rw [List.getElem?_eq_getElem (by omega)]
  refine h _ (List.mem_take_iff_getElem.2 ⟨j, by omega, rfl⟩)
theorem aRv (f : aT) (l : List aO) : oQ f l = some (nE f l) := by
 have hF : ∀ {b : Option Int}, ((cS f.Places 1 32).bind fun r2 =>
  (bif !r2 then (some true) else ((cS f.Wilds 0 32).bind fun r3 => some (!r3))).bind fun b4 =>
  (bif b4 then (some true) else ((cS f.Guards 0 32).bind fun r5 => some (!r5))).bind fun b6 =>
  (bif b6 then (some true) else ((cS f.Close 0 9999).bind fun r7 => some (!r7))).bind fun b8 =>
  (bif b8 then (some true) else ((cS f.Freeze f.Close 9999).bind fun r9 => some (!r9))).bind fun b10 =>
  bif b10 then (some 50) else b) = bif !tB f then some 50 else b := by
  intro b
  simp only [aFh, Option.bind_some]
  unfold tB
  cases wi f.Places 1 32 <;> cases wi f.Wilds 0 32 <;> cases wi f.Guards 0 32 <;> cases wi f.Close 0 9999 <;> cases wi f.Freeze f.Close 9999 <;> rfl
 unfold oQ nE
 rw [hF]
 cases tB f with
 | false => rfl
 | true =>
  simp only [Bool.not_true, cond_false]
  cases hl : decide (60 < (l.length : Int)) with
  | true => rfl
  | false =>
   simp only [cond_false]
   have hl' : l.length ≤ 60 := by simp at hl; omega
   have := aMv (iM l) l.length (uT l) (some 51) (some 0) (fun k i hi => ?_) (fun k => ?_) BIG (dP (by omega))
   ·rw [this]
    cases (List.range l.length).all (uT l) <;> rfl
   ·simp only [iM, show decide ((i : Int) < (l.length : Int)) = true by simpa using hi, cond_true, dA hi, Option.bind_some, aQk]
    rw [xR hi, aRu l hl' i hi _ BIG (dP (by omega)), aTz l (fun y => !decide (y.Id = l[i].Id) || decide (y = l[i])) i (by omega), cF (by omega)]
    cases gQ l[i] <;> cases (l.take i).all (fun y => !decide (y.Id = l[i].Id) || decide (y = l[i])) <;> rfl
   ·simp [iM, sJ]
theorem aKi {α β : Type} [DecidableEq α] (a b : α) (v : β) : ∀ m : List (α × β), iX a (cR b v m) = (decide (a = b) || iX a m)
 | [] => by simp [cR, iX]
 | (c, u) :: m => by
  simp only [cR]
  by_cases hbc : b = c
  ·subst hbc
   simp [iX]
  ·simp only [hbc, decide_false, cond_false, iX, aKi a b v m]
   by_cases h1 : a = c <;> by_cases h2 : a = b <;> simp [h1, h2]
theorem rB {α β : Type} [DecidableEq α] (a b : α) (v z : β) : ∀ m : List (α × β), aL a z (cR b v m) = bif decide (a = b) then v else aL a z m
 | [] => by simp [cR, aL]
 | (c, u) :: m => by
  simp only [cR]
  by_cases hbc : b = c
  ·subst hbc
   by_cases h : a = b <;> simp [aL, h]
  ·simp only [hbc, decide_false, cond_false, aL, rB a b v z m]
   by_cases h1 : a = c
   ·subst h1
    simp [Ne.symm hbc]
   ·simp [h1]
def aZi (l : List aO) (m : List (Int × aO)) : Prop := ∀ id, (iX id m = true → aL id (aO.mk 0 0 0 0 0) m ∈ l ∧ (aL id (aO.mk 0 0 0 0 0) m).Id = id) ∧ (∀ y ∈ l, y.Id = id → iX id m = true)
theorem aRz (f : aT) (l : List aO) : uM f l = some (nE f l) := by
 unfold uM nE
 rw [aQj]
 simp only [Option.bind_some]
 cases tB f with
 | false => rfl
 | true =>
  simp only [Bool.not_true, cond_false]
  cases hl : decide (60 < (l.length : Int)) with
  | true => rfl
  | false =>
   simp only [cond_false]
   have hl' : l.length ≤ 60 := by simp at hl; omega
   have key := mG (lI l (l.length : Int)) l.length (fun i _ => some (bif (List.range' i (l.length - i)).all (uT l) then (0 : Int) else 51))
    (fun i m => aZi (l.take i) m ∧ ∀ j, j < i → uT l j = true) (fun k i m hi hI ih => ?_) (fun k m hI => ?_) BIG [] (dP (by omega)) ⟨fun id => ⟨fun h => by simp [iX] at h, fun y hy => by simp at hy⟩, fun j hj => by omega⟩
   ·rw [key]
    simp [List.range_eq_range']
   ·obtain ⟨hK, hg⟩ := hI
    have hrest : List.range' i (l.length - i) = i :: List.range' (i + 1) (l.length - (i + 1)) := by
     rw [show l.length - i = (l.length - (i + 1)) + 1 by omega, List.range'_succ]
    have hgood : uT l i = (gQ l[i] && !(iX l[i].Id m && !decide (aL l[i].Id (aO.mk 0 0 0 0 0) m = l[i]))) := by
     rw [xR hi]
     congr 1
     rw [Bool.eq_iff_iff]
     simp only [List.all_eq_true, Bool.or_eq_true, Bool.not_eq_true', decide_eq_false_iff_not, decide_eq_true_eq, Bool.and_eq_false_iff, Bool.not_eq_false']
     constructor
     ·intro h
      cases hm : iX l[i].Id m with
      | false => exact .inl rfl
      | true =>
       right
       obtain ⟨h1, h2⟩ := (hK l[i].Id).1 hm
       rcases h _ h1 with h3 | h3
       ·exact absurd h2 h3
       ·exact h3
     ·intro h y hy
      by_cases hid : y.Id = l[i].Id
      ·right
       have hm := (hK l[i].Id).2 y hy hid
       rcases h with h | h
       ·rw [hm] at h; cases h
       ·obtain ⟨h1, h2⟩ := (hK l[i].Id).1 hm
        obtain ⟨a, ha, hya⟩ := List.getElem_of_mem hy
        obtain ⟨b, hb, hmb⟩ := List.getElem_of_mem h1
        simp only [List.length_take] at ha hb
        simp only [List.getElem_take] at hya hmb
        have same : ∀ p q : Nat, p < q → q < i → ∀ (hp : p < l.length) (hq : q < l.length), l[p].Id = l[q].Id → l[p] = l[q] := by
         intro p q hpq hqi hp hq he
         have := hg q hqi
         rw [xR hq] at this
         simp only [Bool.and_eq_true, List.all_eq_true, Bool.or_eq_true, Bool.not_eq_true', decide_eq_false_iff_not, decide_eq_true_eq] at this
         rcases this.2 l[p] (List.mem_take_iff_getElem.2 ⟨p, by omega, rfl⟩) with h | h
         ·exact absurd he h
         ·exact h
        rw [← h]
        rcases Nat.lt_trichotomy a b with hab | hab | hab
        ·rw [← hya, ← hmb]
         exact same a b hab (by omega) (by omega) (by omega) (by rw [hya, hmb, hid, h2])
        ·subst hab
         rw [← hya, ← hmb]
        ·rw [← hya, ← hmb]
         exact (same b a hab (by omega) (by omega) (by omega) (by rw [hya, hmb, hid, h2])).symm
      ·exact .inl hid
    simp only [lI, show decide ((i : Int) < (l.length : Int)) = true by simpa using hi, cond_true, dA hi, Option.bind_some, aQl, cF (i := i) (by omega)]
    rw [hrest, List.all_cons, hgood]
    have ih' : uT l i = true → lI l (l.length : Int) k ((i + 1 : Nat) : Int) (cR l[i].Id l[i] m) = some (bif (List.range' (i + 1) (l.length - (i + 1))).all (uT l) then (0 : Int) else 51) := fun hgi => by
     refine ih _ ⟨fun id => ?_, fun j hj => ?_⟩
     ·have htk : l.take (i + 1) = l.take i ++ [l[i]] := by rw [List.take_add_one, List.getElem?_eq_getElem hi]; rfl
      rw [htk, aKi, rB]
      constructor
      ·intro h
       by_cases hid : id = l[i].Id
       ·subst hid
        simp only [decide_true, cond_true]
        exact ⟨List.mem_append.2 (.inr (List.mem_singleton.2 rfl)), trivial⟩
       ·simp only [hid, decide_false, Bool.false_or, cond_false] at h ⊢
        obtain ⟨h1, h2⟩ := (hK id).1 h
        exact ⟨List.mem_append.2 (.inl h1), h2⟩
      ·intro y hy he
       rcases List.mem_append.1 hy with hy | hy
       ·rw [(hK id).2 y hy he]; simp
       ·simp at hy; subst hy; simp [he]
     ·rcases Nat.lt_or_ge j i with h | h
      ·exact hg j h
      ·have : j = i := by omega
       subst this; exact hgi
    rw [hgood] at ih'
    revert ih'
    cases gQ l[i] <;> cases iX l[i].Id m <;> cases decide (aL l[i].Id (aO.mk 0 0 0 0 0) m = l[i]) <;> intro ih' <;> first | rfl | (simpa using ih' rfl)
   ·simp [lI, wH]
structure VL (f : aT) (l : List aO) : Prop where
 fd : tB f = true
 len : l.length ≤ 60
 nt : ∀ x ∈ l, gQ x = true
 id : ∀ x ∈ l, ∀ y ∈ l, x.Id = y.Id → x = y
theorem kV {f : aT} {l : List aO} : nE f l = 0 ↔ VL f l := by
 unfold nE
 constructor
 ·intro h
  cases h1 : tB f with
  | false => rw [h1] at h; simp at h
  | true =>
   rw [h1] at h
   simp only [Bool.not_true, cond_false] at h
   cases h2 : decide (60 < (l.length : Int)) with
   | true => rw [h2] at h; simp at h
   | false =>
    rw [h2] at h
    simp only [cond_false] at h
    cases h3 : (List.range l.length).all (uT l) with
    | false => rw [h3] at h; simp at h
    | true =>
     simp only [List.all_eq_true, List.mem_range] at h3
     have hg : ∀ i (hi : i < l.length), gQ l[i] = true ∧ ∀ y ∈ l.take i, y.Id = l[i].Id → y = l[i] := fun i hi => by
      have := h3 i hi
      rw [xR hi] at this
      simp only [Bool.and_eq_true, List.all_eq_true, Bool.or_eq_true, Bool.not_eq_true', decide_eq_false_iff_not, decide_eq_true_eq] at this
      exact ⟨this.1, fun y hy he => (this.2 y hy).resolve_left fun h => h he⟩
     refine ⟨h1, by simp at h2; omega, fun x hx => ?_, fun x hx y hy he => ?_⟩
     ·obtain ⟨i, hi, rfl⟩ := List.getElem_of_mem hx
      exact (hg i hi).1
     ·obtain ⟨i, hi, rfl⟩ := List.getElem_of_mem hx
      obtain ⟨j, hj, rfl⟩ := List.getElem_of_mem hy
      rcases Nat.lt_trichotomy i j with h | h | h
      ·exact (hg j hj).2 _ (List.mem_take_iff_getElem.2 ⟨i, by omega, rfl⟩) he
      ·subst h; rfl
      ·exact ((hg i hi).2 _ (List.mem_take_iff_getElem.2 ⟨j, by omega, rfl⟩) he.symm).symm
 ·rintro ⟨h1, h2, h3, h4⟩
  rw [h1]
  have : decide (60 < (l.length : Int)) = false := by simp; omega
  rw [this]
  have h5 : (List.range l.length).all (uT l) = true := by
   simp only [List.all_eq_true, List.mem_range]
   intro i hi
   rw [xR hi]
   simp only [Bool.and_eq_true, List.all_eq_true, Bool.or_eq_true, Bool.not_eq_true', decide_eq_false_iff_not, decide_eq_true_eq]
   refine ⟨h3 _ (List.getElem_mem hi), fun y hy => ?_⟩
   by_cases he : y.Id = l[i].Id
   ·exact .inr (h4 _ (List.mem_of_mem_take hy) _ (List.getElem_mem hi) he)
   ·exact .inl he
  rw [h5]
  rfl
end Go.Am
end
section
namespace Go.Am
def dS (x : aO) : Int := x.Hour * 1000 + x.Id
section
variable {α : Type}
theorem lK {A : List α} {x : α} {B : List α} {p : Int} (h : p = (A.length : Int)) : idx (A ++ x :: B) p = some x := by
 subst h; rw [dA (by simp)]; simp
theorem aJf {A : List α} {x y : α} {B : List α} {p : Nat} (h : p = A.length) : (A ++ x :: B).set p y = A ++ y :: B := by
 subst h; simp
theorem zQ {A : List α} {x y : α} {B : List α} {p : Int} (h : p = ((A.length + 1 : Nat) : Int)) : idx (A ++ x :: y :: B) p = some y := by
 have : A ++ x :: y :: B = (A ++ [x]) ++ y :: B := by simp
 rw [this, lK (by simp [h])]
end
def sZ (p : aO) : List aO → List aO
 | [] => []
 | y :: t => if y = p then sZ p t else y :: sZ y t
def tH : List aO → List aO
 | [] => []
 | x :: t => x :: sZ x t
theorem aQa (again : Int → List aO → Option (List aO)) {k0 : Nat} : ∀ (t : List aO) (p : aO) (W X : List aO) (k2 k : Nat), 1 ≤ k2 → W.length + X.length + 1 = k0 + k2 → k0 ≤ W.length → (W ++ X ++ p :: t).length < 4611686018427387904 → t.length < k →
  eC again (k0 : Nat) k (W.length : Nat) (k2 : Nat) (W ++ X ++ p :: t) = some (W ++ sZ p t) := by
 intro t
 induction t with
 | nil =>
  intro p W X k2 k h1 h2 h3 hb hk
  obtain ⟨k, rfl⟩ : ∃ q, k = q + 1 := ⟨k - 1, by omega⟩
  simp only [List.length_append, List.length_cons, List.length_nil] at hb
  have t0 : ((k0 : Nat) : Int).toNat = k0 := rfl
  have t1 : ((W.length : Nat) : Int).toNat = W.length := rfl
  have hlt : decide ((k2 : Int) < (((W ++ X ++ [p]).drop k0).length : Int)) = false := decide_eq_false (by simp; omega)
  have c1 : (decide ((0 : Int) ≤ (W.length : Int)) && decide ((W.length : Int) ≤ ((W ++ X ++ [p]).length : Int))) = true := by simp; omega
  have c2 : decide (W.length ≤ (W ++ X ++ [p]).length) = true := by simp
  have c3 : decide ((0 : Int) ≤ (W.length : Int)) = true := by simp
  simp only [eC, t0, hlt, cond_false, nD]
  rw [c1, t1, c2, c3]
  simp [chk, sZ]
 | cons y t ih =>
  intro p W X k2 k h1 h2 h3 hb hk
  obtain ⟨k, rfl⟩ : ∃ q, k = q + 1 := ⟨k - 1, by omega⟩
  simp only [List.length_append, List.length_cons] at hb hk
  have t0 : ((k0 : Nat) : Int).toNat = k0 := rfl
  have t1 : ((W.length : Nat) : Int).toNat = W.length := rfl
  have hlt : decide ((k2 : Int) < (((W ++ X ++ p :: y :: t).drop k0).length : Int)) = true := decide_eq_true (by simp; omega)
  have ed : (W ++ X ++ p :: y :: t).drop k0 = (W ++ X).drop k0 ++ p :: y :: t := by rw [List.drop_append_of_le_length (by simp; omega)]
  have hdl : ((W ++ X).drop k0).length = k2 - 1 := by simp; omega
  have i1 : idx ((W ++ X ++ p :: y :: t).drop k0) (k2 : Nat) = some y := by rw [ed]; exact zQ (by rw [hdl]; omega)
  have i2 : idx ((W ++ X ++ p :: y :: t).drop k0) (w64 ((k2 : Int) - 1)) = some p := by rw [aOc (by omega) (by omega), ed]; exact lK (by rw [hdl])
  simp only [eC, t0, hlt, cond_true, i1, i2, Option.bind_some, cF (show k2 < 9223372036854775807 by omega)]
  by_cases hyp : y = p
  ·subst hyp
   have := ih y W (X ++ [y]) (k2 + 1) k (by omega) (by simp; omega) h3 (by simp only [List.length_append, List.length_cons, List.length_nil]; omega) (by omega)
   have e1 : W ++ (X ++ [y]) ++ y :: t = W ++ X ++ y :: y :: t := by simp
   rw [e1] at this
   rw [decide_eq_true rfl, Bool.not_true, cond_false, this]
   simp [sZ]
  ·have hd : (!decide (y = p)) = true := by rw [decide_eq_false hyp]; rfl
   have i3 : ∃ z, idx (W ++ X ++ p :: y :: t) (W.length : Nat) = some z := ⟨_, dA (by simp; omega)⟩
   obtain ⟨z, i3⟩ := i3
   rw [hd, cond_true, i3, Option.bind_some, t1, cF (by omega)]
   obtain ⟨X', e2⟩ : ∃ X', (W ++ X ++ p :: y :: t).set W.length y = (W ++ [y]) ++ X' ++ y :: t ∧ X'.length = X.length := by
    cases X with
    | nil => exact ⟨[], by simp, rfl⟩
    | cons x X => exact ⟨X ++ [p], by simp, by simp⟩
   rw [e2.1]
   have := ih y (W ++ [y]) X' (k2 + 1) k (by omega) (by rw [List.length_append, e2.2]; simp; omega) (by simp; omega) (by simp only [List.length_append, List.length_cons, List.length_nil, e2.2]; omega) (by omega)
   have e3 : (W ++ [y]).length = W.length + 1 := by simp
   rw [e3] at this
   rw [this]
   simp [sZ, hyp]
theorem aLs (s : List aO) (hb : s.length < 4611686018427387904) : iK s = some (tH s) := by
 have main : ∀ (t A : List aO) (p : aO) (k : Nat), t.length < k → (A ++ p :: t).length < 4611686018427387904 → dL k ((A.length + 1 : Nat) : Int) (A ++ p :: t) = some (A ++ p :: sZ p t) := by
  intro t
  induction t with
  | nil =>
   intro A p k hk hb
   obtain ⟨k, rfl⟩ : ∃ q, k = q + 1 := ⟨k - 1, by omega⟩
   have hlt : decide (((A.length + 1 : Nat) : Int) < ((A ++ [p]).length : Int)) = false := decide_eq_false (by simp)
   simp only [dL, hlt, cond_false, nB, sZ]
  | cons y t ih =>
   intro A p k hk hb
   obtain ⟨k, rfl⟩ : ∃ q, k = q + 1 := ⟨k - 1, by omega⟩
   simp only [List.length_append, List.length_cons] at hb hk
   have hlt : decide (((A.length + 1 : Nat) : Int) < ((A ++ p :: y :: t).length : Int)) = true := decide_eq_true (by simp; omega)
   have i2 : w64 (((A.length + 1 : Nat) : Int) - 1) = (A.length : Int) := by rw [dD (by omega) (by omega)]; omega
   simp only [dL, hlt, cond_true, zQ rfl, i2, lK rfl, Option.bind_some]
   by_cases hyp : y = p
   ·subst hyp
    have c1 : (decide ((0 : Int) ≤ ((A.length + 1 : Nat) : Int)) && decide (((A.length + 1 : Nat) : Int) ≤ ((A ++ y :: y :: t).length : Int))) = true := by simp; omega
    rw [decide_eq_true rfl, cond_true, c1]
    simp only [chk, cond_true, Option.bind_some]
    have := aQa (dL k) (k0 := A.length + 1) t y (A ++ [y]) [] 1 BIG (Nat.le_refl _) (by simp) (by simp) (by simp only [List.length_append, List.length_cons, List.length_nil]; omega) (dP (by omega))
    have e3 : (A ++ [y]).length = A.length + 1 := by simp
    have e4 : A ++ [y] ++ [] ++ y :: t = A ++ y :: y :: t := by simp
    rw [e3, e4] at this
    have e5 : ((1 : Nat) : Int) = 1 := rfl
    rw [e5] at this
    rw [this]
    simp [sZ]
   ·rw [decide_eq_false hyp, cond_false]
    unfold nC
    rw [cF (by omega)]
    have := ih (A ++ [p]) y k (by omega) (by simp only [List.length_append, List.length_cons, List.length_nil]; omega)
    have e3 : (A ++ [p]).length = A.length + 1 := by simp
    have e4 : A ++ [p] ++ y :: t = A ++ p :: y :: t := by simp
    rw [e3, e4] at this
    rw [this]
    simp [sZ, hyp]
 unfold iK
 match s, hb with
 | [], _ => simp [tH]
 | x :: t, hb =>
  by_cases ht : t = []
  ·subst ht; simp [tH, sZ]
  ·have hl : 0 < t.length := List.length_pos_iff.2 ht
   have hd : decide (((x :: t).length : Int) < 2) = false := decide_eq_false (by simp; omega)
   rw [hd, cond_false]
   have := main t [] x BIG (dP (by simp at hb; omega)) (by simpa using hb)
   simp only [List.length_nil, List.nil_append, Nat.zero_add] at this
   have e5 : ((1 : Nat) : Int) = 1 := rfl
   rw [e5] at this
   rw [this]; rfl
theorem aUp (p x : aO) (t : List aO) : (x = p ∨ x ∈ sZ p t) ↔ (x = p ∨ x ∈ t) := by
 induction t generalizing p with
 | nil => rfl
 | cons y t ih =>
  simp only [sZ, List.mem_cons]
  by_cases h : y = p
  ·subst h
   rw [if_pos rfl]
   have := ih y
   constructor
   ·rintro (h | h)
    ·exact .inl h
    ·rcases this.1 (.inr h) with h | h
     ·exact .inl h
     ·exact .inr (.inr h)
   ·rintro (h | h | h)
    ·exact .inl h
    ·exact .inl h
    ·exact this.2 (.inr h)
  ·rw [if_neg h, List.mem_cons]
   have := ih y
   constructor
   ·rintro (h | h)
    ·exact .inl h
    ·exact .inr (this.1 h)
   ·rintro (h | h)
    ·exact .inl h
    ·exact .inr (this.2 h)
theorem aOf (x : aO) (s : List aO) : x ∈ tH s ↔ x ∈ s := by
 cases s with
 | nil => rfl
 | cons p t => simp only [tH, List.mem_cons]; exact aUp p x t
theorem aUq (p : aO) (t : List aO) : (sZ p t).Sublist t := by
 induction t generalizing p with
 | nil => exact .slnil
 | cons y t ih =>
  simp only [sZ]
  split
  ·exact (ih p).cons _
  ·exact (ih y).cons_cons _
theorem aOj (p : aO) (t : List aO) (hs : (p :: t).Pairwise fun x y => dS x ≤ dS y) (hcl : ∀ x ∈ p :: t, ∀ y ∈ p :: t, dS x = dS y → x = y) : (p :: sZ p t).Pairwise fun x y => dS x < dS y := by
 induction t generalizing p with
 | nil => exact List.pairwise_singleton _ _
 | cons y t ih =>
  have h1 := List.pairwise_cons.1 hs
  have h2 := List.pairwise_cons.1 h1.2
  simp only [sZ]
  by_cases h : y = p
  ·subst h
   rw [if_pos rfl]
   exact ih y h1.2 (fun a ha b hb => hcl a (List.mem_cons_of_mem _ ha) b (List.mem_cons_of_mem _ hb))
  ·rw [if_neg h]
   have h3 := ih y h1.2 (fun a ha b hb => hcl a (List.mem_cons_of_mem _ ha) b (List.mem_cons_of_mem _ hb))
   refine List.pairwise_cons.2 ⟨fun z hz => ?_, h3⟩
   have hpy : dS p < dS y := by
    have := h1.1 y (by simp)
    rcases Int.lt_or_eq_of_le this with h4 | h4
    ·exact h4
    ·exact absurd (hcl p (by simp) y (by simp) h4).symm h
   rcases List.mem_cons.1 hz with rfl | hz
   ·exact hpy
   ·exact Int.lt_trans hpy ((List.pairwise_cons.1 h3).1 z hz)
theorem mK {α : Type} {key : α → Int} : ∀ {xs ys : List α}, xs.Pairwise (fun x y => key x < key y) → ys.Pairwise (fun x y => key x < key y) → (∀ x, x ∈ xs ↔ x ∈ ys) → xs = ys
 | [], [], _, _, _ => rfl
 | [], y :: ys, _, _, h => by have := (h y).2 (by simp); simp at this
 | x :: xs, [], _, _, h => by have := (h x).1 (by simp); simp at this
 | x :: xs, y :: ys, h1, h2, h => by
  have a1 := List.pairwise_cons.1 h1
  have a2 := List.pairwise_cons.1 h2
  have hxy : x = y := by
   rcases List.mem_cons.1 ((h x).1 (by simp)) with e | e
   ·exact e
   ·rcases List.mem_cons.1 ((h y).2 (by simp)) with e2 | e2
    ·exact e2.symm
    ·have := a2.1 x e; have := a1.1 y e2; omega
  subst hxy
  have := mK a1.2 a2.2 fun z => by
   have hz := h z
   simp only [List.mem_cons] at hz
   constructor
   ·intro hm
    rcases hz.1 (.inr hm) with e | e
    ·have := a1.1 z hm; rw [e] at this; omega
    ·exact e
   ·intro hm
    rcases hz.2 (.inr hm) with e | e
    ·have := a2.1 z hm; rw [e] at this; omega
    ·exact e
  rw [this]
theorem aPz (l : List aO) (hb : l.length ≤ 60) : jP l = some l := by
 have key := mG (dH (fun (s3 : List aO) x4 => (app 40 s3 ([x4])).bind fun x6 => some (x6, true)) l (l.length : Int)) l.length (fun i s => some (s ++ l.drop i, true)) (fun i s => s.length = i) (fun k i s hi hI ih => ?_) (fun k s hI => ?_) BIG [] (dP (by omega)) rfl
 ·unfold jP kM gT
  rw [key]
  simp
 ·simp only [dH, show decide ((i : Int) < (l.length : Int)) = true by simpa using hi, cond_true, dA hi, Option.bind_some]
  rw [fR (by simp; omega)]
  simp only [Option.bind_some, Bool.not_true, cond_false]
  rw [cF (by omega), ih _ (by simp; omega)]
  rw [List.append_assoc, List.singleton_append, ← List.drop_eq_getElem_cons hi]
 ·simp [dH, jC]
theorem or2 (a b : Int) : pQ [a, b] = some (if a ≠ 0 then a else b) := by
 unfold pQ
 obtain ⟨k, hk⟩ : ∃ k, BIG = k + 1 + 1 + 1 := ⟨BIG - 3, by unfold BIG; omega⟩
 rw [show ((([a, b] : List Int).length : Nat) : Int) = 2 from rfl, hk]
 simp only [pN, uR, show decide ((0 : Int) < 2) = true from rfl, cond_true, show idx [a, b] 0 = some a from rfl, Option.bind_some, show w64 (0 + 1) = 1 from rfl, show decide ((1 : Int) < 2) = true from rfl, show idx [a, b] 1 = some b from rfl, show w64 (1 + 1) = 2 from rfl, show decide ((2 : Int) < 2) = false from rfl, cond_false]
 by_cases h : a = 0
 ·subst h
  by_cases h2 : b = 0
  ·subst h2; simp
  ·simp [h2]
 ·simp [h]
def bN (x : aO) : Prop := 0 ≤ x.Id ∧ x.Id ≤ 999 ∧ 0 ≤ x.Hour ∧ x.Hour ≤ 9999
theorem yM {x : aO} (h : gQ x = true) : bN x := by
 unfold gQ at h
 simp only [Bool.and_eq_true, yA] at h
 exact ⟨h.1.1.1.1, h.1.1.1.2, h.1.2.1, h.1.2.2⟩
theorem aYj {x y : aO} (hx : bN x) (hy : bN y) : ∃ r, eZ x y = some r ∧ (r < 0 ↔ dS x < dS y) := by
 obtain ⟨a1, a2, a3, a4⟩ := hx
 obtain ⟨b1, b2, b3, b4⟩ := hy
 unfold eZ
 rw [dD (by omega) (by omega), dD (by omega) (by omega), or2]
 refine ⟨_, rfl, ?_⟩
 unfold dS
 split <;> constructor <;> intro h <;> omega
theorem ltN {x y : aO} (hx : bN x) (hy : bN y) : ltO (fun a b => eZ a b) x y = decide (dS x < dS y) := by
 obtain ⟨r, h1, h2⟩ := aYj hx hy
 unfold ltO
 simp only [h1]
 rw [Bool.eq_iff_iff]
 simpa using h2
theorem aCi {x y : aO} (hx : bN x) (hy : bN y) (h : dS x = dS y) : x.Id = y.Id := by
 obtain ⟨a1, a2, a3, a4⟩ := hx
 obtain ⟨b1, b2, b3, b4⟩ := hy
 unfold dS at h
 omega
theorem aPl {l : List aO} (hb : ∀ x ∈ l, bN x) (hid : ∀ x ∈ l, ∀ y ∈ l, x.Id = y.Id → x = y) : uU l (fun a b => eZ a b) = true := by
 unfold uU
 simp only [List.all_eq_true, Bool.and_eq_true, Bool.or_eq_true, Bool.not_eq_true', decide_eq_true_eq]
 intro x hx
 refine ⟨by rw [ltN (hb x hx) (hb x hx)]; simp, fun y hy => ⟨⟨?_, ?_⟩, fun z hz => ⟨?_, ?_⟩⟩⟩
 ·obtain ⟨r, h1, _⟩ := aYj (hb x hx) (hb y hy)
  simp [h1]
 ·rw [ltN (hb x hx) (hb y hy), ltN (hb y hy) (hb x hx)]
  simp only [decide_eq_true_eq]
  rcases Int.lt_trichotomy (dS x) (dS y) with h | h | h
  ·exact .inl (.inr h)
  ·exact .inl (.inl (hid x hx y hy (aCi (hb x hx) (hb y hy) h)))
  ·exact .inr h
 ·rw [ltN (hb x hx) (hb y hy), ltN (hb y hy) (hb z hz), ltN (hb x hx) (hb z hz)]
  simp only [Bool.and_eq_false_iff, decide_eq_false_iff_not, decide_eq_true_eq]
  omega
 ·rw [ltN (hb x hx) (hb y hy), ltN (hb y hy) (hb z hz), ltN (hb x hx) (hb z hz)]
  simp only [decide_eq_false_iff_not, decide_eq_true_eq]
  omega
def dC (l : List aO) : List aO := tH (eS (fun a b => eZ a b) l)
theorem aYm {l : List aO} (hlen : l.length ≤ 60) (hb : ∀ x ∈ l, bN x) (hid : ∀ x ∈ l, ∀ y ∈ l, x.Id = y.Id → x = y) :
  iV l (fun y5 y6 => eZ y5 y6) = some (eS (fun a b => eZ a b) l) ∧ iK (eS (fun a b => eZ a b) l) = some (dC l) := by
 have hl : (eS (fun a b => eZ a b) l).length = l.length := (kB _ l).length_eq
 refine ⟨?_, aLs _ (by omega)⟩
 unfold iV nZ
 rw [aPz l hlen]
 simp only [Option.bind_some]
 unfold uW
 rw [if_pos ⟨aPl hb hid, by omega⟩]
 rfl
theorem fK {l : List aO} (x : aO) : x ∈ dC l ↔ x ∈ l := by
 unfold dC
 rw [aOf]
 exact (kB _ l).mem_iff
theorem oA {l : List aO} (hb : ∀ x ∈ l, bN x) (hid : ∀ x ∈ l, ∀ y ∈ l, x.Id = y.Id → x = y) : (dC l).Pairwise fun x y => dS x < dS y := by
 have hs := uV (aPl hb hid)
 have hm : ∀ x, x ∈ eS (fun a b => eZ a b) l ↔ x ∈ l := fun x => (kB _ l).mem_iff
 unfold dC
 generalize hz : eS (fun a b => eZ a b) l = z at hs hm
 have hs' : z.Pairwise fun x y => dS x ≤ dS y := by
  refine List.Pairwise.imp_of_mem (fun {x y} hx hy h => ?_) hs
  rw [ltN (hb y ((hm y).1 hy)) (hb x ((hm x).1 hx))] at h
  simp at h
  omega
 cases z with
 | nil => exact .nil
 | cons p t => exact aOj p t hs' fun x hx y hy h => hid x ((hm x).1 hx) y ((hm y).1 hy) (aCi (hb x ((hm x).1 hx)) (hb y ((hm y).1 hy)) h)
end Go.Am
end
section
namespace Go.Am
section lists
variable {α : Type}
theorem aNu {A : List α} {x y : α} {B : List α} {p : Nat} (h : p = A.length) : (A ++ x :: B).set p y = A ++ y :: B := by
 subst h; simp
theorem aTg {A : List α} {x y z : α} {B : List α} {p : Nat} (h : p = A.length + 1) : (A ++ x :: y :: B).set p z = A ++ x :: z :: B := by
 have : A ++ x :: y :: B = (A ++ [x]) ++ y :: B := by simp
 rw [this, aNu (by simp [h])]; simp
end lists
theorem aVt (again : Int → List aO → Option (List aO)) (l : List aO) (i : Nat) (T : List aO) (x : aO) (a : Nat) (hT : T.length ≤ 100) : ∀ (n k c : Nat), c - a = n → a ≤ c → c ≤ T.length → n < k →
  jL again l (i : Int) (a : Int) k (c : Int) (T.take c ++ x :: T.drop c) = again (w64 ((i : Int) + 1)) (T.take a ++ x :: T.drop a) := by
 intro n
 induction n with
 | zero =>
  intro k c hn hac hc hk
  obtain ⟨k, rfl⟩ : ∃ q, k = q + 1 := ⟨k - 1, by omega⟩
  have : c = a := by omega
  subst this
  simp [jL, sV, kQ]
 | succ n ih =>
  intro k c hn hac hc hk
  obtain ⟨k, rfl⟩ : ∃ q, k = q + 1 := ⟨k - 1, by omega⟩
  have hlt : decide ((a : Int) < (c : Int)) = true := decide_eq_true (by omega)
  obtain ⟨c, rfl⟩ : ∃ q, c = q + 1 := ⟨c - 1, by omega⟩
  have hcl : c < T.length := by omega
  have hw : w64 (((c + 1 : Nat) : Int) - 1) = (c : Int) := by rw [dD (by omega) (by omega)]; omega
  have htk : T.take (c + 1) = T.take c ++ [T[c]] := by rw [List.take_add_one, List.getElem?_eq_getElem hcl]; rfl
  have hlen : (T.take c).length = c := by simp; omega
  have e1 : T.take (c + 1) ++ x :: T.drop (c + 1) = T.take c ++ T[c] :: x :: T.drop (c + 1) := by rw [htk, List.append_assoc]; rfl
  rw [e1]
  have n1 : (((c + 1 : Nat) : Int)).toNat = c + 1 := by omega
  have n2 : ((c : Int)).toNat = c := by omega
  have g1 : idx (T.take c ++ T[c] :: x :: T.drop (c + 1)) (c : Int) = some T[c] := lK (by rw [hlen])
  have g2 : idx (T.take c ++ T[c] :: x :: T.drop (c + 1)) ((c + 1 : Nat) : Int) = some x := zQ (by rw [hlen])
  have s1 : (T.take c ++ T[c] :: x :: T.drop (c + 1)).set (c + 1) T[c] = T.take c ++ T[c] :: T[c] :: T.drop (c + 1) := aTg (by rw [hlen])
  have g3 : idx (T.take c ++ T[c] :: T[c] :: T.drop (c + 1)) (c : Int) = some T[c] := lK (by rw [hlen])
  have s2 : (T.take c ++ T[c] :: T[c] :: T.drop (c + 1)).set c x = T.take c ++ x :: T[c] :: T.drop (c + 1) := aNu (by rw [hlen])
  simp only [jL, hlt, cond_true, hw, g1, g2, Option.bind_some, n1, n2, s1, g3, s2]
  rw [← List.drop_eq_getElem_cons hcl]
  exact ih k c (by omega) (by omega) (by omega) (by omega)
def qB (x : aO) (T : List aO) : Nat := T.findIdx fun y => decide (dS x < dS y)
theorem aNj (x : aO) (T : List aO) : qB x T ≤ T.length := List.findIdx_le_length
theorem aCo {x : aO} {T : List aO} (hs : T.Pairwise fun x y => dS x < dS y) {k : Nat} (hk : k < T.length) : dS x < dS T[k] ↔ qB x T ≤ k := by
 constructor
 ·intro h
  refine Nat.le_of_not_lt fun hl => ?_
  have := List.not_of_lt_findIdx (p := fun y => decide (dS x < dS y)) (xs := T) (i := k) hl
  simp at this
  omega
 ·intro h
  have hl : qB x T < T.length := by omega
  have := List.findIdx_getElem (p := fun y => decide (dS x < dS y)) (xs := T) (w := hl)
  simp only [decide_eq_true_eq] at this
  rcases Nat.lt_or_eq_of_le h with h2 | h2
  ·have h3 := (List.pairwise_iff_getElem.1 hs) _ _ hl hk h2
   exact Int.lt_trans this h3
  ·have e : T[qB x T]'hl = T[k] := by congr 1
   unfold qB at e
   rw [e] at this
   exact this
theorem aZv {x y : aO} (hx : bN x) (hy : bN y) : (decide (x.Hour < y.Hour) || (decide (x.Hour = y.Hour) && decide (x.Id < y.Id))) = decide (dS x < dS y) := by
 obtain ⟨a1, a2, a3, a4⟩ := hx
 obtain ⟨b1, b2, b3, b4⟩ := hy
 unfold dS
 rw [Bool.eq_iff_iff]
 simp only [Bool.or_eq_true, Bool.and_eq_true, decide_eq_true_eq]
 omega
theorem aVs (again : Int → List aO → Option (List aO)) (l : List aO) (i : Nat) (hi : i < l.length) (T : List aO) (hT : T.length ≤ 100) (hb : ∀ y ∈ T, bN y) (hx : bN l[i]) (hs : T.Pairwise fun x y => dS x < dS y) : ∀ (j k : Nat), j ≤ T.length → j < k →
  iQ again l (i : Int) T k ((max j (qB l[i] T) : Nat) : Int) ((T.drop j).contains l[i]) ((j : Int) - 1) =
   pG again l (i : Int) ((qB l[i] T : Nat) : Int) (T.contains l[i]) T := by
 intro j
 induction j with
 | zero =>
  intro k hj hk
  obtain ⟨k, rfl⟩ : ∃ q, k = q + 1 := ⟨k - 1, by omega⟩
  simp [iQ]
 | succ j ih =>
  intro k hj hk
  obtain ⟨k, rfl⟩ : ∃ q, k = q + 1 := ⟨k - 1, by omega⟩
  have hjl : j < T.length := by omega
  have e0 : (((j + 1 : Nat) : Int) - 1) = (j : Int) := by omega
  have hw : w64 ((j : Int) - 1) = (j : Int) - 1 := dD (by omega) (by omega)
  have hge : decide ((0 : Int) ≤ (j : Int)) = true := decide_eq_true (by omega)
  have hd : T.drop j = T[j] :: T.drop (j + 1) := List.drop_eq_getElem_cons hjl
  have hc : (T.drop j).contains l[i] = ((T.drop (j + 1)).contains l[i] || decide (T[j] = l[i])) := by
   rw [hd, List.contains_cons, Bool.or_comm]
   congr 1
   rw [Bool.eq_iff_iff, beq_iff_eq, decide_eq_true_eq]
   exact eq_comm
  have hcm := aZv hx (hb T[j] (List.getElem_mem hjl))
  have hlt := aCo (x := l[i]) hs hjl
  rw [e0]
  simp only [iQ, hge, cond_true, dA hjl, dA hi, Option.bind_some, oP, kZ, hw]
  rw [hcm]
  have := ih k (by omega) (by omega)
  rw [hc] at this
  by_cases hle : qB l[i] T ≤ j
  ·rw [decide_eq_true (hlt.2 hle), cond_true]
   rw [show max j (qB l[i] T) = j by omega] at this
   exact this
  ·rw [decide_eq_false (fun h => hle (hlt.1 h)), cond_false]
   rw [show max j (qB l[i] T) = max (j + 1) (qB l[i] T) by omega] at this
   exact this
def wQ (x : aO) (T : List aO) : List aO := bif T.contains x then T else T.take (qB x T) ++ x :: T.drop (qB x T)
theorem aGv {x y : aO} {T : List aO} : y ∈ wQ x T ↔ y = x ∨ y ∈ T := by
 unfold wQ
 cases h : T.contains x with
 | true =>
  simp only [cond_true]
  have : x ∈ T := by simpa using h
  constructor
  ·exact .inr
  ·rintro (rfl | h)
   ·exact this
   ·exact h
 | false =>
  simp only [cond_false, List.mem_append, List.mem_cons]
  have : y ∈ T ↔ y ∈ T.take (qB x T) ∨ y ∈ T.drop (qB x T) := by rw [← List.mem_append, List.take_append_drop]
  rw [this]
  constructor
  ·rintro (h | h | h)
   ·exact .inr (.inl h)
   ·exact .inl h
   ·exact .inr (.inr h)
  ·rintro (h | h | h)
   ·exact .inr (.inl h)
   ·exact .inl h
   ·exact .inr (.inr h)
theorem aGd {x : aO} {T : List aO} (hs : T.Pairwise fun x y => dS x < dS y) (hk : ∀ y ∈ T, dS y = dS x → y = x) : (wQ x T).Pairwise fun x y => dS x < dS y := by
 unfold wQ
 cases h : T.contains x with
 | true => exact hs
 | false =>
  simp only [cond_false]
  have hx : x ∉ T := by simpa using h
  rw [List.pairwise_append, List.pairwise_cons]
  refine ⟨hs.sublist (List.take_sublist _ _), ⟨fun y hy => ?_, hs.sublist (List.drop_sublist _ _)⟩, fun a ha b hb => ?_⟩
  ·obtain ⟨j, hj, rfl⟩ := List.getElem_of_mem hy
   simp only [List.length_drop] at hj
   rw [List.getElem_drop]
   exact (aCo hs (by omega)).2 (by omega)
  ·obtain ⟨j, hj, rfl⟩ := List.getElem_of_mem ha
   simp only [List.length_take] at hj
   rw [List.getElem_take]
   have hjT : j < T.length := by omega
   have hax : dS T[j] < dS x := by
    have h1 : ¬ dS x < dS T[j] := fun h => by have := (aCo hs hjT).1 h; omega
    have h2 : dS T[j] ≠ dS x := fun h => hx (hk _ (List.getElem_mem hjT) h ▸ List.getElem_mem hjT)
    omega
   rcases List.mem_cons.1 hb with rfl | hb
   ·exact hax
   ·obtain ⟨q, hq, rfl⟩ := List.getElem_of_mem hb
    simp only [List.length_drop] at hq
    rw [List.getElem_drop]
    exact Int.lt_trans hax ((aCo hs (by omega)).2 (by omega))
theorem aRx {l : List aO} (hlen : l.length ≤ 60) (hb : ∀ x ∈ l, bN x) (hid : ∀ x ∈ l, ∀ y ∈ l, x.Id = y.Id → x = y) : mX l = some (dC l) := by
 have key := mG (eE l) l.length (fun i T => some ((l.drop i).foldl (fun T x => wQ x T) T))
  (fun i T => T.length ≤ i ∧ (∀ y ∈ T, y ∈ l) ∧ T.Pairwise fun x y => dS x < dS y) (fun k i T hi hI ih => ?_) (fun k T hI => ?_) BIG [] (dP (by omega)) ⟨by simp, by simp, .nil⟩
 ·unfold mX
  rw [key]
  congr 1
  have fold : ∀ (xs T : List aO), (∀ y ∈ xs, y ∈ l) → (∀ y ∈ T, y ∈ l) → (T.Pairwise fun x y => dS x < dS y) → (∀ y, y ∈ xs.foldl (fun T x => wQ x T) T ↔ y ∈ T ∨ y ∈ xs) ∧ (xs.foldl (fun T x => wQ x T) T).Pairwise fun x y => dS x < dS y := by
   intro xs
   induction xs with
   | nil => intro T _ _ hs; exact ⟨fun y => by simp, hs⟩
   | cons x xs ih =>
    intro T hx hT hs
    have hxl := hx x (by simp)
    obtain ⟨h1, h2⟩ := ih (wQ x T) (fun y hy => hx y (by simp [hy])) (fun y hy => by
     rcases aGv.1 hy with rfl | h
     ·exact hxl
     ·exact hT y h) (aGd hs fun y hy he => hid y (hT y hy) x hxl (aCi (hb y (hT y hy)) (hb x hxl) he))
    refine ⟨fun y => ?_, h2⟩
    rw [List.foldl_cons, h1, aGv, List.mem_cons]
    constructor
    ·rintro ((h | h) | h)
     ·exact .inr (.inl h)
     ·exact .inl h
     ·exact .inr (.inr h)
    ·rintro (h | h | h)
     ·exact .inl (.inr h)
     ·exact .inl (.inl h)
     ·exact .inr h
  obtain ⟨h1, h2⟩ := fold (l.drop 0) [] (by simp) (by simp) .nil
  exact mK h2 (oA hb hid) fun y => by rw [h1, fK]; simp
 ·obtain ⟨hI1, hI2, hI3⟩ := hI
  have hxl : l[i] ∈ l := List.getElem_mem hi
  have hTb : ∀ y ∈ T, bN y := fun y hy => hb y (hI2 y hy)
  have hw : w64 ((T.length : Int) - 1) = (T.length : Int) - 1 := dD (by omega) (by omega)
  simp only [eE, show decide ((i : Int) < (l.length : Int)) = true by simpa using hi, cond_true]
  have hL2 := aVs (eE l k) l i hi T (by omega) hTb (hb _ hxl) hI3 T.length BIG (Nat.le_refl _) (dP (by omega))
  rw [show max T.length (qB l[i] T) = T.length by have := aNj l[i] T; omega, show (T.drop T.length).contains l[i] = false by simp] at hL2
  rw [hw, hL2]
  have hnext : eE l k ((i + 1 : Nat) : Int) (wQ l[i] T) = some ((l.drop (i + 1)).foldl (fun T x => wQ x T) (wQ l[i] T)) := by
   refine ih _ ⟨?_, fun y hy => ?_, aGd hI3 fun y hy he => hid y (hI2 y hy) _ hxl (aCi (hTb y hy) (hb _ hxl) he)⟩
   ·unfold wQ
    cases T.contains l[i] with
    | true => simp only [cond_true]; omega
    | false => simp only [cond_false, List.length_append, List.length_cons, List.length_take, List.length_drop]; omega
   ·rcases aGv.1 hy with rfl | h
    ·exact hxl
    ·exact hI2 y h
  rw [List.drop_eq_getElem_cons hi, List.foldl_cons, ← hnext]
  unfold pG kQ wQ
  cases hc : T.contains l[i] with
  | true => simp only [cond_true]; rw [cF (by omega)]
  | false =>
   simp only [cond_false, dA hi, Option.bind_some]
   rw [fR (by simp; omega)]
   simp only [Option.bind_some]
   have hw2 : w64 (((T ++ [l[i]]).length : Int) - 1) = (T.length : Int) := by rw [dD (by simp only [List.length_append, List.length_cons, List.length_nil]; omega) (by simp only [List.length_append, List.length_cons, List.length_nil]; omega)]; simp
   rw [hw2]
   have h4 := aVt (eE l k) l i T l[i] (qB l[i] T) (by omega) _ BIG T.length rfl (aNj _ _) (Nat.le_refl _) (dP (by omega))
   rw [List.take_length, List.drop_length] at h4
   rw [h4, cF (by omega)]
 ·simp [eE, sT]
end Go.Am
end
section
namespace Go.Am
def fE {α : Type} (p : α → Bool) (l : List α) : Int := if l.findIdx p < l.length then (l.findIdx p : Int) else -1
theorem aJw {α : Type} (p : α → Bool) (l : List α) : decide (0 ≤ fE p l) = l.any p := by
 unfold fE
 split
 ·rename_i h
  have : l.any p = true := List.any_eq_true.2 ⟨_, List.getElem_mem h, List.findIdx_getElem (w := h)⟩
  rw [this]; simp
 ·rename_i h
  have : l.any p = false := by
   rw [Bool.eq_false_iff]
   intro hn
   obtain ⟨x, hx, hp⟩ := List.any_eq_true.1 hn
   exact h (List.findIdx_lt_length_of_exists ⟨x, hx, hp⟩)
  rw [this]; simp
theorem aAm {α : Type} (F : Nat → Int → Option Int) (l : List α) (p : α → Bool) (h1 : ∀ k i (hi : i < l.length), F (k + 1) (i : Nat) = bif p l[i] then some (i : Int) else F k ((i + 1 : Nat) : Int)) (h2 : ∀ k, F (k + 1) (l.length : Nat) = some (-1)) :
  ∀ k, l.length < k → F k 0 = some (fE p l) := by
 have main : ∀ d i k, l.length - i = d → d < k → i ≤ l.length → (∀ j (hj : j < l.length), j < i → p l[j] = false) → F k (i : Nat) = some (fE p l) := by
  intro d
  induction d with
  | zero =>
   intro i k hd hk hi hno
   obtain ⟨k, rfl⟩ : ∃ q, k = q + 1 := ⟨k - 1, by omega⟩
   have : i = l.length := by omega
   subst this
   have he : ¬ l.findIdx p < l.length := fun h => by
    have := hno _ h h
    rw [List.findIdx_getElem (w := h)] at this
    cases this
   rw [h2, fE, if_neg he]
  | succ d ih =>
   intro i k hd hk hi hno
   obtain ⟨k, rfl⟩ : ∃ q, k = q + 1 := ⟨k - 1, by omega⟩
   have hil : i < l.length := by omega
   rw [h1 k i hil]
   cases hp : p l[i] with
   | true =>
    have he : l.findIdx p = i := by
     rw [List.findIdx_eq hil]
     exact ⟨hp, fun j hj => hno j (by omega) hj⟩
    rw [cond_true, fE, he, if_pos hil]
   | false =>
    rw [cond_false]
    exact ih (i + 1) k (by omega) (by omega) (by omega) fun j hj hji => by
     rcases Nat.lt_or_eq_of_le (Nat.le_of_lt_succ hji) with h | h
     ·exact hno j hj h
     ·subst h; exact hp
 intro k hk
 exact main _ 0 k rfl (by omega) (Nat.zero_le _) fun j _ h => by omega
section del
theorem aMp (l : List Int) (f : Int → Option Bool) (p : Int → Bool) (h : ∀ x ∈ l, f x = some (p x)) (hb : l.length ≤ 1000000) : jB l f = some (fE p l) := by
 unfold jB
 refine aAm (fun k i => gV l f (l.length : Int) k i) l p (fun k i hi => ?_) (fun k => ?_) BIG (dP (by omega))
 ·have hlt : decide ((i : Int) < (l.length : Int)) = true := decide_eq_true (by omega)
  simp only [gV, hlt, cond_true, dA hi, Option.bind_some, h _ (List.getElem_mem hi), cF (show i < 9223372036854775807 by omega)]
 ·have hlt : decide ((l.length : Int) < (l.length : Int)) = false := decide_eq_false (by omega)
  simp only [gV, hlt, cond_false, pL]
theorem aOg (f : Int → Option Bool) (p : Int → Bool) : ∀ (t W X : List Int) (k : Nat), (∀ x ∈ t, f x = some (p x)) → 0 < X.length → (W ++ X ++ t).length ≤ 1000000 → t.length < k →
  fG f k (W.length : Nat) ((W.length + X.length : Nat) : Int) (W ++ X ++ t) = some (W ++ t.filter fun x => !p x) := by
 intro t
 induction t with
 | nil =>
  intro W X k hf hX hb hk
  obtain ⟨k, rfl⟩ : ∃ q, k = q + 1 := ⟨k - 1, by omega⟩
  simp only [List.length_append, List.length_nil] at hb
  have hlt : decide (((W.length + X.length : Nat) : Int) < ((W ++ X ++ []).length : Int)) = false := decide_eq_false (by simp)
  have t1 : ((W.length : Nat) : Int).toNat = W.length := rfl
  have c1 : (decide ((0 : Int) ≤ (W.length : Int)) && decide ((W.length : Int) ≤ ((W ++ X ++ []).length : Int))) = true := by simp; omega
  have c2 : decide (W.length ≤ (W ++ X ++ []).length) = true := by simp
  have c3 : decide ((0 : Int) ≤ (W.length : Int)) = true := by simp
  simp only [fG, hlt, cond_false, pB]
  rw [c1, t1, c2, c3]
  simp [chk]
 | cons y t ih =>
  intro W X k hf hX hb hk
  obtain ⟨k, rfl⟩ : ∃ q, k = q + 1 := ⟨k - 1, by omega⟩
  simp only [List.length_append, List.length_cons] at hb hk
  have hlt : decide (((W.length + X.length : Nat) : Int) < ((W ++ X ++ y :: t).length : Int)) = true := decide_eq_true (by simp; omega)
  have i1 : idx (W ++ X ++ y :: t) ((W.length + X.length : Nat) : Int) = some y := lK (by simp)
  have hf1 := hf y (by simp)
  have hf2 : ∀ x ∈ t, f x = some (p x) := fun x hx => hf x (List.mem_cons_of_mem _ hx)
  have t1 : ((W.length : Nat) : Int).toNat = W.length := rfl
  simp only [fG, hlt, cond_true, i1, hf1, Option.bind_some, cF (show W.length + X.length < 9223372036854775807 by omega)]
  cases hp : p y with
  | true =>
   simp only [Bool.not_true, cond_false]
   have := ih W (X ++ [y]) k hf2 (by simp) (by simp; omega) (by omega)
   have e1 : W ++ (X ++ [y]) ++ t = W ++ X ++ y :: t := by simp
   have e2 : W.length + (X ++ [y]).length = W.length + X.length + 1 := by simp; omega
   rw [e1, e2] at this
   rw [this]; simp [hp]
  | false =>
   simp only [Bool.not_false, cond_true]
   match X, hX with
   | x :: X, _ =>
    have i2 : idx (W ++ (x :: X) ++ y :: t) (W.length : Nat) = some x := by
     have : W ++ (x :: X) ++ y :: t = W ++ x :: (X ++ y :: t) := by simp
     rw [this]; exact lK rfl
    have e3 : (W ++ (x :: X) ++ y :: t).set W.length y = (W ++ [y]) ++ (X ++ [y]) ++ t := by
     have : W ++ (x :: X) ++ y :: t = W ++ x :: (X ++ y :: t) := by simp
     rw [this, aJf rfl]; simp
    rw [i2, Option.bind_some, t1, e3, cF (by omega)]
    have := ih (W ++ [y]) (X ++ [y]) k hf2 (by simp) (by simp at hb ⊢; omega) (by omega)
    have e4 : (W ++ [y]).length = W.length + 1 := by simp
    have e5 : (W ++ [y]).length + (X ++ [y]).length = W.length + (x :: X).length + 1 := by simp; omega
    rw [e5, e4] at this
    rw [this]; simp [hp]
theorem aDr (s : List Int) (f : Int → Option Bool) (p : Int → Bool) (h : ∀ x ∈ s, f x = some (p x)) (hb : s.length ≤ 1000000) : cT s f = some (s.filter fun x => !p x) := by
 unfold cT
 rw [aMp s f p h hb, Option.bind_some]
 unfold fE
 by_cases hl : s.findIdx p < s.length
 ·rw [if_pos hl, decide_eq_false (by omega), cond_false]
  obtain ⟨i, hi⟩ : ∃ i, i = s.findIdx p := ⟨_, rfl⟩
  rw [← hi] at hl ⊢
  have hno : ∀ x ∈ s.take i, (!p x) = true := fun x hx => by
   obtain ⟨j, hj, rfl⟩ := List.getElem_of_mem hx
   simp only [List.length_take] at hj
   rw [List.getElem_take]
   have := List.not_of_lt_findIdx (p := p) (xs := s) (i := j) (by omega)
   simpa using this
  have hyes : p s[i] = true := by
   have := List.findIdx_getElem (p := p) (xs := s) (w := hi ▸ hl)
   simpa [← hi] using this
  have es : s = s.take i ++ [s[i]] ++ s.drop (i + 1) := by
   rw [List.append_assoc, List.singleton_append, ← List.drop_eq_getElem_cons hl, List.take_append_drop]
  have hloop := aOg f p (s.drop (i + 1)) (s.take i) [s[i]] BIG (fun x hx => h x (List.mem_of_mem_drop hx)) (by simp) (by rw [← es]; omega) (dP (by simp; omega))
  have e1 : (s.take i).length = i := by simp; omega
  rw [e1, ← es] at hloop
  rw [cF (by omega)]
  have e2 : i + [s[i]].length = i + 1 := rfl
  rw [e2] at hloop
  rw [hloop]
  congr 1
  conv => rhs; rw [es]
  rw [List.filter_append, List.filter_append, List.filter_eq_self.2 hno]
  simp [hyes]
 ·rw [if_neg hl, decide_eq_true rfl, cond_true]
  congr 1
  symm
  refine List.filter_eq_self.2 fun x hx => ?_
  cases hp : p x with
  | false => rfl
  | true => exact absurd (List.findIdx_lt_length_of_exists ⟨x, hx, hp⟩) hl
end del
theorem aLg (l : List Int) (hl : l.length ≤ 9223372036854775807) (v : Int) : kA l v = some (match l.findIdx? (fun x => decide (v = x)) with | some i => (i : Int) | none => -1) := by
 unfold kA
 rw [mG (S := Unit) (fun k i _ => fO l v l.length k i) l.length (fun i _ => some (match (l.drop i).findIdx? (fun x => decide (v = x)) with | some j => ((i + j : Nat) : Int) | none => -1)) (fun _ _ => True) ?_ ?_ BIG () (dP hl) trivial]
 ·simp
 ·intro k i _ hi _ ih
  have := ih () trivial
  simp only [fO, dA hi, Option.bind_some, cF (show i < 9223372036854775807 by omega), Int.ofNat_lt, hi, decide_true, cond_true, this]
  rw [List.drop_eq_getElem_cons hi, List.findIdx?_cons]
  by_cases h : v = l[i]
  ·simp [h]
  ·simp only [h, decide_false, cond_false, Bool.false_eq_true, if_false]
   cases List.findIdx? (fun x => decide (v = x)) (List.drop (i + 1) l) with
   | none => rfl
   | some j => simp; omega
 ·intro k _ _
  simp [fO, pJ]
theorem vK (l : List Int) (hl : l.length ≤ 9223372036854775807) (v : Int) : fN l v = some (decide (v ∈ l)) := by
 unfold fN
 rw [aLg l hl v]
 cases h : List.findIdx? (fun x => decide (v = x)) l with
 | none =>
  simp at h
  have : v ∉ l := fun hm => h v hm rfl
  simp [this]
 | some j =>
  have : v ∈ l := by
   obtain ⟨h1, h2, _⟩ := List.findIdx?_eq_some_iff_getElem.1 h
   simp at h2
   rw [h2]; exact List.getElem_mem h1
  simp [this]
theorem aNk (out : List Int) (p : Int) (hb : out.length ≤ 1000000) : kA out p = some (fE (fun x => decide (p = x)) out) := by
 unfold kA
 refine aAm (fun k i => fO out p (out.length : Int) k i) out (fun x => decide (p = x)) (fun k i hi => ?_) (fun k => ?_) BIG (dP (by omega))
 ·have hlt : decide ((i : Int) < (out.length : Int)) = true := decide_eq_true (by omega)
  simp only [fO, hlt, cond_true, dA hi, Option.bind_some, cF (show i < 9223372036854775807 by omega)]
 ·have hlt : decide ((out.length : Int) < (out.length : Int)) = false := decide_eq_false (by omega)
  simp only [fO, hlt, cond_false, pJ]
theorem aRt (a b : List Int) (ha : a.length ≤ 100000) (hb : b.length ≤ 100000) : oE [a, b] = some (a ++ b) := by
 have e1 : ∀ k s, iE [a, b] 2 (k + 3) 0 s = (app 8 s a).bind fun x => (app 8 x b).bind fun y => some y := by
  intro k s
  have w1 : w64 (0 + 1) = 1 := rfl
  have w2 : w64 (1 + 1) = 2 := rfl
  have i0 : idx [a, b] 0 = some a := rfl
  have i1 : idx [a, b] 1 = some b := rfl
  have c0 : decide ((0 : Int) < 2) = true := rfl
  have c1 : decide ((1 : Int) < 2) = true := rfl
  have c2 : decide ((2 : Int) < 2) = false := rfl
  rw [iE, c0, cond_true, i0, Option.bind_some, w1]
  refine congrArg _ (funext fun x => ?_)
  rw [iE, c1, cond_true, i1, Option.bind_some, w2]
  refine congrArg _ (funext fun y => ?_)
  rw [iE, c2, cond_false]; rfl
 have hB : BIG = (18446744073709551616 - 3) + 3 := rfl
 have hL : (([a, b] : List (List Int)).length : Int) = 2 := rfl
 have g1 : w64 (0 + (a.length : Int)) = a.length := by rw [dD (by omega) (by omega)]; omega
 have g2 : w64 ((a.length : Int) + (b.length : Int)) = ((a.length + b.length : Nat) : Int) := by rw [dD (by omega) (by omega)]; omega
 have hgrow : qC ((a.length + b.length : Nat) : Int) = some [] := by
  unfold qC
  have w0 : w64 (0 - 0) = 0 := rfl
  rw [decide_eq_false (by omega), cond_false, w0, Int.sub_zero, dD (by omega) (by omega)]
  by_cases h0 : (0 : Int) < ((a.length + b.length : Nat) : Int)
  ·have c1 : decide (((a.length + b.length : Nat) : Int) * ((8 : Nat) : Int) ≤ 140737488355328) = true := decide_eq_true (by omega)
   rw [decide_eq_true h0, cond_true, c1]; rfl
  ·rw [decide_eq_false h0, cond_false]
 unfold oE
 rw [hB, hL]
 have w1 : w64 (0 + 1) = 1 := rfl
 have w2 : w64 (1 + 1) = 2 := rfl
 have i0 : idx [a, b] 0 = some a := rfl
 have i1 : idx [a, b] 1 = some b := rfl
 have c0 : decide ((0 : Int) < 2) = true := rfl
 have c1 : decide ((1 : Int) < 2) = true := rfl
 have c2 : decide ((2 : Int) < 2) = false := rfl
 rw [jA, c0, cond_true, i0, Option.bind_some, g1, decide_eq_false (by omega), cond_false, w1, jA, c1, cond_true, i1, Option.bind_some, g2, decide_eq_false (by omega), cond_false, w2, jA, c2, cond_false]
 unfold rR
 rw [hgrow, Option.bind_some, hB, hL, e1, fR (by simp; omega), Option.bind_some, List.nil_append, fR (by omega), Option.bind_some]
end Go.Am
end
section
namespace Go.Am
abbrev zP : aA := aA.mk false false 0 0 false false false false
def pl (l : aN) (n : Int) : aA := aL n zP l.players
structure WF (l : aN) : Prop where
 fd : tB l.Field = true
 keys : (l.players.map Prod.fst).Nodup
 cnt : l.players.length ≤ 60
 ent : 0 ≤ l.entered ∧ l.entered ≤ 60
 mr : 0 ≤ l.more ∧ l.more ≤ 60
 turn : ∀ n, (pl l n).entered = true → 1 ≤ (pl l n).turn ∧ (pl l n).turn ≤ l.entered ∧ 0 ≤ (pl l n).rank ∧ (pl l n).rank ≤ 9999
 inj : ∀ n m, (pl l n).entered = true → (pl l m).entered = true → (pl l n).turn = (pl l m).turn → n = m
theorem aIb {α β : Type} [DecidableEq α] {n : α} {z : β} : ∀ {m : List (α × β)}, n ∉ m.map Prod.fst → aL n z m = z
 | [], _ => rfl
 | (b, v) :: m, h => by
  simp only [List.map_cons, List.mem_cons, not_or] at h
  simp only [aL, h.1, decide_false, cond_false]
  exact aIb h.2
theorem aIw {l : aN} {n : Int} (h : (pl l n).entered = true) : n ∈ l.players.map Prod.fst := by
 refine Classical.byContradiction fun hn => ?_
 unfold pl at h
 rw [aIb hn] at h
 cases h
theorem tS (l : aN) (n : Int) : isE l.players n = ((pl l n).entered && !(pl l n).quit && !(pl l n).had) := rfl
def eM (l : aN) (n : Int) : Int := (if (pl l n).rank = 0 then 10000 else (pl l n).rank) * 100 + (pl l n).turn
theorem or3 (a b c : Int) : pQ [a, b, c] = some (if a ≠ 0 then a else if b ≠ 0 then b else c) := by
 obtain ⟨k, hk⟩ : ∃ k, BIG = k + 1 + 1 + 1 + 1 := ⟨BIG - 4, by unfold BIG; omega⟩
 unfold pQ
 rw [show ((([a, b, c] : List Int).length : Nat) : Int) = 3 from rfl, hk]
 simp only [pN, uR, show decide ((0 : Int) < 3) = true from rfl, cond_true, show idx [a, b, c] 0 = some a from rfl, Option.bind_some, show w64 (0 + 1) = 1 from rfl, show decide ((1 : Int) < 3) = true from rfl, show idx [a, b, c] 1 = some b from rfl, show w64 (1 + 1) = 2 from rfl, show decide ((2 : Int) < 3) = true from rfl, show idx [a, b, c] 2 = some c from rfl, show w64 (2 + 1) = 3 from rfl, show decide ((3 : Int) < 3) = false from rfl, cond_false]
 by_cases h : a = 0
 ·subst h
  by_cases h2 : b = 0
  ·subst h2
   by_cases h3 : c = 0
   ·subst h3; simp
   ·simp [h3]
  ·simp [h2]
 ·simp [h]
theorem aXm (p : aA) : jG p = some (if p.rank = 0 then 1 else 0) := by
 unfold jG
 by_cases h : p.rank = 0 <;> simp [h]
theorem aYi {l : aN} (h : WF l) {a b : Int} (ha : (pl l a).entered = true) (hb : (pl l b).entered = true) : ∃ r, fD a b l = some r ∧ (r < 0 ↔ eM l a < eM l b) := by
 obtain ⟨a1, a2, a3, a4⟩ := h.turn a ha
 obtain ⟨b1, b2, b3, b4⟩ := h.turn b hb
 have he := h.ent.2
 unfold fD
 rw [show (aL a (aA.mk false false 0 0 false false false false) l.players) = pl l a from rfl, show (aL b (aA.mk false false 0 0 false false false false) l.players) = pl l b from rfl]
 simp only [aXm, Option.bind_some]
 rw [dD (by split <;> split <;> omega) (by split <;> split <;> omega), dD (by omega) (by omega), dD (by omega) (by omega), or3]
 refine ⟨_, rfl, ?_⟩
 unfold eM
 by_cases h1 : (pl l a).rank = 0 <;> by_cases h2 : (pl l b).rank = 0 <;> simp only [h1, h2, if_true, if_false] <;> (repeat' split) <;> constructor <;> intro h3 <;> omega
theorem ltE {l : aN} (h : WF l) {a b : Int} (ha : (pl l a).entered = true) (hb : (pl l b).entered = true) : ltO (fun a b => fD a b l) a b = decide (eM l a < eM l b) := by
 obtain ⟨r, h1, h2⟩ := aYi h ha hb
 unfold ltO
 simp only [h1]
 rw [Bool.eq_iff_iff]
 simpa using h2
theorem aCh {l : aN} (h : WF l) {a b : Int} (ha : (pl l a).entered = true) (hb : (pl l b).entered = true) (he : eM l a = eM l b) : a = b := by
 obtain ⟨a1, a2, a3, a4⟩ := h.turn a ha
 obtain ⟨b1, b2, b3, b4⟩ := h.turn b hb
 have he2 := h.ent.2
 refine h.inj a b ha hb ?_
 unfold eM at he
 split at he <;> split at he <;> omega
def tV (l : aN) : List Int := (l.players.filter fun p => isE l.players p.1).map Prod.fst
def bF (l : aN) : List Int := eS (fun a b => fD a b l) (tV l)
theorem aCq {l : aN} {n : Int} : n ∈ tV l ↔ isE l.players n = true := by
 unfold tV
 constructor
 ·intro h
  obtain ⟨p, hp, rfl⟩ := List.mem_map.1 h
  exact (List.mem_filter.1 hp).2
 ·intro h
  have he : (pl l n).entered = true := by
   rw [tS] at h
   simp only [Bool.and_eq_true] at h
   exact h.1.1
  obtain ⟨p, hp, rfl⟩ := List.mem_map.1 (aIw he)
  exact List.mem_map.2 ⟨p, List.mem_filter.2 ⟨hp, h⟩, rfl⟩
theorem zW {l : aN} {n : Int} (h : n ∈ tV l) : (pl l n).entered = true := by
 have := aCq.1 h
 rw [tS] at this
 simp only [Bool.and_eq_true] at this
 exact this.1.1
theorem aPp {l : aN} (h : WF l) : uU (tV l) (fun a b => fD a b l) = true := by
 unfold uU
 simp only [List.all_eq_true, Bool.and_eq_true, Bool.or_eq_true, Bool.not_eq_true', decide_eq_true_eq]
 intro x hx
 have ex := zW hx
 refine ⟨by rw [ltE h ex ex]; simp, fun y hy => ?_⟩
 have ey := zW hy
 refine ⟨⟨?_, ?_⟩, fun z hz => ?_⟩
 ·obtain ⟨r, h1, _⟩ := aYi h ex ey
  simp [h1]
 ·rw [ltE h ex ey, ltE h ey ex]
  simp only [decide_eq_true_eq]
  rcases Int.lt_trichotomy (eM l x) (eM l y) with h1 | h1 | h1
  ·exact .inl (.inr h1)
  ·exact .inl (.inl (aCh h ex ey h1))
  ·exact .inr h1
 ·have ez := zW hz
  rw [ltE h ex ey, ltE h ey ez, ltE h ex ez]
  simp only [Bool.and_eq_false_iff, decide_eq_false_iff_not, decide_eq_true_eq]
  omega
theorem uF {l : aN} (h : WF l) : fH l = some (bF l) := by
 have e1 : (fun p : Int × aA => (iB l.players p.1).getD false) = fun p => isE l.players p.1 := by
  funext p
  rw [yQ]; rfl
 have hc := h.cnt
 have hl : (tV l).length ≤ 60 := by
  unfold tV
  rw [List.length_map]
  exact Nat.le_trans (List.length_filter_le _ _) hc
 unfold fH
 rw [if_pos (by omega), e1]
 unfold uW
 rw [if_pos ⟨aPp h, by show (tV l).length < _; omega⟩]
 rfl
theorem jV {l : aN} {n : Int} : n ∈ bF l ↔ isE l.players n = true := by
 unfold bF
 rw [(kB _ _).mem_iff]
 exact aCq
theorem jU {l : aN} (h : WF l) : (bF l).length ≤ 60 := by
 unfold bF
 rw [(kB _ _).length_eq]
 unfold tV
 rw [List.length_map]
 exact Nat.le_trans (List.length_filter_le _ _) h.cnt
theorem aLx {l : aN} {n : Int} (h : n ∈ bF l) : (pl l n).entered = true := zW (aCq.2 (jV.1 h))
theorem qF {l : aN} (h : WF l) : (bF l).Pairwise fun a b => eM l a < eM l b := by
 have hs := uV (aPp h)
 have hn : (bF l).Nodup := by
  refine (kB _ _).nodup_iff.2 ?_
  unfold tV
  refine List.Nodup.sublist ?_ h.keys
  exact (List.filter_sublist).map _
 refine List.Pairwise.imp_of_mem (fun {a b} ha hb hab => ?_) (hs.and hn)
 have ea := aLx (l := l) ha
 have eb := aLx (l := l) hb
 rw [ltE h eb ea] at hab
 have h1 := hab.1
 simp at h1
 rcases Int.lt_or_eq_of_le h1 with h2 | h2
 ·exact h2
 ·exact absurd (aCh h ea eb h2) hab.2
theorem pT {l : aN} (h : WF l) : (bF l).Nodup := (qF h).imp fun {a b} hab e => by subst e; omega
def gd (l : aN) (xs : List Int) : Nat := (xs.filter fun n => (pl l n).guard).length
theorem aEf (l : aN) (xs : List Int) (hb : xs.length ≤ 1000) : kE l xs = some ((gd l xs : Nat) : Int) := by
 have key := mG (S := Int) (fun k i s => iA l xs (xs.length : Int) k s i) xs.length (fun i s => some (s + ((gd l (xs.drop i) : Nat) : Int))) (fun i s => 0 ≤ s ∧ s ≤ i) (fun k i s hi hI ih => ?_) (fun k s hI => ?_) BIG 0 (dP (by omega)) ⟨Int.le_refl _, Int.le_refl _⟩
 ·unfold kE
  rw [key]
  simp
 ·have hlt : decide ((i : Int) < (xs.length : Int)) = true := decide_eq_true (by omega)
  simp only [iA, hlt, cond_true, dA hi, Option.bind_some, cF (show i < 9223372036854775807 by omega)]
  rw [show (aL xs[i] (aA.mk false false 0 0 false false false false) l.players) = pl l xs[i] from rfl]
  have hd : gd l (xs.drop i) = (if (pl l xs[i]).guard then 1 else 0) + gd l (xs.drop (i + 1)) := by
   unfold gd
   rw [List.drop_eq_getElem_cons hi, List.filter_cons]
   split <;> simp <;> omega
  rw [hd]
  cases (pl l xs[i]).guard with
  | true =>
   simp only [cond_true, if_true]
   rw [dD (by omega) (by omega), ih _ ⟨by omega, by omega⟩]
   congr 1
   omega
  | false =>
   simp only [cond_false, Bool.false_eq_true, if_false]
   rw [ih _ ⟨by omega, by omega⟩]
   congr 1
   omega
 ·simp [iA, rK, gd]
def plc (l : aN) : Int := l.Field.Places + l.more
theorem tU {l : aN} (h : WF l) : fS l = some (plc l) := by
 have hf := h.fd
 unfold tB at hf
 simp only [Bool.and_eq_true, yA] at hf
 have hm := h.mr
 unfold fS plc
 rw [dD (by omega) (by omega)]
def tA (l : aN) (acc : List Int) : List Int → List Int
 | [] => acc
 | n :: t => tA l (bif decide ((acc.length : Int) < plc l) && (!(pl l n).guard || decide (((gd l acc : Nat) : Int) < l.Field.Guards)) then acc ++ [n] else acc) t
theorem aGw (l : aN) : ∀ (t acc : List Int), (tA l acc t).length ≤ acc.length + t.length
 | [], acc => by simp [tA]
 | n :: t, acc => by
  refine Nat.le_trans (aGw l t _) ?_
  cases decide ((acc.length : Int) < plc l) && (!(pl l n).guard || decide (((gd l acc : Nat) : Int) < l.Field.Guards)) <;> simp <;> omega
def lL (l : aN) : List Int := tA l [] (bF l)
theorem aKh {l : aN} (h : WF l) : mE l = some (lL l) := by
 have hl := jU h
 unfold mE lL
 rw [uF h]
 simp only [Option.bind_some]
 have key := mG (iC l (bF l) ((bF l).length : Int)) (bF l).length (fun i acc => some (tA l acc ((bF l).drop i))) (fun i acc => acc.length ≤ i) (fun k i acc hi hI ih => ?_) (fun k acc hI => ?_) BIG [] (dP (by omega)) (Nat.le_refl _)
 ·rw [key]; simp
 ·have hlt : decide ((i : Int) < ((bF l).length : Int)) = true := decide_eq_true (by omega)
  simp only [iC, hlt, cond_true, dA hi, Option.bind_some, tU h, cF (show i < 9223372036854775807 by omega)]
  rw [show (aL (bF l)[i] (aA.mk false false 0 0 false false false false) l.players) = pl l (bF l)[i] from rfl, aEf l acc (by omega)]
  simp only [Option.bind_some, oP, kZ]
  rw [List.drop_eq_getElem_cons hi, tA]
  cases hc : decide ((acc.length : Int) < plc l) && (!(pl l (bF l)[i]).guard || decide (((gd l acc : Nat) : Int) < l.Field.Guards)) with
  | true =>
   simp only [cond_true]
   rw [fR (by simp; omega), Option.bind_some, ih _ (by simp; omega)]
  | false =>
   simp only [cond_false]
   rw [ih _ (by omega)]
 ·simp [iC, rL, tA]
def bD (l : aN) : List Int := bif l.frozen then l.first ++ l.late else lL l
theorem aIy {l : aN} (h : WF l) (hf : l.first.length ≤ 1000) (hl : l.late.length ≤ 1000) : eL l = some (bD l) := by
 unfold eL bD
 cases l.frozen with
 | true =>
  simp only [Bool.not_true, cond_false, cond_true]
  rw [aRt _ _ (by omega) (by omega)]; rfl
 | false =>
  simp only [Bool.not_false, cond_true, cond_false]
  rw [aKh h]; rfl
def dT (l : aN) : aN := bif l.frozen then l else { l with frozen := true, first := lL l }
theorem aKd {l : aN} (h : WF l) : mD l = some (dT l) := by
 unfold mD dT
 cases hz : l.frozen with
 | true => simp
 | false =>
  simp only [Bool.not_false, cond_true, cond_false]
  rw [aKh h]; rfl
end Go.Am
end
section
namespace Go.Am
theorem aBo (l : aN) (n : Int) : aL n (aA.mk false false 0 0 false false false false) l.players = pl l n := rfl
def bK (l : aN) (x : aO) : aN :=
 let p := pl l x.Player
 bif decide (x.Kind = 1) || decide (x.Kind = 2) then
  bif decide (x.Hour ≤ l.Field.Close) && !p.entered then
   aN.mk l.Field (cR x.Player (aA.mk true (decide (x.Kind = 2)) x.Rank (l.entered + 1) p.quit p.signed p.wild p.had) l.players) l.wilds l.frozen l.first l.late l.more (l.entered + 1)
  else aN.mk l.Field (cR x.Player p l.players) l.wilds l.frozen l.first l.late l.more l.entered
 else bif decide (x.Kind = 3) then
  bif ((decide (x.Hour ≤ l.Field.Freeze) && !p.wild) && !p.quit) && decide ((l.wilds.length : Int) < l.Field.Wilds) then
   aN.mk l.Field (cR x.Player (aA.mk p.entered p.guard p.rank p.turn p.quit p.signed true true) l.players) (l.wilds ++ [x.Player]) l.frozen l.first l.late l.more l.entered
  else aN.mk l.Field (cR x.Player p l.players) l.wilds l.frozen l.first l.late l.more l.entered
 else bif decide (x.Kind = 4) then
  aN.mk l.Field (cR x.Player (aA.mk p.entered p.guard p.rank p.turn true p.signed false p.had) l.players) (l.wilds.filter fun m => !decide (m = x.Player)) l.frozen l.first l.late
   (bif p.wild && decide (l.Field.Freeze < x.Hour) then l.more + 1 else l.more) l.entered
 else bif decide (x.Kind = 5) then
  aN.mk l.Field (cR x.Player (aA.mk p.entered p.guard p.rank p.turn p.quit true p.wild p.had) l.players) l.wilds l.frozen l.first l.late l.more l.entered
 else aN.mk l.Field (cR x.Player p l.players) l.wilds l.frozen l.first l.late l.more l.entered
theorem aXw (l : aN) (x : aO) (he : 0 ≤ l.entered ∧ l.entered ≤ 60) (hm : 0 ≤ l.more ∧ l.more ≤ 60) (hw : l.wilds.length ≤ 1000) : lU l x = some (bK l x) := by
 have hd : cT l.wilds (fun y => fT y x) = some (l.wilds.filter fun m => !decide (m = x.Player)) := aDr l.wilds _ (fun m => decide (m = x.Player)) (fun m _ => rfl) (by omega)
 have ha : app 8 l.wilds [x.Player] = some (l.wilds ++ [x.Player]) := fR (by simp; omega)
 have w1 : w64 (l.entered + 1) = l.entered + 1 := dD (by omega) (by omega)
 have w2 : w64 (l.more + 1) = l.more + 1 := dD (by omega) (by omega)
 unfold lU bK
 simp only [aBo, kZ, Option.bind_some, hd, ha, w1, w2]
 by_cases h1 : x.Kind = 1
 ·simp only [h1, decide_true, cond_true, Bool.true_or]
  cases decide (x.Hour ≤ l.Field.Close) && !(pl l x.Player).entered <;> rfl
 ·by_cases h2 : x.Kind = 2
  ·simp only [h2, decide_true, cond_true, Bool.or_true, show decide ((2 : Int) = 1) = false from rfl, cond_false]
   cases decide (x.Hour ≤ l.Field.Close) && !(pl l x.Player).entered <;> rfl
  ·have e1 : decide (x.Kind = 1) = false := decide_eq_false h1
   have e2 : decide (x.Kind = 2) = false := decide_eq_false h2
   simp only [e1, e2, cond_false, Bool.or_self]
   cases decide (x.Kind = 3) with
   | true =>
    simp only [cond_true]
    cases ((decide (x.Hour ≤ l.Field.Freeze) && !(pl l x.Player).wild) && !(pl l x.Player).quit) && decide ((l.wilds.length : Int) < l.Field.Wilds) <;> rfl
   | false =>
    simp only [cond_false]
    cases decide (x.Kind = 4) with
    | true =>
     simp only [cond_true]
     cases (pl l x.Player).wild && decide (l.Field.Freeze < x.Hour) <;> rfl
    | false =>
     simp only [cond_false]
     cases decide (x.Kind = 5) <;> rfl
theorem aEl {α β : Type} [DecidableEq α] (a : α) (v : β) : ∀ m : List (α × β), (cR a v m).map Prod.fst = if a ∈ m.map Prod.fst then m.map Prod.fst else m.map Prod.fst ++ [a]
 | [] => rfl
 | (b, u) :: m => by
  simp only [cR]
  by_cases h : a = b
  ·subst h; simp
  ·simp only [h, decide_false, cond_false, List.map_cons, aEl a v m, List.mem_cons, false_or]
   split <;> simp
theorem aQq {α β : Type} [DecidableEq α] {a : α} {v : β} {m : List (α × β)} (h : (m.map Prod.fst).Nodup) : ((cR a v m).map Prod.fst).Nodup := by
 rw [aEl]
 split
 ·exact h
 ·rename_i hn
  rw [List.nodup_append]
  exact ⟨h, by simp, fun x hx y hy => by simp at hy; subst hy; exact fun e => hn (e ▸ hx)⟩
theorem aUz {α β : Type} [DecidableEq α] (a : α) (v : β) (m : List (α × β)) : (cR a v m).length ≤ m.length + 1 := by
 have := congrArg List.length (aEl a v m)
 rw [List.length_map] at this
 rw [this]
 split <;> simp
structure Cn (l : aN) (i : Nat) : Prop where
 pls : l.players.length ≤ i
 ent : l.entered ≤ i
 mr : l.more ≤ i
 wl : l.wilds.length ≤ i
def upP (l : aN) (x : aO) : aA :=
 let p := pl l x.Player
 bif decide (x.Kind = 1) || decide (x.Kind = 2) then
  bif decide (x.Hour ≤ l.Field.Close) && !p.entered then aA.mk true (decide (x.Kind = 2)) x.Rank (l.entered + 1) p.quit p.signed p.wild p.had else p
 else bif decide (x.Kind = 3) then
  bif ((decide (x.Hour ≤ l.Field.Freeze) && !p.wild) && !p.quit) && decide ((l.wilds.length : Int) < l.Field.Wilds) then aA.mk p.entered p.guard p.rank p.turn p.quit p.signed true true else p
 else bif decide (x.Kind = 4) then aA.mk p.entered p.guard p.rank p.turn true p.signed false p.had
 else bif decide (x.Kind = 5) then aA.mk p.entered p.guard p.rank p.turn p.quit true p.wild p.had
 else p
theorem uB (l : aN) (x : aO) : (bK l x).players = cR x.Player (upP l x) l.players := by
 unfold bK upP
 cases decide (x.Kind = 1) || decide (x.Kind = 2) with
 | true => simp only [cond_true]; cases decide (x.Hour ≤ l.Field.Close) && !(pl l x.Player).entered <;> rfl
 | false =>
  simp only [cond_false]
  cases decide (x.Kind = 3) with
  | true => simp only [cond_true]; cases ((decide (x.Hour ≤ l.Field.Freeze) && !(pl l x.Player).wild) && !(pl l x.Player).quit) && decide ((l.wilds.length : Int) < l.Field.Wilds) <;> rfl
  | false =>
   simp only [cond_false]
   cases decide (x.Kind = 4) with
   | true => rfl
   | false => simp only [cond_false]; cases decide (x.Kind = 5) <;> rfl
theorem nV (l : aN) (x : aO) (n : Int) : pl (bK l x) n = bif decide (n = x.Player) then upP l x else pl l n := by
 unfold pl
 rw [uB, rB]
theorem kY (l : aN) (x : aO) : (bK l x).Field = l.Field ∧ (bK l x).frozen = l.frozen ∧ (bK l x).first = l.first ∧ (bK l x).late = l.late := by
 unfold bK
 cases decide (x.Kind = 1) || decide (x.Kind = 2) with
 | true => simp only [cond_true]; cases decide (x.Hour ≤ l.Field.Close) && !(pl l x.Player).entered <;> exact ⟨rfl, rfl, rfl, rfl⟩
 | false =>
  simp only [cond_false]
  cases decide (x.Kind = 3) with
  | true => simp only [cond_true]; cases ((decide (x.Hour ≤ l.Field.Freeze) && !(pl l x.Player).wild) && !(pl l x.Player).quit) && decide ((l.wilds.length : Int) < l.Field.Wilds) <;> exact ⟨rfl, rfl, rfl, rfl⟩
  | false =>
   simp only [cond_false]
   cases decide (x.Kind = 4) with
   | true => exact ⟨rfl, rfl, rfl, rfl⟩
   | false => simp only [cond_false]; cases decide (x.Kind = 5) <;> exact ⟨rfl, rfl, rfl, rfl⟩
def rW (l : aN) (x : aO) : Bool := (decide (x.Kind = 1) || decide (x.Kind = 2)) && (decide (x.Hour ≤ l.Field.Close) && !(pl l x.Player).entered)
theorem aEy (l : aN) (x : aO) : (bK l x).entered = (bif rW l x then l.entered + 1 else l.entered) ∧
  (rW l x = true → (upP l x).entered = true ∧ (upP l x).turn = l.entered + 1 ∧ (upP l x).rank = x.Rank ∧ (pl l x.Player).entered = false) ∧
  (rW l x = false → (upP l x).entered = (pl l x.Player).entered ∧ (upP l x).turn = (pl l x.Player).turn ∧ (upP l x).rank = (pl l x.Player).rank) := by
 unfold bK upP rW
 cases decide (x.Kind = 1) || decide (x.Kind = 2) with
 | true =>
  simp only [cond_true, Bool.true_and]
  cases h : decide (x.Hour ≤ l.Field.Close) && !(pl l x.Player).entered with
  | true =>
   simp only [Bool.and_eq_true, Bool.not_eq_true'] at h
   exact ⟨rfl, fun _ => ⟨rfl, rfl, rfl, h.2⟩, fun h => by cases h⟩
  | false => exact ⟨rfl, (fun h => by cases h), fun _ => ⟨rfl, rfl, rfl⟩⟩
 | false =>
  simp only [cond_false, Bool.false_and]
  cases decide (x.Kind = 3) with
  | true => simp only [cond_true]; cases ((decide (x.Hour ≤ l.Field.Freeze) && !(pl l x.Player).wild) && !(pl l x.Player).quit) && decide ((l.wilds.length : Int) < l.Field.Wilds) <;> exact ⟨rfl, (fun h => by cases h), fun _ => ⟨rfl, rfl, rfl⟩⟩
  | false =>
   simp only [cond_false]
   cases decide (x.Kind = 4) with
   | true => exact ⟨rfl, (fun h => by cases h), fun _ => ⟨rfl, rfl, rfl⟩⟩
   | false => simp only [cond_false]; cases decide (x.Kind = 5) <;> exact ⟨rfl, (fun h => by cases h), fun _ => ⟨rfl, rfl, rfl⟩⟩
theorem aEz (l : aN) (x : aO) : (l.more ≤ (bK l x).more ∧ (bK l x).more ≤ l.more + 1) ∧ (bK l x).wilds.length ≤ l.wilds.length + 1 := by
 have hf : (l.wilds.filter fun m => !decide (m = x.Player)).length ≤ l.wilds.length := List.length_filter_le _ _
 unfold bK
 cases decide (x.Kind = 1) || decide (x.Kind = 2) with
 | true => simp only [cond_true]; cases decide (x.Hour ≤ l.Field.Close) && !(pl l x.Player).entered <;> simp <;> omega
 | false =>
  simp only [cond_false]
  cases decide (x.Kind = 3) with
  | true => simp only [cond_true]; cases ((decide (x.Hour ≤ l.Field.Freeze) && !(pl l x.Player).wild) && !(pl l x.Player).quit) && decide ((l.wilds.length : Int) < l.Field.Wilds) <;> simp <;> omega
  | false =>
   simp only [cond_false]
   cases decide (x.Kind = 4) with
   | true => simp only [cond_true]; cases (pl l x.Player).wild && decide (l.Field.Freeze < x.Hour) <;> simp only [cond_true, cond_false] <;> omega
   | false => simp only [cond_false]; cases decide (x.Kind = 5) <;> simp <;> omega
theorem aXx {l : aN} {x : aO} {i : Nat} (h : WF l) (hc : Cn l i) (hi : i < 60) (hx : gQ x = true) : WF (bK l x) ∧ Cn (bK l x) (i + 1) := by
 obtain ⟨hF, _, _, _⟩ := kY l x
 obtain ⟨t1, t2, t3⟩ := aEy l x
 obtain ⟨m1, m2⟩ := aEz l x
 have hent := h.ent
 have hmr := h.mr
 obtain ⟨c1, c2, c3, c4⟩ := hc
 have hpl : (bK l x).players.length ≤ i + 1 := by rw [uB]; have := aUz x.Player (upP l x) l.players; omega
 have hE : 0 ≤ (bK l x).entered ∧ (bK l x).entered ≤ (i : Int) + 1 ∧ l.entered ≤ (bK l x).entered := by rw [t1]; cases rW l x <;> simp only [cond_true, cond_false] <;> omega
 have hrank : rW l x = true → 0 ≤ x.Rank ∧ x.Rank ≤ 9999 := fun he => by
  unfold rW at he
  simp only [Bool.and_eq_true, Bool.or_eq_true, decide_eq_true_eq] at he
  unfold gQ at hx
  simp only [Bool.and_eq_true] at hx
  rcases he.1 with h1 | h1
  ·have := hx.2
   rw [h1] at this
   simpa [wi] using this
  ·have := hx.2
   rw [h1] at this
   simp only [show decide ((2 : Int) = 1) = false from rfl, cond_false, decide_true, cond_true, yA] at this
   omega
 refine ⟨⟨by rw [hF]; exact h.fd, by rw [uB]; exact aQq h.keys, by omega, ⟨hE.1, by omega⟩, ⟨by omega, by omega⟩, fun n hn => ?_, fun n m hn hm he => ?_⟩, ⟨hpl, by omega, by omega, by omega⟩⟩
 ·rw [nV] at hn ⊢
  by_cases hnx : n = x.Player
  ·subst hnx
   simp only [decide_true, cond_true] at hn ⊢
   cases he : rW l x with
   | true =>
    obtain ⟨_, e2, e3, _⟩ := t2 he
    have := hrank he
    rw [t1, he, e2, e3]
    simp only [cond_true]
    omega
   | false =>
    obtain ⟨e1, e2, e3⟩ := t3 he
    rw [e1] at hn
    have := h.turn _ hn
    rw [e2, e3]
    omega
  ·simp only [hnx, decide_false, cond_false] at hn ⊢
   have := h.turn _ hn
   omega
 ·rw [nV] at hn hm
  rw [nV, nV] at he
  by_cases hnx : n = x.Player <;> by_cases hmx : m = x.Player
  ·rw [hnx, hmx]
  ·subst hnx
   simp only [decide_true, cond_true, hmx, decide_false, cond_false] at hn hm he
   cases hen : rW l x with
   | true =>
    have := h.turn _ hm
    have := (t2 hen).2.1
    omega
   | false =>
    obtain ⟨e1, e2, _⟩ := t3 hen
    rw [e1] at hn
    rw [e2] at he
    exact h.inj _ _ hn hm he
  ·subst hmx
   simp only [decide_true, cond_true, hnx, decide_false, cond_false] at hn hm he
   cases hen : rW l x with
   | true =>
    have := h.turn _ hn
    have := (t2 hen).2.1
    omega
   | false =>
    obtain ⟨e1, e2, _⟩ := t3 hen
    rw [e1] at hm
    rw [e2] at he
    exact h.inj _ _ hn hm he
  ·simp only [hnx, hmx, decide_false, cond_false] at hn hm he
   exact h.inj _ _ hn hm he
end Go.Am
end
section
namespace Go.Am
def wl (l : aN) (a b : List Int) : aN := aN.mk l.Field l.players l.wilds l.frozen a b l.more l.entered
theorem aFq {l : aN} (h : WF l) (a b : List Int) : WF (wl l a b) := ⟨h.fd, h.keys, h.cnt, h.ent, h.mr, h.turn, h.inj⟩
def jO (l : aN) (inn : List Int) (n : Int) : Bool := ((pl l n).signed && !decide (n ∈ inn)) && (!(pl l n).guard || decide (((gd l inn : Nat) : Int) < l.Field.Guards))
theorem aUg (l : aN) (inn : List Int) (n : Int) (hb : inn.length ≤ 1000) : mC n l inn = some (jO l inn n) := by
 unfold mC jO
 rw [aBo, aEf l inn hb, vK inn (by omega) n]
 simp only [Option.bind_some, kZ, oP]
theorem aMd (l : aN) (n : Int) : gR n l.players = some (!isE l.players n) := by
 unfold gR
 rw [yQ]; rfl
def iH (l : aN) (first : List Int) : Nat → List Int → List Int
 | 0, late => late
 | k + 1, late => bif decide (((first ++ late).length : Int) < plc l) then (match (bF l).find? (jO l (first ++ late)) with
  | none => late
  | some n => iH l first k (late ++ [n])) else late
theorem qA {l : aN} (h : WF l) : 1 ≤ plc l ∧ plc l ≤ 92 := by
 have hf := h.fd
 unfold tB at hf
 simp only [Bool.and_eq_true, yA] at hf
 have hm := h.mr
 unfold plc
 omega
theorem aQf {α : Type} (p : α → Bool) (xs : List α) (_hb : xs.length ≤ 1000) : (match xs.find? p with
  | none => fE p xs = -1
  | some n => 0 ≤ fE p xs ∧ idx xs (fE p xs) = some n) := by
 cases hf : xs.find? p with
 | none =>
  simp only
  unfold fE
  rw [if_neg]
  intro hl
  have h1 := List.findIdx_getElem (p := p) (w := hl)
  exact (List.find?_eq_none.1 hf) _ (List.getElem_mem hl) h1
 | some n =>
  simp only
  have hl : xs.findIdx p < xs.length := List.findIdx_lt_length_of_exists ⟨n, List.mem_of_find?_eq_some hf, List.find?_some hf⟩
  unfold fE
  rw [if_pos hl]
  refine ⟨by omega, ?_⟩
  rw [dA hl]
  rw [List.find?_eq_getElem?_findIdx, List.getElem?_eq_getElem hl] at hf
  exact hf
theorem aXh {l : aN} (h : WF l) (hfz : l.frozen = true) (first : List Int) : ∀ (d : Nat) (late : List Int) (k K : Nat), (plc l - ((first ++ late).length : Int)).toNat ≤ d → d < K → d ≤ k → (first ++ late).length ≤ 500 →
  jW l.players l.wilds first K late l.Field l.frozen l.more l.entered (first ++ late) = some (wl l first (iH l first k late)) := by
 intro d
 induction d with
 | zero =>
  intro late k K hd hK hk hb
  obtain ⟨K, rfl⟩ : ∃ q, K = q + 1 := ⟨K - 1, by omega⟩
  have hlt : decide (((first ++ late).length : Int) < plc l) = false := decide_eq_false (by omega)
  have hp : fS (aN.mk l.Field l.players l.wilds l.frozen first late l.more l.entered) = some (plc l) := tU (aFq h first late)
  have hg : iH l first k late = late := by
   cases k with
   | zero => rfl
   | succ k => simp only [iH, hlt, cond_false]
  simp only [jW, hp, Option.bind_some, hlt, cond_false, pW, hg]
  rfl
 | succ d ih =>
  intro late k K hd hK hk hb
  obtain ⟨K, rfl⟩ : ∃ q, K = q + 1 := ⟨K - 1, by omega⟩
  obtain ⟨k, rfl⟩ : ∃ q, k = q + 1 := ⟨k - 1, by omega⟩
  have hp : fS (aN.mk l.Field l.players l.wilds l.frozen first late l.more l.entered) = some (plc l) := tU (aFq h first late)
  have hen : fH (aN.mk l.Field l.players l.wilds l.frozen first late l.more l.entered) = some (bF l) := uF (aFq h first late)
  have hix : jB (bF l) (fun y => mC y (aN.mk l.Field l.players l.wilds l.frozen first late l.more l.entered) (first ++ late)) = some (fE (jO l (first ++ late)) (bF l)) :=
   aMp (bF l) _ (jO l (first ++ late)) (fun n _ => aUg (wl l first late) (first ++ late) n (by omega)) (by have := jU h; omega)
  have hfi := aQf (jO l (first ++ late)) (bF l) (by have := jU h; omega)
  simp only [jW, hp, Option.bind_some, iH]
  cases hlt : decide (((first ++ late).length : Int) < plc l) with
  | false =>
   simp only [cond_false, pW]
   rfl
  | true =>
   simp only [cond_true, hen, Option.bind_some, hix]
   have hlt' : ((first ++ late).length : Int) < plc l := by simpa using hlt
   have hp92 := qA h
   cases hf : (bF l).find? (jO l (first ++ late)) with
   | none =>
    rw [hf] at hfi
    simp only at hfi
    rw [hfi]
    rfl
   | some n =>
    rw [hf] at hfi
    simp only at hfi
    rw [decide_eq_false (by omega), cond_false, hfi.2]
    simp only [Option.bind_some]
    have hbl : late.length ≤ 500 := by simp at hb; omega
    rw [fR (by simp; omega)]
    simp only [Option.bind_some]
    have hm : eL (aN.mk l.Field l.players l.wilds l.frozen first (late ++ [n]) l.more l.entered) = some (first ++ (late ++ [n])) := by
     have := aIy (aFq h first (late ++ [n])) (show first.length ≤ 1000 by simp at hb; omega) (show (late ++ [n]).length ≤ 1000 by simp; omega)
     rw [show (aN.mk l.Field l.players l.wilds l.frozen first (late ++ [n]) l.more l.entered) = wl l first (late ++ [n]) from rfl, this]
     unfold bD
     rw [show (wl l first (late ++ [n])).frozen = l.frozen from rfl, hfz]
     rfl
    rw [hm]
    simp only [Option.bind_some]
    refine ih (late ++ [n]) k K ?_ (by omega) (by omega) ?_
    ·simp only [List.length_append, List.length_cons, List.length_nil] at hd hlt' ⊢
     omega
    ·simp only [List.length_append, List.length_cons, List.length_nil] at hb hlt' ⊢
     omega
def kW (l : aN) : aN := wl l (l.first.filter fun n => isE l.players n) (iH l (l.first.filter fun n => isE l.players n) 100 (l.late.filter fun n => isE l.players n))
theorem aXj {l : aN} (h : WF l) (hfz : l.frozen = true) (hb : (l.first ++ l.late).length ≤ 200) : lT l = some (kW l) := by
 have hb' : l.first.length + l.late.length ≤ 200 := by simpa using hb
 have d1 : cT l.first (fun y => gR y l.players) = some (l.first.filter fun n => isE l.players n) := by
  rw [aDr l.first _ (fun n => !isE l.players n) (fun n _ => aMd l n) (by omega)]
  simp
 have d2 : cT l.late (fun y => gR y l.players) = some (l.late.filter fun n => isE l.players n) := by
  rw [aDr l.late _ (fun n => !isE l.players n) (fun n _ => aMd l n) (by omega)]
  simp
 have f1 : (l.first.filter fun n => isE l.players n).length ≤ l.first.length := List.length_filter_le _ _
 have f2 : (l.late.filter fun n => isE l.players n).length ≤ l.late.length := List.length_filter_le _ _
 have hm := aIy (aFq h (l.first.filter fun n => isE l.players n) (l.late.filter fun n => isE l.players n)) (show (l.first.filter fun n => isE l.players n).length ≤ 1000 by omega) (show (l.late.filter fun n => isE l.players n).length ≤ 1000 by omega)
 unfold lT kW
 rw [d1, Option.bind_some, d2, Option.bind_some]
 rw [show (aN.mk l.Field l.players l.wilds l.frozen (l.first.filter fun n => isE l.players n) (l.late.filter fun n => isE l.players n) l.more l.entered) = wl l (l.first.filter fun n => isE l.players n) (l.late.filter fun n => isE l.players n) from rfl, hm, Option.bind_some]
 unfold bD
 rw [show (wl l (l.first.filter fun n => isE l.players n) (l.late.filter fun n => isE l.players n)).frozen = l.frozen from rfl]
 rw [show (bif l.frozen then (wl l (l.first.filter fun n => isE l.players n) (l.late.filter fun n => isE l.players n)).first ++ (wl l (l.first.filter fun n => isE l.players n) (l.late.filter fun n => isE l.players n)).late else lL (wl l (l.first.filter fun n => isE l.players n) (l.late.filter fun n => isE l.players n))) = (l.first.filter fun n => isE l.players n) ++ (l.late.filter fun n => isE l.players n) by rw [hfz]; rfl]
 have hp := qA h
 exact aXh h hfz _ 100 _ 100 BIG (by omega) (dP (by omega)) (Nat.le_refl _) (by simp only [List.length_append]; omega)
theorem aJr {l : aN} (h : WF l) (first : List Int) : ∀ (k : Nat) (late : List Int), (first ++ iH l first k late).length ≤ max (first ++ late).length 92
 | 0, late => by simp only [iH]; omega
 | k + 1, late => by
  have hp := qA h
  simp only [iH]
  cases hlt : decide (((first ++ late).length : Int) < plc l) with
  | false => simp only [cond_false]; omega
  | true =>
   simp only [cond_true]
   have hlt' : ((first ++ late).length : Int) < plc l := by simpa using hlt
   cases (bF l).find? (jO l (first ++ late)) with
   | none => simp only; omega
   | some n =>
    simp only
    have := aJr h first k (late ++ [n])
    simp only [List.length_append, List.length_cons, List.length_nil] at this hlt' ⊢
    omega
def cA (l : aN) (x : aO) : aN :=
 let l2 := bK (bif decide (l.Field.Freeze < x.Hour) then dT l else l) x
 bif l2.frozen then kW l2 else l2
structure gE (f : aT) (l : aN) (i : Nat) : Prop where
 wf : WF l
 cn : Cn l i
 fd : l.Field = f
 len : (l.first ++ l.late).length ≤ 92
 fz : l.frozen = false → l.first = [] ∧ l.late = []
theorem nK {f : aT} {l : aN} {i : Nat} (h : gE f l i) : gE f (dT l) i := by
 unfold dT
 cases hz : l.frozen with
 | true => exact h
 | false =>
  obtain ⟨_, hlate⟩ := h.fz hz
  simp only [cond_false]
  refine ⟨⟨h.wf.fd, h.wf.keys, h.wf.cnt, h.wf.ent, h.wf.mr, h.wf.turn, h.wf.inj⟩, ⟨h.cn.pls, h.cn.ent, h.cn.mr, h.cn.wl⟩, h.fd, ?_, fun h => by cases h⟩
  show (lL l ++ l.late).length ≤ 92
  have h1 := aGw l (bF l) []
  have h2 := jU h.wf
  rw [hlate]
  simp only [List.append_nil]
  unfold lL
  simp only [List.length_nil] at h1
  omega
theorem tZ {f : aT} {l : aN} {x : aO} {i : Nat} (h : gE f l i) (hi : i < 60) (hx : gQ x = true) : gE f (bK l x) (i + 1) := by
 obtain ⟨h1, h2⟩ := aXx h.wf h.cn hi hx
 obtain ⟨g1, g2, g3, g4⟩ := kY l x
 exact ⟨h1, h2, by rw [g1]; exact h.fd, by rw [g3, g4]; exact h.len, fun hz => by rw [g2] at hz; rw [g3, g4]; exact h.fz hz⟩
theorem aJu {f : aT} {l : aN} {i : Nat} (h : gE f l i) (hz : l.frozen = true) : gE f (kW l) i := by
 have hl : l.first.length + l.late.length ≤ 92 := by have := h.len; simpa using this
 have f1 : (l.first.filter fun n => isE l.players n).length ≤ l.first.length := List.length_filter_le _ _
 have f2 : (l.late.filter fun n => isE l.players n).length ≤ l.late.length := List.length_filter_le _ _
 refine ⟨aFq h.wf _ _, ⟨h.cn.pls, h.cn.ent, h.cn.mr, h.cn.wl⟩, h.fd, ?_, fun hf => ?_⟩
 ·have := aJr h.wf (l.first.filter fun n => isE l.players n) 100 (l.late.filter fun n => isE l.players n)
  simp only [List.length_append] at this
  show ((l.first.filter fun n => isE l.players n) ++ iH l (l.first.filter fun n => isE l.players n) 100 (l.late.filter fun n => isE l.players n)).length ≤ 92
  simp only [List.length_append]
  omega
 ·have : l.frozen = false := hf
  rw [hz] at this; cases this
theorem qD {f : aT} {l : aN} {x : aO} {i : Nat} (h : gE f l i) (hi : i < 60) (hx : gQ x = true) : gE f (cA l x) (i + 1) := by
 unfold cA
 have h1 : gE f (bif decide (l.Field.Freeze < x.Hour) then dT l else l) i := by
  cases decide (l.Field.Freeze < x.Hour) with
  | true => exact nK h
  | false => exact h
 have h2 := tZ h1 hi hx
 simp only
 cases hz : (bK (bif decide (l.Field.Freeze < x.Hour) then dT l else l) x).frozen with
 | true => exact aJu h2 hz
 | false => exact h2
def eI (f : aT) : aN := aN.mk f [] [] false [] [] 0 0
theorem jX {f : aT} (hf : tB f = true) : gE f (eI f) 0 :=
 ⟨⟨hf, .nil, by simp [eI], ⟨Int.le_refl _, by simp [eI]⟩, ⟨Int.le_refl _, by simp [eI]⟩, fun n h => by simp [pl, eI, aL] at h, fun n m h => by simp [pl, eI, aL] at h⟩, ⟨by simp [eI], by simp [eI], by simp [eI], by simp [eI]⟩, rfl, by simp [eI], fun _ => ⟨rfl, rfl⟩⟩
def rP (hour : Int) (l : aN) : List aO → aN
 | [] => l
 | x :: t => bif decide (hour < x.Hour) then l else rP hour (cA l x) t
def pK (hour : Int) (l : aN) : aN := bif decide (l.Field.Freeze < hour) then dT l else l
theorem wX {f : aT} (hour : Int) : ∀ (t : List aO) (l : aN) (i : Nat), gE f l i → i + t.length ≤ 60 → (∀ x ∈ t, gQ x = true) → ∃ j, j ≤ 60 ∧ gE f (rP hour l t) j
 | [], l, i, h, hi, _ => ⟨i, by simpa using hi, h⟩
 | x :: t, l, i, h, hi, hx => by
  simp only [rP]
  cases decide (hour < x.Hour) with
  | true => exact ⟨i, by simp at hi; omega, h⟩
  | false =>
   simp only [List.length_cons] at hi
   exact wX hour t _ (i + 1) (qD h (by omega) (hx x (by simp))) (by omega) fun y hy => hx y (by simp [hy])
def bV (f : aT) (l : List aO) (hour : Int) : aN := pK hour (rP hour (eI f) (dC l))
theorem aTy {f : aT} (T : List aO) (hT : ∀ x ∈ T, gQ x = true) (hl : T.length ≤ 60) (hour : Int) : ∀ (d i k : Nat) (l : aN), T.length - i = d → d < k → i ≤ T.length → gE f l i →
  gY hour (T.length : Int) f T k (i : Int) l.players l.wilds l.first l.late l.Field l.frozen l.more l.entered = some (some (pK hour (rP hour l (T.drop i)))) := by
 have hend : ∀ {l : aN} {i : Nat}, gE f l i → oO hour f l.players l.wilds l.first l.late l.Field l.frozen l.more l.entered = some (some (pK hour l)) := by
  intro l i h
  unfold oO pK
  rw [h.fd]
  cases decide (f.Freeze < hour) with
  | true =>
   simp only [cond_true]
   have := aKd h.wf
   rw [show (aN.mk f l.players l.wilds l.frozen l.first l.late l.more l.entered) = l by rw [← h.fd], this]
   rfl
  | false =>
   simp only [cond_false]
   rw [show (aN.mk f l.players l.wilds l.frozen l.first l.late l.more l.entered) = l by rw [← h.fd]]
 intro d
 induction d with
 | zero =>
  intro i k l hd hk hi h
  obtain ⟨k, rfl⟩ : ∃ q, k = q + 1 := ⟨k - 1, by omega⟩
  have : i = T.length := by omega
  subst this
  simp only [gY, Int.lt_irrefl, decide_false, cond_false, List.drop_length, rP]
  exact hend h
 | succ d ih =>
  intro i k l hd hk hi h
  obtain ⟨k, rfl⟩ : ∃ q, k = q + 1 := ⟨k - 1, by omega⟩
  have hil : i < T.length := by omega
  have hlt : decide ((i : Int) < (T.length : Int)) = true := decide_eq_true (by omega)
  have hw : w64 ((i : Int) + 1) = ((i + 1 : Nat) : Int) := cF (by omega)
  have hx : gQ T[i] = true := hT _ (List.getElem_mem hil)
  rw [List.drop_eq_getElem_cons hil, rP]
  simp only [gY, hlt, cond_true, dA hil, Option.bind_some, hw]
  cases decide (hour < T[i].Hour) with
  | true => simp only [cond_true]; exact hend h
  | false =>
   simp only [cond_false]
   have hmk : (aN.mk l.Field l.players l.wilds l.frozen l.first l.late l.more l.entered) = l := rfl
   have goon : ∀ (l1 : aN), gE f l1 i → ((lU l1 T[i]).bind fun r25 =>
     bif r25.frozen then ((lT r25).bind fun r31 =>
     (gY hour (T.length : Int) f T k) ((i + 1 : Nat) : Int) r31.players r31.wilds r31.first r31.late r31.Field r31.frozen r31.more r31.entered)
     else ((gY hour (T.length : Int) f T k) ((i + 1 : Nat) : Int) r25.players r25.wilds r25.first r25.late r25.Field r25.frozen r25.more r25.entered)) =
     some (some (pK hour (rP hour (bif (bK l1 T[i]).frozen then kW (bK l1 T[i]) else bK l1 T[i]) (T.drop (i + 1))))) := by
    intro l1 h1
    have hwl := h1.cn.wl
    rw [aXw l1 T[i] h1.wf.ent h1.wf.mr (by omega)]
    simp only [Option.bind_some]
    have h2 := tZ h1 (by omega) hx
    cases hz : (bK l1 T[i]).frozen with
    | true =>
     simp only [cond_true]
     rw [aXj h2.wf hz (by have := h2.len; omega)]
     simp only [Option.bind_some]
     exact ih (i + 1) k _ (by omega) (by omega) (by omega) (aJu h2 hz)
    | false =>
     simp only [cond_false]
     have := ih (i + 1) k _ (by omega) (by omega) (by omega) h2
     rw [hz] at this
     exact this
   unfold cA
   rw [h.fd]
   cases decide (f.Freeze < T[i].Hour) with
   | true =>
    simp only [cond_true]
    have hfz := aKd h.wf
    rw [show (aN.mk f l.players l.wilds l.frozen l.first l.late l.more l.entered) = l by rw [← h.fd], hfz]
    simp only [Option.bind_some]
    exact goon (dT l) (nK h)
   | false =>
    simp only [cond_false]
    rw [show (aN.mk f l.players l.wilds l.frozen l.first l.late l.more l.entered) = l by rw [← h.fd]]
    exact goon l h
theorem qE (l : List aO) : (dC l).length ≤ l.length := by
 unfold dC
 have h1 := (kB (fun a b => eZ a b) l).length_eq
 rw [← h1]
 cases eS (fun a b => eZ a b) l with
 | nil => simp [tH]
 | cons p t => simp only [tH, List.length_cons]; have := (aUq p t).length_le; omega
theorem aLk {f : aT} {l : List aO} (h : VL f l) (hour : Int) : sE f l hour = some (some (bV f l hour)) := by
 have hb : ∀ x ∈ l, bN x := fun x hx => yM (h.nt x hx)
 obtain ⟨e1, e2⟩ := aYm h.len hb h.id
 have hT := qE l
 have hlen := h.len
 unfold sE pC
 rw [Option.bind_some, e1, Option.bind_some, e2, Option.bind_some]
 exact aTy (dC l) (fun x hx => h.nt x ((fK x).1 hx)) (by omega) hour _ 0 BIG (eI f) rfl (dP (by omega)) (Nat.zero_le _) (jX h.fd)
theorem vN {f : aT} {l : List aO} (h : VL f l) (hour : Int) : ∃ j, j ≤ 60 ∧ gE f (bV f l hour) j := by
 have hT := qE l
 have hlen := h.len
 obtain ⟨j, hj, hg⟩ := wX hour (dC l) (eI f) 0 (jX h.fd) (by omega) fun x hx => h.nt x ((fK x).1 hx)
 refine ⟨j, hj, ?_⟩
 unfold bV pK
 cases decide ((rP hour (eI f) (dC l)).Field.Freeze < hour) with
 | true => exact nK hg
 | false => exact hg
end Go.Am
end
section
namespace Go.Am
theorem aMx (l : aN) : ∀ (t acc : List Int) {n : Int}, n ∈ tA l acc t → n ∈ acc ∨ n ∈ t
 | [], acc, n, h => .inl h
 | m :: t, acc, n, h => by
  rcases aMx l t _ h with h1 | h1
  ·cases hc : decide ((acc.length : Int) < plc l) && (!(pl l m).guard || decide (((gd l acc : Nat) : Int) < l.Field.Guards)) with
   | true =>
    rw [hc] at h1
    simp only [cond_true, List.mem_append, List.mem_singleton] at h1
    rcases h1 with h1 | h1
    ·exact .inl h1
    ·exact .inr (by simp [h1])
   | false =>
    rw [hc] at h1
    exact .inl h1
  ·exact .inr (by simp [h1])
theorem nM {f : aT} {l : aN} {i : Nat} (h : gE f l i) : (bD l).length ≤ 92 := by
 unfold bD
 cases l.frozen with
 | true => exact h.len
 | false =>
  simp only [cond_false]
  have h1 := aGw l (bF l) []
  have h2 := jU h.wf
  unfold lL
  simp only [List.length_nil] at h1
  omega
theorem zT {f : aT} {l : aN} {i : Nat} (h : gE f l i) : eL l = some (bD l) := by
 have := h.len
 simp only [List.length_append] at this
 exact aIy h.wf (by omega) (by omega)
def vC (l : aN) : List Int := (bF l).filter fun n => !decide (n ∈ bD l)
theorem aNf {f : aT} {l : aN} {i : Nat} (h : gE f l i) : kC l = some (vC l) := by
 have hm := nM h
 unfold kC vC
 rw [zT h, Option.bind_some, uF h.wf, Option.bind_some]
 rw [aDr (bF l) _ (fun n => decide (n ∈ bD l)) (fun n _ => by unfold mY; rw [vK _ (by omega)]; rfl) (by have := jU h.wf; omega)]
 rfl
theorem qS (f : aT) (l : List aO) (hour player : Int) : pX f l hour player = some (bif !decide (nE f l = 0) then (none, nE f l) else bif !wi hour 0 9999 || !wi player 0 999 then (none, 1) else (some (bV f l hour), 0)) := by
 unfold pX
 rw [aRz, Option.bind_some]
 cases hc : decide (nE f l = 0) with
 | false => rfl
 | true =>
  simp only [Bool.not_true, cond_false, aIs, Option.bind_some, oP]
  cases !wi hour 0 9999 || !wi player 0 999 with
  | true => rfl
  | false =>
   simp only [cond_false]
   rw [aLk (kV.1 (by simpa using hc)) hour]
   rfl
def aQn (f : aT) (l : List aO) (hour : Int) : dK :=
 dK.mk (bD (bV f l hour)) (bV f l hour).wilds (vC (bV f l hour)) (plc (bV f l hour) - ((bD (bV f l hour)).length : Int))
theorem aWm {f : aT} {l : List aO} (h : VL f l) {hour : Int} (hh : wi hour 0 9999 = true) : uG f l hour = some (aQn f l hour, 0) := by
 obtain ⟨i, hi, hg⟩ := vN h hour
 have hm := nM hg
 have hp := qA hg.wf
 unfold uG aQn
 rw [qS, kV.2 h, hh]
 simp only [decide_true, Bool.not_true, cond_false, show wi 0 0 999 = true from rfl, Bool.or_self, Option.bind_some]
 rw [zT hg, Option.bind_some, aNf hg, Option.bind_some, tU hg.wf, Option.bind_some, dD (by omega) (by omega)]
end Go.Am
end
section
namespace Go.Am
def sC (a b c : List Int) (p : Int) : Int × Int :=
 bif decide (0 ≤ fE (fun x => decide (p = x)) a) then (1, fE (fun x => decide (p = x)) a + 1)
 else bif decide (0 ≤ fE (fun x => decide (p = x)) b) then (2, fE (fun x => decide (p = x)) b + 1)
 else bif decide (0 ≤ fE (fun x => decide (p = x)) c) then (3, fE (fun x => decide (p = x)) c + 1)
 else (0, 0)
theorem xC {α : Type} (p : α → Bool) (xs : List α) : -1 ≤ fE p xs ∧ fE p xs ≤ xs.length := by
 unfold fE
 split <;> omega
theorem aVn (a b c : List Int) (p : Int) (ha : a.length ≤ 1000) (hb : b.length ≤ 1000) (hc : c.length ≤ 1000) : kS p [a, b, c] 3 BIG 0 = some (sC a b c p) := by
 obtain ⟨k, hk⟩ : ∃ k, BIG = k + 1 + 1 + 1 + 1 := ⟨BIG - 4, by unfold BIG; omega⟩
 have i1 := aNk a p (by omega)
 have i2 := aNk b p (by omega)
 have i3 := aNk c p (by omega)
 have r1 := xC (fun x => decide (p = x)) a
 have r2 := xC (fun x => decide (p = x)) b
 have r3 := xC (fun x => decide (p = x)) c
 rw [hk]
 unfold sC
 simp only [kS, sY, show decide ((0 : Int) < 3) = true from rfl, cond_true, show idx [a, b, c] 0 = some a from rfl, Option.bind_some, show w64 (0 + 1) = 1 from rfl, show decide ((1 : Int) < 3) = true from rfl, show idx [a, b, c] 1 = some b from rfl, show w64 (1 + 1) = 2 from rfl, show decide ((2 : Int) < 3) = true from rfl, show idx [a, b, c] 2 = some c from rfl, show w64 (2 + 1) = 3 from rfl, show decide ((3 : Int) < 3) = false from rfl, cond_false, i1, i2, i3]
 rw [dD (by omega) (by omega), dD (by omega) (by omega), dD (by omega) (by omega)]
 cases decide (0 ≤ fE (fun x => decide (p = x)) a) <;> cases decide (0 ≤ fE (fun x => decide (p = x)) b) <;> cases decide (0 ≤ fE (fun x => decide (p = x)) c) <;> rfl
def pD (l : aN) (p : Int) : Int × Int := sC (bD l) l.wilds (vC l) p
theorem aCn {l : aN} (h : WF l) : (vC l).length ≤ 60 := Nat.le_trans (List.length_filter_le _ _) (jU h)
theorem aHc {f : aT} {l : aN} {i : Nat} (h : gE f l i) (hi : i ≤ 60) (p : Int) : mZ l p = some (pD l p) := by
 have hm := nM h
 have ho := aCn h.wf
 have hw := h.cn.wl
 unfold mZ pD
 rw [zT h, Option.bind_some, aNf h, Option.bind_some]
 exact aVn _ _ _ p (by omega) (by omega) (by omega)
def aCg (l : aN) (n : Int) : List Int → List Int
 | [] => [n]
 | m :: t => bif decide (eM l n < eM l m) then n :: m :: t else m :: aCg l n t
theorem aEi (l : aN) (n : Int) : ∀ t : List Int, (aCg l n t).Perm (n :: t)
 | [] => .refl _
 | m :: t => by
  simp only [aCg]
  cases decide (eM l n < eM l m) with
  | true => exact .refl _
  | false => exact ((aEi l n t).cons m).trans (.swap _ _ _)
theorem aGc (l : aN) (n : Int) : ∀ t : List Int, t.Pairwise (fun a b => eM l a < eM l b) → (∀ m ∈ t, eM l m ≠ eM l n) → (aCg l n t).Pairwise fun a b => eM l a < eM l b
 | [], _, _ => List.pairwise_singleton _ _
 | m :: t, hs, hne => by
  have h1 := List.pairwise_cons.1 hs
  simp only [aCg]
  cases hc : decide (eM l n < eM l m) with
  | true =>
   simp only [decide_eq_true_eq] at hc
   refine List.pairwise_cons.2 ⟨fun b hb => ?_, hs⟩
   rcases List.mem_cons.1 hb with rfl | hb
   ·exact hc
   ·exact Int.lt_trans hc (h1.1 b hb)
  | false =>
   simp only [decide_eq_false_iff_not] at hc
   refine List.pairwise_cons.2 ⟨fun b hb => ?_, aGc l n t h1.2 fun x hx => hne x (by simp [hx])⟩
   rcases List.mem_cons.1 ((aEi l n t).mem_iff.1 hb) with rfl | hb
   ·have := hne m (by simp); omega
   ·exact h1.1 b hb
def aQc (l : aN) : List Int := (tV l).foldr (aCg l) []
theorem aDx (l : aN) : ∀ t : List Int, (t.foldr (aCg l) []).Perm t
 | [] => .refl _
 | n :: t => (aEi l n _).trans ((aDx l t).cons n)
theorem aAi {l : aN} (h : WF l) : bF l = aQc l := by
 have hn : (tV l).Nodup := by
  unfold tV
  exact h.keys.sublist ((List.filter_sublist).map _)
 have hs : ∀ t : List Int, t.Nodup → (∀ n ∈ t, (pl l n).entered = true) → (t.foldr (aCg l) []).Pairwise fun a b => eM l a < eM l b := by
  intro t
  induction t with
  | nil => intro _ _; exact .nil
  | cons n t ih =>
   intro hn he
   have h1 := List.nodup_cons.1 hn
   refine aGc l n _ (ih h1.2 fun m hm => he m (by simp [hm])) fun m hm e => ?_
   have hmt := (aDx l t).mem_iff.1 hm
   have := aCh h (he m (by simp [hmt])) (he n (by simp)) e
   subst this
   exact h1.1 hmt
 refine mK (key := eM l) (qF h) (hs (tV l) hn fun n hm => zW hm) fun n => ?_
 rw [jV]
 show isE l.players n = true ↔ n ∈ (tV l).foldr (aCg l) []
 rw [(aDx l (tV l)).mem_iff, aCq]
def aFj (l : aN) : List Int := tA l [] (aQc l)
theorem aCj {l : aN} (h : WF l) : lL l = aFj l := by
 unfold lL aFj
 rw [aAi h]
def yR (l : aN) : List Int := bif l.frozen then l.first ++ l.late else aFj l
theorem aGx {l : aN} (h : WF l) : bD l = yR l := by
 unfold bD yR
 rw [aCj h]
def aEo (l : aN) : List Int := (aQc l).filter fun n => !decide (n ∈ yR l)
theorem aPm {l : aN} (h : WF l) : vC l = aEo l := by
 unfold vC aEo
 rw [aGx h, aAi h]
def aBl (l : aN) : aN := bif l.frozen then l else { l with frozen := true, first := aFj l }
theorem aHu {l : aN} (h : WF l) : dT l = aBl l := by
 unfold dT aBl
 rw [aCj h]
def aHq (l : aN) (es : List Int) (first : List Int) : Nat → List Int → List Int
 | 0, late => late
 | k + 1, late => bif decide (((first ++ late).length : Int) < plc l) then (match es.find? (jO l (first ++ late)) with
  | none => late
  | some n => aHq l es first k (late ++ [n])) else late
theorem aJn {l : aN} (first : List Int) : ∀ (k : Nat) (late : List Int), iH l first k late = aHq l (bF l) first k late
 | 0, _ => rfl
 | k + 1, late => by
  simp only [iH, aHq]
  cases (bF l).find? (jO l (first ++ late)) with
  | none => rfl
  | some n => simp only; rw [aJn first k (late ++ [n])]
def aQe (l : aN) : aN := wl l (l.first.filter fun n => isE l.players n) (aHq l (aQc l) (l.first.filter fun n => isE l.players n) 100 (l.late.filter fun n => isE l.players n))
theorem aUh {l : aN} (h : WF l) : kW l = aQe l := by
 unfold kW aQe
 rw [aJn, aAi h]
def aRd (l : aN) (x : aO) : aN :=
 let l2 := bK (bif decide (l.Field.Freeze < x.Hour) then aBl l else l) x
 bif l2.frozen then aQe l2 else l2
theorem aVo {f : aT} {l : aN} {x : aO} {i : Nat} (h : gE f l i) (hi : i < 60) (hx : gQ x = true) : cA l x = aRd l x := by
 have h1 : gE f (bif decide (l.Field.Freeze < x.Hour) then dT l else l) i := by
  cases decide (l.Field.Freeze < x.Hour) with
  | true => exact nK h
  | false => exact h
 have h2 := tZ h1 hi hx
 have e1 : (bif decide (l.Field.Freeze < x.Hour) then dT l else l) = bif decide (l.Field.Freeze < x.Hour) then aBl l else l := by rw [aHu h.wf]
 unfold cA aRd
 simp only
 rw [e1] at h2 ⊢
 rw [aUh h2.wf]
def aNn (hour : Int) (l : aN) : List aO → aN
 | [] => l
 | x :: t => bif decide (hour < x.Hour) then l else aNn hour (aRd l x) t
theorem aPq {f : aT} (hour : Int) : ∀ (t : List aO) (l : aN) (i : Nat), gE f l i → i + t.length ≤ 60 → (∀ x ∈ t, gQ x = true) → rP hour l t = aNn hour l t
 | [], _, _, _, _, _ => rfl
 | x :: t, l, i, h, hi, hx => by
  simp only [List.length_cons] at hi
  simp only [rP, aNn]
  rw [← aVo h (by omega) (hx x (by simp)), aPq hour t _ (i + 1) (qD h (by omega) (hx x (by simp))) (by omega) fun y hy => hx y (by simp [hy])]
def aUc (hour : Int) (l : aN) : aN := bif decide (l.Field.Freeze < hour) then aBl l else l
theorem aRf {f : aT} {l : List aO} (h : VL f l) (hs : l.Pairwise fun x y => dS x < dS y) (hour : Int) : bV f l hour = aUc hour (aNn hour (eI f) l) := by
 have hb : ∀ x ∈ l, bN x := fun x hx => yM (h.nt x hx)
 have ht : dC l = l := mK (oA hb h.id) hs fun x => fK x
 have hlen := h.len
 obtain ⟨j, hj, hg⟩ := wX hour l (eI f) 0 (jX h.fd) (by omega) h.nt
 unfold bV pK aUc
 rw [ht, aHu hg.wf, aPq hour l (eI f) 0 (jX h.fd) (by omega) h.nt]
end Go.Am
end
section
namespace Go.Am
def qJ (p : Int) : List Int → List Int
 | [] => []
 | y :: t => if y = p then qJ p t else y :: qJ y t
def pR : List Int → List Int
 | [] => []
 | x :: t => x :: qJ x t
theorem aOe (again : Int → List Int → Option (List Int)) {k0 : Nat} : ∀ (t : List Int) (p : Int) (W X : List Int) (k2 k : Nat), 1 ≤ k2 → W.length + X.length + 1 = k0 + k2 → k0 ≤ W.length → (W ++ X ++ p :: t).length < 4611686018427387904 → t.length < k →
  gP again (k0 : Nat) k (W.length : Nat) (k2 : Nat) (W ++ X ++ p :: t) = some (W ++ qJ p t) := by
 intro t
 induction t with
 | nil =>
  intro p W X k2 k h1 h2 h3 hb hk
  obtain ⟨k, rfl⟩ : ∃ q, k = q + 1 := ⟨k - 1, by omega⟩
  simp only [List.length_append, List.length_cons, List.length_nil] at hb
  have t0 : ((k0 : Nat) : Int).toNat = k0 := rfl
  have t1 : ((W.length : Nat) : Int).toNat = W.length := rfl
  have hlt : decide ((k2 : Int) < (((W ++ X ++ [p]).drop k0).length : Int)) = false := decide_eq_false (by simp; omega)
  have c1 : (decide ((0 : Int) ≤ (W.length : Int)) && decide ((W.length : Int) ≤ ((W ++ X ++ [p]).length : Int))) = true := by simp; omega
  have c2 : decide (W.length ≤ (W ++ X ++ [p]).length) = true := by simp
  have c3 : decide ((0 : Int) ≤ (W.length : Int)) = true := by simp
  simp only [gP, t0, hlt, cond_false, qX]
  rw [c1, t1, c2, c3]
  simp [chk, qJ]
 | cons y t ih =>
  intro p W X k2 k h1 h2 h3 hb hk
  obtain ⟨k, rfl⟩ : ∃ q, k = q + 1 := ⟨k - 1, by omega⟩
  simp only [List.length_append, List.length_cons] at hb hk
  have t0 : ((k0 : Nat) : Int).toNat = k0 := rfl
  have t1 : ((W.length : Nat) : Int).toNat = W.length := rfl
  have hlt : decide ((k2 : Int) < (((W ++ X ++ p :: y :: t).drop k0).length : Int)) = true := decide_eq_true (by simp; omega)
  have ed : (W ++ X ++ p :: y :: t).drop k0 = (W ++ X).drop k0 ++ p :: y :: t := by rw [List.drop_append_of_le_length (by simp; omega)]
  have hdl : ((W ++ X).drop k0).length = k2 - 1 := by simp; omega
  have i1 : idx ((W ++ X ++ p :: y :: t).drop k0) (k2 : Nat) = some y := by rw [ed]; exact zQ (by rw [hdl]; omega)
  have i2 : idx ((W ++ X ++ p :: y :: t).drop k0) (w64 ((k2 : Int) - 1)) = some p := by rw [aOc (by omega) (by omega), ed]; exact lK (by rw [hdl])
  simp only [gP, t0, hlt, cond_true, i1, i2, Option.bind_some, cF (show k2 < 9223372036854775807 by omega)]
  by_cases hyp : y = p
  ·subst hyp
   have := ih y W (X ++ [y]) (k2 + 1) k (by omega) (by simp; omega) h3 (by simp only [List.length_append, List.length_cons, List.length_nil]; omega) (by omega)
   have e1 : W ++ (X ++ [y]) ++ y :: t = W ++ X ++ y :: y :: t := by simp
   rw [e1] at this
   rw [decide_eq_true rfl, Bool.not_true, cond_false, this]
   simp [qJ]
  ·have hd : (!decide (y = p)) = true := by rw [decide_eq_false hyp]; rfl
   have i3 : ∃ z, idx (W ++ X ++ p :: y :: t) (W.length : Nat) = some z := ⟨_, dA (by simp; omega)⟩
   obtain ⟨z, i3⟩ := i3
   rw [hd, cond_true, i3, Option.bind_some, t1, cF (by omega)]
   obtain ⟨X', e2⟩ : ∃ X', (W ++ X ++ p :: y :: t).set W.length y = (W ++ [y]) ++ X' ++ y :: t ∧ X'.length = X.length := by
    cases X with
    | nil => exact ⟨[], by simp, rfl⟩
    | cons x X => exact ⟨X ++ [p], by simp, by simp⟩
   rw [e2.1]
   have := ih y (W ++ [y]) X' (k2 + 1) k (by omega) (by rw [List.length_append, e2.2]; simp; omega) (by simp; omega) (by simp only [List.length_append, List.length_cons, List.length_nil, e2.2]; omega) (by omega)
   have e3 : (W ++ [y]).length = W.length + 1 := by simp
   rw [e3] at this
   rw [this]
   simp [qJ, hyp]
theorem aKv (s : List Int) (hb : s.length < 4611686018427387904) : nQ s = some (pR s) := by
 have main : ∀ (t A : List Int) (p : Int) (k : Nat), t.length < k → (A ++ p :: t).length < 4611686018427387904 → eT k ((A.length + 1 : Nat) : Int) (A ++ p :: t) = some (A ++ p :: qJ p t) := by
  intro t
  induction t with
  | nil =>
   intro A p k hk hb
   obtain ⟨k, rfl⟩ : ∃ q, k = q + 1 := ⟨k - 1, by omega⟩
   have hlt : decide (((A.length + 1 : Nat) : Int) < ((A ++ [p]).length : Int)) = false := decide_eq_false (by simp)
   simp only [eT, hlt, cond_false, qV, qJ]
  | cons y t ih =>
   intro A p k hk hb
   obtain ⟨k, rfl⟩ : ∃ q, k = q + 1 := ⟨k - 1, by omega⟩
   simp only [List.length_append, List.length_cons] at hb hk
   have hlt : decide (((A.length + 1 : Nat) : Int) < ((A ++ p :: y :: t).length : Int)) = true := decide_eq_true (by simp; omega)
   have i2 : w64 (((A.length + 1 : Nat) : Int) - 1) = (A.length : Int) := by rw [dD (by omega) (by omega)]; omega
   simp only [eT, hlt, cond_true, zQ rfl, i2, lK rfl, Option.bind_some]
   by_cases hyp : y = p
   ·subst hyp
    have c1 : (decide ((0 : Int) ≤ ((A.length + 1 : Nat) : Int)) && decide (((A.length + 1 : Nat) : Int) ≤ ((A ++ y :: y :: t).length : Int))) = true := by simp; omega
    rw [decide_eq_true rfl, cond_true, c1]
    simp only [chk, cond_true, Option.bind_some]
    have := aOe (eT k) (k0 := A.length + 1) t y (A ++ [y]) [] 1 BIG (Nat.le_refl _) (by simp) (by simp) (by simp only [List.length_append, List.length_cons, List.length_nil]; omega) (dP (by omega))
    have e3 : (A ++ [y]).length = A.length + 1 := by simp
    have e4 : A ++ [y] ++ [] ++ y :: t = A ++ y :: y :: t := by simp
    rw [e3, e4] at this
    have e5 : ((1 : Nat) : Int) = 1 := rfl
    rw [e5] at this
    rw [this]
    simp [qJ]
   ·rw [decide_eq_false hyp, cond_false]
    unfold qW
    rw [cF (by omega)]
    have := ih (A ++ [p]) y k (by omega) (by simp only [List.length_append, List.length_cons, List.length_nil]; omega)
    have e3 : (A ++ [p]).length = A.length + 1 := by simp
    have e4 : A ++ [p] ++ y :: t = A ++ p :: y :: t := by simp
    rw [e3, e4] at this
    rw [this]
    simp [qJ, hyp]
 unfold nQ
 match s, hb with
 | [], _ => simp [pR]
 | x :: t, hb =>
  by_cases ht : t = []
  ·subst ht; simp [pR, qJ]
  ·have hl : 0 < t.length := List.length_pos_iff.2 ht
   have hd : decide (((x :: t).length : Int) < 2) = false := decide_eq_false (by simp; omega)
   rw [hd, cond_false]
   have := main t [] x BIG (dP (by simp at hb; omega)) (by simpa using hb)
   simp only [List.length_nil, List.nil_append, Nat.zero_add] at this
   have e5 : ((1 : Nat) : Int) = 1 := rfl
   rw [e5] at this
   rw [this]; rfl
theorem aSj (p x : Int) (t : List Int) : (x = p ∨ x ∈ qJ p t) ↔ (x = p ∨ x ∈ t) := by
 induction t generalizing p with
 | nil => rfl
 | cons y t ih =>
  simp only [qJ, List.mem_cons]
  by_cases h : y = p
  ·subst h
   rw [if_pos rfl]
   have := ih y
   constructor
   ·rintro (h | h)
    ·exact .inl h
    ·rcases this.1 (.inr h) with h | h
     ·exact .inl h
     ·exact .inr (.inr h)
   ·rintro (h | h | h)
    ·exact .inl h
    ·exact .inl h
    ·exact this.2 (.inr h)
  ·rw [if_neg h, List.mem_cons]
   have := ih y
   constructor
   ·rintro (h | h)
    ·exact .inl h
    ·exact .inr (this.1 h)
   ·rintro (h | h)
    ·exact .inl h
    ·exact .inr (this.2 h)
theorem aLr (x : Int) (s : List Int) : x ∈ pR s ↔ x ∈ s := by
 cases s with
 | nil => rfl
 | cons p t => simp only [pR, List.mem_cons]; exact aSj p x t
theorem aKg (p : Int) (t : List Int) : (qJ p t).Sublist t := by
 induction t generalizing p with
 | nil => exact .slnil
 | cons y t ih =>
  simp only [qJ]
  split
  ·exact (ih p).cons _
  ·exact (ih y).cons_cons _
theorem aTi (l : List Int) (x : Int) : x ∈ rT l ↔ x ∈ l := (List.mergeSort_perm l _).mem_iff
theorem aKq (l : List Int) : (rT l).length = l.length := (List.mergeSort_perm l _).length_eq
def rY (l : List aO) : List Int := pR (rT (l.map fun x => x.Hour))
def yF (f : aT) (l : List aO) (p h : Int) : Bool := decide ((pD (bV f l h) p).1 = 1) || decide ((pD (bV f l h) p).1 = 2)
theorem aYe {f : aT} {l : List aO} (h : VL f l) (p : Int) (T : List Int) (hT : T.length ≤ 1000) : ∀ (d i k : Nat), T.length - i = d → d < k → i ≤ T.length →
  nX l p (T.length : Int) f T k (i : Int) = some (match (T.drop i).find? (yF f l p) with | some x => (x, 0) | none => (0, 3)) := by
 intro d
 induction d with
 | zero =>
  intro i k hd hk hi
  obtain ⟨k, rfl⟩ : ∃ q, k = q + 1 := ⟨k - 1, by omega⟩
  have : i = T.length := by omega
  subst this
  simp [nX, yD]
 | succ d ih =>
  intro i k hd hk hi
  obtain ⟨k, rfl⟩ : ∃ q, k = q + 1 := ⟨k - 1, by omega⟩
  have hil : i < T.length := by omega
  have hlt : decide ((i : Int) < (T.length : Int)) = true := decide_eq_true (by omega)
  obtain ⟨j, hj, hg⟩ := vN h T[i]
  simp only [nX, hlt, cond_true, dA hil, Option.bind_some, aLk h, aHc hg hj, oP]
  rw [List.drop_eq_getElem_cons hil, List.find?_cons]
  rw [show (decide ((pD (bV f l T[i]) p).1 = 1) || decide ((pD (bV f l T[i]) p).1 = 2)) = yF f l p T[i] from rfl]
  cases yF f l p T[i] with
  | true => rfl
  | false =>
   simp only [cond_false]
   rw [cF (by omega)]
   exact ih (i + 1) k (by omega) (by omega) (by omega)
theorem aPb {f : aT} {l : List aO} (h : VL f l) {p : Int} (hp : wi p 0 999 = true) : nJ f l p = some (match (rY l).find? (yF f l p) with | some x => (x, 0) | none => (0, 3)) := by
 have hlen := h.len
 have hH : (rY l).length ≤ 60 := by
  unfold rY
  have h1 := aKq (l.map fun x => x.Hour)
  rw [List.length_map] at h1
  cases hs : rT (l.map fun x => x.Hour) with
  | nil => simp [pR]
  | cons q t =>
   rw [hs] at h1
   simp only [List.length_cons] at h1
   have := (aKg q t).length_le
   simp only [pR, List.length_cons]
   omega
 have key := mG (nW l p l (l.length : Int) f) l.length (fun i s => uS l p f (s ++ (l.drop i).map fun x => x.Hour)) (fun i s => s.length = i) (fun k i s hi hI ih => ?_) (fun k s hI => ?_) BIG [] (dP (by omega)) rfl
 ·unfold nJ
  rw [qS, kV.2 h, hp]
  simp only [decide_true, Bool.not_true, cond_false, show wi 0 0 9999 = true from rfl, Bool.or_self, Option.bind_some]
  rw [key]
  simp only [List.drop_zero, List.nil_append]
  unfold uS slices_Sort_int
  rw [if_pos (by rw [List.length_map]; omega), Option.bind_some, aKv _ (by rw [aKq, List.length_map]; omega), Option.bind_some]
  exact aYe h p (rY l) (by omega) _ 0 BIG rfl (dP (by omega)) (Nat.zero_le _)
 ·simp only [nW, show decide ((i : Int) < (l.length : Int)) = true by simpa using hi, cond_true, dA hi, Option.bind_some]
  rw [fR (by simp; omega)]
  simp only [Option.bind_some]
  rw [cF (by omega), ih _ (by simp; omega), List.append_assoc, List.singleton_append, ← List.map_cons (f := fun x : aO => x.Hour), ← List.drop_eq_getElem_cons hi]
 ·simp [nW]
end Go.Am
end
section
namespace Go.Am
def exF : aT := ((lG).getD (⟨0, 0, 0, 0, 0⟩, [])).1
def exL : List aO := ((lG).getD (⟨0, 0, 0, 0, 0⟩, [])).2
theorem aZm : lG = some (exF, exL) := by kernel_rfl
theorem aHo : VL exF exL := kV.1 (by kernel_rfl)
theorem aSd : exL.Pairwise fun x y => dS x < dS y := of_decide_eq_true (by kernel_rfl)
def exA (h : Int) : aN := aUc h (aNn h (eI exF) exL)
theorem aCa (h : Int) : bV exF exL h = exA h := aRf aHo aSd h
theorem aPi (h : Int) : ∃ j, j ≤ 60 ∧ gE exF (exA h) j := by
 rw [← aCa]
 exact vN aHo h
theorem aFi (h : Int) : WF (exA h) := by
 obtain ⟨j, _, hg⟩ := aPi h
 exact hg.wf
theorem aXe : uG exF exL 12 = some (⟨[9, 8, 5], [7], [6, 4], 0⟩, 0) := by
 rw [aWm aHo (by rfl)]
 unfold aQn
 rw [aCa, aPm (aFi 12), aGx (aFi 12)]
 kernel_rfl
theorem aMb (h p : Int) : pD (exA h) p = sC (yR (exA h)) (exA h).wilds (aEo (exA h)) p := by
 unfold pD
 rw [aPm (aFi h), aGx (aFi h)]
theorem aSc : jI (exA 10) 4 = some 2 := by
 unfold jI
 rw [uF (aFi 10), aAi (aFi 10)]
 kernel_rfl
theorem aUe : kT exF exL 10 4 = some (2, 0) := by
 obtain ⟨j, hj, hg⟩ := aPi 10
 unfold kT
 rw [qS, kV.2 aHo, aCa]
 simp only [decide_true, Bool.not_true, cond_false, show wi 10 0 9999 = true from rfl, show wi 4 0 999 = true from rfl, Bool.or_self, Option.bind_some]
 rw [aHc hg hj, aMb, aSc, show sC (yR (exA 10)) (exA 10).wilds (aEo (exA 10)) 4 = (3, 3) by kernel_rfl, show (exA 10).frozen = false by kernel_rfl]
 rfl
theorem aUd : rY exL = [1, 2, 3, 4, 5, 6, 11, 12, 15, 21, 22] := by
 have h : rT (exL.map fun x => x.Hour) = exL.map fun x => x.Hour := by
  have hs := List.pairwise_mergeSort (le := fun x y : Int => decide (x ≤ y)) (by intro a b c; simp only [decide_eq_true_eq]; omega) (by intro a b; simp only [Bool.or_eq_true, decide_eq_true_eq]; omega) (exL.map fun x => x.Hour)
  refine wU (R := fun x y : Int => x ≤ y) (List.mergeSort_perm _ _) (hs.imp fun {x y} h => by simpa using h) (of_decide_eq_true (by kernel_rfl)) fun a _ b _ h1 h2 => Int.le_antisymm h1 h2
 unfold rY
 rw [h]
 have : pR (exL.map fun x => x.Hour) = [1, 2, 3, 4, 5, 6, 11, 12, 15, 21, 22] := by kernel_rfl
 exact this
theorem aXf : nJ exF exL 4 = some (15, 0) := by
 have hf : yF exF exL 4 = fun h => decide ((sC (yR (exA h)) (exA h).wilds (aEo (exA h)) 4).1 = 1) || decide ((sC (yR (exA h)) (exA h).wilds (aEo (exA h)) 4).1 = 2) := by
  funext h
  unfold yF
  rw [aCa, aMb]
 rw [aPb aHo (by rfl), hf, aUd]
 have : [1, 2, 3, 4, 5, 6, 11, 12, 15, 21, 22].find? (fun h => decide ((sC (yR (exA h)) (exA h).wilds (aEo (exA h)) 4).1 = 1) || decide ((sC (yR (exA h)) (exA h).wilds (aEo (exA h)) 4).1 = 2)) = some 15 := by kernel_rfl
 rw [this]
theorem aOd : mV = some true := by
 unfold mV
 rw [aZm, Option.bind_some, aXe, Option.bind_some, aUe, Option.bind_some, aXf, Option.bind_some]
 kernel_rfl
end Go.Am
end
