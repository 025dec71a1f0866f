/- Plain laws, one behind the other. -/
import Derived.Test.YtfdappeickbpeaaGreatEnDet
import Derived.KernelRfl
section
namespace Go.Am

def wi (n lo hi : Int) : Bool := decide (lo ≤ n) && decide (n ≤ hi)
theorem uH {n lo hi : Int} : wi n lo hi = true ↔ lo ≤ n ∧ n ≤ hi := by simp [wi]
theorem aBp (n lo hi : Int) : cG n lo hi = some (wi n lo hi) := by
  unfold cG wi
  cases decide (lo ≤ n) <;> rfl
theorem aGv (n lo hi : Int) : cK n lo hi = some (wi n lo hi) := by
  unfold cK wi
  cases decide (lo ≤ n) <;> rfl

def oM (f : aV) : Bool := wi f.Places 1 32 && wi f.Wilds 0 32 && wi f.Guards 0 32 && wi f.Close 0 9999 && wi f.Freeze f.Close 9999
def gL (n : aJ) : Bool := wi n.Id 0 999 && wi n.Player 0 999 && wi n.Hour 0 9999 &&
  (bif decide (n.Kind = 1) then wi n.Rank 0 9999 else bif decide (n.Kind = 2) then wi n.Rank 1 9999 else bif (decide (n.Kind = 3) || decide (n.Kind = 4) || decide (n.Kind = 5)) then decide (n.Rank = 0) else false)
theorem aHw (f : aV) : nI f = some (oM f) := by
  unfold nI oM
  simp only [aBp, Option.bind_some]
  cases wi f.Places 1 32 <;> cases wi f.Wilds 0 32 <;> cases wi f.Guards 0 32 <;> cases wi f.Close 0 9999 <;> cases wi f.Freeze f.Close 9999 <;> rfl
theorem aNo (n : Int) : wi n 0 0 = decide (n = 0) := by
  unfold wi
  by_cases h : n = 0
  · subst h; rfl
  · have : ¬ (0 ≤ n ∧ n ≤ 0) := by omega
    cases h1 : decide (0 ≤ n) <;> cases h2 : decide (n ≤ 0) <;> simp_all <;> omega
theorem aHy (n : aJ) : mL n = some (gL n) := by
  unfold mL gL
  simp only [aBp, Option.bind_some, aNo]
  by_cases h1 : n.Kind = 1
  · simp only [h1, decide_true, cond_true]
    cases wi n.Id 0 999 <;> cases wi n.Player 0 999 <;> cases wi n.Hour 0 9999 <;> cases wi n.Rank 0 9999 <;> rfl
  · by_cases h2 : n.Kind = 2
    · simp only [h2, decide_true, cond_true, show decide ((2 : Int) = 1) = false from rfl, cond_false]
      cases wi n.Id 0 999 <;> cases wi n.Player 0 999 <;> cases wi n.Hour 0 9999 <;> cases wi n.Rank 1 9999 <;> rfl
    · cases wi n.Id 0 999 <;> cases wi n.Player 0 999 <;> cases wi n.Hour 0 9999 <;> cases decide (n.Rank = 0) <;> cases decide (n.Kind = 3) <;> cases decide (n.Kind = 4) <;> cases decide (n.Kind = 5) <;> simp [h1, h2]
theorem aHx (n : aJ) : jQ n = some (gL n) := by
  unfold jQ gL
  simp only [aGv, Option.bind_some]
  by_cases h1 : n.Kind = 1
  · simp only [h1, decide_true, cond_true]
    cases wi n.Id 0 999 <;> cases wi n.Player 0 999 <;> cases wi n.Hour 0 9999 <;> cases wi n.Rank 0 9999 <;> rfl
  · by_cases h2 : n.Kind = 2
    · simp only [h2, decide_true, cond_true, show decide ((2 : Int) = 1) = false from rfl, cond_false]
      cases wi n.Id 0 999 <;> cases wi n.Player 0 999 <;> cases wi n.Hour 0 9999 <;> cases wi n.Rank 1 9999 <;> rfl
    · cases wi n.Id 0 999 <;> cases wi n.Player 0 999 <;> cases wi n.Hour 0 9999 <;> cases decide (n.Rank = 0) <;> cases decide (n.Kind = 3) <;> cases decide (n.Kind = 4) <;> cases decide (n.Kind = 5) <;> simp [h1, h2]

/-- A notice is valid, and those before it with its number are the same. -/
def pQ (l : List aJ) (i : Nat) : Bool := match l[i]? with
  | some x => gL x && (l.take i).all fun y => !decide (y.Id = x.Id) || decide (y = x)
  | none => false
def sV (f : aV) (l : List aJ) : Int := bif !oM f then 50 else bif decide (60 < (l.length : Int)) then 51 else bif (List.range l.length).all (pQ l) then 0 else 51

theorem sI {l : List aJ} {i : Nat} (h : i < l.length) : pQ l i = (gL l[i] && (l.take i).all fun y => !decide (y.Id = l[i].Id) || decide (y = l[i])) := by
  unfold pQ
  rw [List.getElem?_eq_getElem h]
theorem aIu (l : List aJ) (hl : l.length ≤ 60) (i : Nat) (hi : i < l.length) (again : Int → Option Int) : ∀ k, i < k → fJ again l (i : Int) k 0 =
    bif (List.range i).all (fun j => match l[j]? with | some y => !decide (y.Id = l[i].Id) || decide (y = l[i]) | none => false) then again (w64 ((i : Int) + 1)) else some 51 := by
  refine aEv (fJ again l (i : Int)) i _ _ _ (fun k j hj => ?_) fun k => ?_
  · have hj2 : j < l.length := by omega
    simp only [fJ, show decide ((j : Int) < (i : Int)) = true by simpa using hj, cond_true, eO hj2, eO hi, Option.bind_some, List.getElem?_eq_getElem hj2, dP (i := j) (by omega)]
    cases h1 : decide (l[j].Id = l[i].Id) <;> cases h2 : decide (l[j] = l[i]) <;> simp
  · simp [fJ, nS, nR]
theorem aKp (l : List aJ) (p : aJ → Bool) (i : Nat) (hi : i ≤ l.length) : (List.range i).all (fun j => match l[j]? with | some y => p y | none => false) = (l.take i).all p := by
  rw [Bool.eq_iff_iff]
  simp only [List.all_eq_true, List.mem_range]
  constructor
  · intro h y hy
    obtain ⟨j, hj, rfl⟩ := List.getElem_of_mem hy
    simp only [List.length_take] at hj
    have := h j (by omega)
    rw [List.getElem?_eq_getElem (by omega)] at this
    simpa using this
  · intro h j hj
    rw [List.getElem?_eq_getElem (by omega)]
    refine h _ (List.mem_take_iff_getElem.2 ⟨j, by omega, rfl⟩)
theorem aIv (f : aV) (l : List aJ) : lC f l = some (sV f l) := by
  have hF : ∀ {b : Option Int}, ((cK f.Places 1 32).bind fun r2 =>
    (bif !r2 then (some true) else ((cK f.Wilds 0 32).bind fun r3 => some (!r3))).bind fun b4 =>
    (bif b4 then (some true) else ((cK f.Guards 0 32).bind fun r5 => some (!r5))).bind fun b6 =>
    (bif b6 then (some true) else ((cK f.Close 0 9999).bind fun r7 => some (!r7))).bind fun b8 =>
    (bif b8 then (some true) else ((cK f.Freeze f.Close 9999).bind fun r9 => some (!r9))).bind fun b10 =>
    bif b10 then (some 50) else b) = bif !oM f then some 50 else b := by
    intro b
    simp only [aGv, Option.bind_some]
    unfold oM
    cases wi f.Places 1 32 <;> cases wi f.Wilds 0 32 <;> cases wi f.Guards 0 32 <;> cases wi f.Close 0 9999 <;> cases wi f.Freeze f.Close 9999 <;> rfl
  unfold lC sV
  rw [hF]
  cases oM f with
  | false => rfl
  | true =>
    simp only [Bool.not_true, cond_false]
    cases hl : decide (60 < (l.length : Int)) with
    | true => rfl
    | false =>
      simp only [cond_false]
      have hl' : l.length ≤ 60 := by simp at hl; omega
      have := aEv (fI l) l.length (pQ l) (some 51) (some 0) (fun k i hi => ?_) (fun k => ?_) BIG (gM (by omega))
      · rw [this]
        cases (List.range l.length).all (pQ l) <;> rfl
      · simp only [fI, show decide ((i : Int) < (l.length : Int)) = true by simpa using hi, cond_true, eO hi, Option.bind_some, aHx]
        rw [sI hi, aIu l hl' i hi _ BIG (gM (by omega)), aKp l (fun y => !decide (y.Id = l[i].Id) || decide (y = l[i])) i (by omega), dP (by omega)]
        cases gL l[i] <;> cases (l.take i).all (fun y => !decide (y.Id = l[i].Id) || decide (y = l[i])) <;> rfl
      · simp [fI, nQ]

theorem aCz {α β : Type} [DecidableEq α] (a b : α) (v : β) : ∀ m : List (α × β), fQ a (cL b v m) = (decide (a = b) || fQ a m)
  | [] => by simp [cL, fQ]
  | (c, u) :: m => by
    simp only [cL]
    by_cases hbc : b = c
    · subst hbc
      simp [fQ]
    · simp only [hbc, decide_false, cond_false, fQ, aCz a b v m]
      by_cases h1 : a = c <;> by_cases h2 : a = b <;> simp [h1, h2]
theorem xN {α β : Type} [DecidableEq α] (a b : α) (v z : β) : ∀ m : List (α × β), aH a z (cL b v m) = bif decide (a = b) then v else aH a z m
  | [] => by simp [cL, aH]
  | (c, u) :: m => by
    simp only [cL]
    by_cases hbc : b = c
    · subst hbc
      by_cases h : a = b <;> simp [aH, h]
    · simp only [hbc, decide_false, cond_false, aH, xN a b v z m]
      by_cases h1 : a = c
      · subst h1
        simp [Ne.symm hbc, Ne.symm (a := a) (b := b) (fun e => hbc e.symm)]
      · simp [h1]
/-- What is known after some notices. -/
def aOh (l : List aJ) (m : List (Int × aJ)) : Prop := ∀ id, (fQ id m = true → aH id (aJ.mk 0 0 0 0 0) m ∈ l ∧ (aH id (aJ.mk 0 0 0 0 0) m).Id = id) ∧ (∀ y ∈ l, y.Id = id → fQ id m = true)
theorem aIx (f : aV) (l : List aJ) : pI f l = some (sV f l) := by
  unfold pI sV
  rw [aHw]
  simp only [Option.bind_some]
  cases oM f with
  | false => rfl
  | true =>
    simp only [Bool.not_true, cond_false]
    cases hl : decide (60 < (l.length : Int)) with
    | true => rfl
    | false =>
      simp only [cond_false]
      have hl' : l.length ≤ 60 := by simp at hl; omega
      have key := lT (iV l (l.length : Int)) l.length (fun i _ => some (bif (List.range' i (l.length - i)).all (pQ l) then (0 : Int) else 51))
        (fun i m => aOh (l.take i) m ∧ ∀ j, j < i → pQ l j = true) (fun k i m hi hI ih => ?_) (fun k m hI => ?_) BIG [] (gM (by omega)) ⟨fun id => ⟨fun h => by simp [fQ] at h, fun y hy => by simp at hy⟩, fun j hj => by omega⟩
      · rw [key]
        simp [List.range_eq_range']
      · obtain ⟨hK, hg⟩ := hI
        have hrest : List.range' i (l.length - i) = i :: List.range' (i + 1) (l.length - (i + 1)) := by
          rw [show l.length - i = (l.length - (i + 1)) + 1 by omega, List.range'_succ]
        have hgood : pQ l i = (gL l[i] && !(fQ l[i].Id m && !decide (aH l[i].Id (aJ.mk 0 0 0 0 0) m = l[i]))) := by
          rw [sI hi]
          congr 1
          rw [Bool.eq_iff_iff]
          simp only [List.all_eq_true, Bool.or_eq_true, Bool.not_eq_true', decide_eq_false_iff_not, decide_eq_true_eq, Bool.and_eq_false_iff, Bool.not_eq_false']
          constructor
          · intro h
            cases hm : fQ l[i].Id m with
            | false => exact .inl rfl
            | true =>
              right
              obtain ⟨h1, h2⟩ := (hK l[i].Id).1 hm
              rcases h _ h1 with h3 | h3
              · exact absurd h2 h3
              · exact h3
          · intro h y hy
            by_cases hid : y.Id = l[i].Id
            · right
              have hm := (hK l[i].Id).2 y hy hid
              rcases h with h | h
              · rw [hm] at h; cases h
              · obtain ⟨h1, h2⟩ := (hK l[i].Id).1 hm
                -- both lie before, and are good
                obtain ⟨a, ha, hya⟩ := List.getElem_of_mem hy
                obtain ⟨b, hb, hmb⟩ := List.getElem_of_mem h1
                simp only [List.length_take] at ha hb
                simp only [List.getElem_take] at hya hmb
                have same : ∀ p q : Nat, p < q → q < i → ∀ (hp : p < l.length) (hq : q < l.length), l[p].Id = l[q].Id → l[p] = l[q] := by
                  intro p q hpq hqi hp hq he
                  have := hg q hqi
                  rw [sI hq] at this
                  simp only [Bool.and_eq_true, List.all_eq_true, Bool.or_eq_true, Bool.not_eq_true', decide_eq_false_iff_not, decide_eq_true_eq] at this
                  rcases this.2 l[p] (List.mem_take_iff_getElem.2 ⟨p, by omega, rfl⟩) with h | h
                  · exact absurd he h
                  · exact h
                rw [← h]
                rcases Nat.lt_trichotomy a b with hab | hab | hab
                · rw [← hya, ← hmb]
                  exact same a b hab (by omega) (by omega) (by omega) (by rw [hya, hmb, hid, h2])
                · subst hab
                  rw [← hya, ← hmb]
                · rw [← hya, ← hmb]
                  exact (same b a hab (by omega) (by omega) (by omega) (by rw [hya, hmb, hid, h2])).symm
            · exact .inl hid
        simp only [iV, show decide ((i : Int) < (l.length : Int)) = true by simpa using hi, cond_true, eO hi, Option.bind_some, aHy, dP (i := i) (by omega)]
        rw [hrest, List.all_cons, hgood]
        have ih' : pQ l i = true → iV l (l.length : Int) k ((i + 1 : Nat) : Int) (cL l[i].Id l[i] m) = some (bif (List.range' (i + 1) (l.length - (i + 1))).all (pQ l) then (0 : Int) else 51) := fun hgi => by
          refine ih _ ⟨fun id => ?_, fun j hj => ?_⟩
          · have htk : l.take (i + 1) = l.take i ++ [l[i]] := by rw [List.take_add_one, List.getElem?_eq_getElem hi]; rfl
            rw [htk, aCz, xN]
            constructor
            · intro h
              by_cases hid : id = l[i].Id
              · subst hid
                simp only [decide_true, cond_true]
                exact ⟨List.mem_append.2 (.inr (List.mem_singleton.2 rfl)), trivial⟩
              · simp only [hid, decide_false, Bool.false_or, cond_false] at h ⊢
                obtain ⟨h1, h2⟩ := (hK id).1 h
                exact ⟨List.mem_append.2 (.inl h1), h2⟩
            · intro y hy he
              rcases List.mem_append.1 hy with hy | hy
              · rw [(hK id).2 y hy he]; simp
              · simp at hy; subst hy; simp [he]
          · rcases Nat.lt_or_ge j i with h | h
            · exact hg j h
            · have : j = i := by omega
              subst this; exact hgi
        rw [hgood] at ih'
        revert ih'
        cases gL l[i] <;> cases fQ l[i].Id m <;> cases decide (aH l[i].Id (aJ.mk 0 0 0 0 0) m = l[i]) <;> intro ih' <;> first | rfl | (simpa using ih' rfl)
      · simp [iV, rH]

/-- What is valid. -/
structure VL (f : aV) (l : List aJ) : Prop where
  fd : oM f = true
  len : l.length ≤ 60
  nt : ∀ x ∈ l, gL x = true
  id : ∀ x ∈ l, ∀ y ∈ l, x.Id = y.Id → x = y
theorem mU {f : aV} {l : List aJ} : sV f l = 0 ↔ VL f l := by
  unfold sV
  constructor
  · intro h
    cases h1 : oM f with
    | false => rw [h1] at h; simp at h
    | true =>
      rw [h1] at h
      simp only [Bool.not_true, cond_false] at h
      cases h2 : decide (60 < (l.length : Int)) with
      | true => rw [h2] at h; simp at h
      | false =>
        rw [h2] at h
        simp only [cond_false] at h
        cases h3 : (List.range l.length).all (pQ l) with
        | false => rw [h3] at h; simp at h
        | true =>
          simp only [List.all_eq_true, List.mem_range] at h3
          have hg : ∀ i (hi : i < l.length), gL l[i] = true ∧ ∀ y ∈ l.take i, y.Id = l[i].Id → y = l[i] := fun i hi => by
            have := h3 i hi
            rw [sI hi] at this
            simp only [Bool.and_eq_true, List.all_eq_true, Bool.or_eq_true, Bool.not_eq_true', decide_eq_false_iff_not, decide_eq_true_eq] at this
            exact ⟨this.1, fun y hy he => (this.2 y hy).resolve_left fun h => h he⟩
          refine ⟨h1, by simp at h2; omega, fun x hx => ?_, fun x hx y hy he => ?_⟩
          · obtain ⟨i, hi, rfl⟩ := List.getElem_of_mem hx
            exact (hg i hi).1
          · obtain ⟨i, hi, rfl⟩ := List.getElem_of_mem hx
            obtain ⟨j, hj, rfl⟩ := List.getElem_of_mem hy
            rcases Nat.lt_trichotomy i j with h | h | h
            · exact (hg j hj).2 _ (List.mem_take_iff_getElem.2 ⟨i, by omega, rfl⟩) he
            · subst h; rfl
            · exact ((hg i hi).2 _ (List.mem_take_iff_getElem.2 ⟨j, by omega, rfl⟩) he.symm).symm
  · rintro ⟨h1, h2, h3, h4⟩
    rw [h1]
    have : decide (60 < (l.length : Int)) = false := by simp; omega
    rw [this]
    have h5 : (List.range l.length).all (pQ l) = true := by
      simp only [List.all_eq_true, List.mem_range]
      intro i hi
      rw [sI hi]
      simp only [Bool.and_eq_true, List.all_eq_true, Bool.or_eq_true, Bool.not_eq_true', decide_eq_false_iff_not, decide_eq_true_eq]
      refine ⟨h3 _ (List.getElem_mem hi), fun y hy => ?_⟩
      by_cases he : y.Id = l[i].Id
      · exact .inr (h4 _ (List.mem_of_mem_take hy) _ (List.getElem_mem hi) he)
      · exact .inl he
    rw [h5]
    rfl
end Go.Am

end
section
namespace Go.Am

/-- The order in which notices are taken. -/
def eK (x : aJ) : Int := x.Hour * 1000 + x.Id
section
variable {α : Type}
theorem rM {A : List α} {x : α} {B : List α} {p : Int} (h : p = (A.length : Int)) : idx (A ++ x :: B) p = some x := by
  subst h; rw [eO (by simp)]; simp
theorem aNb {A : List α} {x y : α} {B : List α} {p : Nat} (h : p = A.length) : (A ++ x :: B).set p y = A ++ y :: B := by
  subst h; simp
theorem wD {A : List α} {x y : α} {B : List α} {p : Int} (h : p = ((A.length + 1 : Nat) : Int)) : idx (A ++ x :: y :: B) p = some y := by
  have : A ++ x :: y :: B = (A ++ [x]) ++ y :: B := by simp
  rw [this, rM (by simp [h])]
end
/-- What is left of a row when equal neighbours are one. -/
def nW (p : aJ) : List aJ → List aJ
  | [] => []
  | y :: t => if y = p then nW p t else y :: nW y t
def oD : List aJ → List aJ
  | [] => []
  | x :: t => x :: nW x t
theorem aHp (again : Int → List aJ → Option (List aJ)) {k0 : Nat} : ∀ (t : List aJ) (p : aJ) (W X : List aJ) (k2 k : Nat), 1 ≤ k2 → W.length + X.length + 1 = k0 + k2 → k0 ≤ W.length → (W ++ X ++ p :: t).length < 4611686018427387904 → t.length < k →
    dI again (k0 : Nat) k (W.length : Nat) (k2 : Nat) (W ++ X ++ p :: t) = some (W ++ nW p t) := by
  intro t
  induction t with
  | nil =>
    intro p W X k2 k h1 h2 h3 hb hk
    obtain ⟨k, rfl⟩ : ∃ q, k = q + 1 := ⟨k - 1, by omega⟩
    simp only [List.length_append, List.length_cons, List.length_nil] at hb
    have t0 : ((k0 : Nat) : Int).toNat = k0 := rfl
    have t1 : ((W.length : Nat) : Int).toNat = W.length := rfl
    have hlt : decide ((k2 : Int) < (((W ++ X ++ [p]).drop k0).length : Int)) = false := decide_eq_false (by simp; omega)
    have c1 : (decide ((0 : Int) ≤ (W.length : Int)) && decide ((W.length : Int) ≤ ((W ++ X ++ [p]).length : Int))) = true := by simp; omega
    have c2 : decide (W.length ≤ (W ++ X ++ [p]).length) = true := by simp
    have c3 : decide ((0 : Int) ≤ (W.length : Int)) = true := by simp
    simp only [dI, t0, hlt, cond_false, jW]
    rw [c1, t1, c2, c3]
    simp [chk, nW]
  | cons y t ih =>
    intro p W X k2 k h1 h2 h3 hb hk
    obtain ⟨k, rfl⟩ : ∃ q, k = q + 1 := ⟨k - 1, by omega⟩
    simp only [List.length_append, List.length_cons] at hb hk
    have t0 : ((k0 : Nat) : Int).toNat = k0 := rfl
    have t1 : ((W.length : Nat) : Int).toNat = W.length := rfl
    have hlt : decide ((k2 : Int) < (((W ++ X ++ p :: y :: t).drop k0).length : Int)) = true := decide_eq_true (by simp; omega)
    have ed : (W ++ X ++ p :: y :: t).drop k0 = (W ++ X).drop k0 ++ p :: y :: t := by rw [List.drop_append_of_le_length (by simp; omega)]
    have hdl : ((W ++ X).drop k0).length = k2 - 1 := by simp; omega
    have i1 : idx ((W ++ X ++ p :: y :: t).drop k0) (k2 : Nat) = some y := by rw [ed]; exact wD (by rw [hdl]; omega)
    have i2 : idx ((W ++ X ++ p :: y :: t).drop k0) (w64 ((k2 : Int) - 1)) = some p := by rw [aFu (by omega) (by omega), ed]; exact rM (by rw [hdl])
    simp only [dI, t0, hlt, cond_true, i1, i2, Option.bind_some, dP (show k2 < 9223372036854775807 by omega)]
    by_cases hyp : y = p
    · subst hyp
      have := ih y W (X ++ [y]) (k2 + 1) k (by omega) (by simp; omega) h3 (by simp only [List.length_append, List.length_cons, List.length_nil]; omega) (by omega)
      have e1 : W ++ (X ++ [y]) ++ y :: t = W ++ X ++ y :: y :: t := by simp
      rw [e1] at this
      rw [decide_eq_true rfl, Bool.not_true, cond_false, this]
      simp [nW]
    · have hd : (!decide (y = p)) = true := by rw [decide_eq_false hyp]; rfl
      have i3 : ∃ z, idx (W ++ X ++ p :: y :: t) (W.length : Nat) = some z := ⟨_, eO (by simp; omega)⟩
      obtain ⟨z, i3⟩ := i3
      rw [hd, cond_true, i3, Option.bind_some, t1, dP (by omega)]
      obtain ⟨X', e2⟩ : ∃ X', (W ++ X ++ p :: y :: t).set W.length y = (W ++ [y]) ++ X' ++ y :: t ∧ X'.length = X.length := by
        cases X with
        | nil => exact ⟨[], by simp, rfl⟩
        | cons x X => exact ⟨X ++ [p], by simp, by simp⟩
      rw [e2.1]
      have := ih y (W ++ [y]) X' (k2 + 1) k (by omega) (by rw [List.length_append, e2.2]; simp; omega) (by simp; omega) (by simp only [List.length_append, List.length_cons, List.length_nil, e2.2]; omega) (by omega)
      have e3 : (W ++ [y]).length = W.length + 1 := by simp
      rw [e3] at this
      rw [this]
      simp [nW, hyp]
theorem aEc (s : List aJ) (hb : s.length < 4611686018427387904) : fF s = some (oD s) := by
  have main : ∀ (t A : List aJ) (p : aJ) (k : Nat), t.length < k → (A ++ p :: t).length < 4611686018427387904 → cV k ((A.length + 1 : Nat) : Int) (A ++ p :: t) = some (A ++ p :: nW p t) := by
    intro t
    induction t with
    | nil =>
      intro A p k hk hb
      obtain ⟨k, rfl⟩ : ∃ q, k = q + 1 := ⟨k - 1, by omega⟩
      have hlt : decide (((A.length + 1 : Nat) : Int) < ((A ++ [p]).length : Int)) = false := decide_eq_false (by simp)
      simp only [cV, hlt, cond_false, jU, nW]
    | cons y t ih =>
      intro A p k hk hb
      obtain ⟨k, rfl⟩ : ∃ q, k = q + 1 := ⟨k - 1, by omega⟩
      simp only [List.length_append, List.length_cons] at hb hk
      have hlt : decide (((A.length + 1 : Nat) : Int) < ((A ++ p :: y :: t).length : Int)) = true := decide_eq_true (by simp; omega)
      have i2 : w64 (((A.length + 1 : Nat) : Int) - 1) = (A.length : Int) := by rw [gD (by omega) (by omega)]; omega
      simp only [cV, hlt, cond_true, wD rfl, i2, rM rfl, Option.bind_some]
      by_cases hyp : y = p
      · subst hyp
        have c1 : (decide ((0 : Int) ≤ ((A.length + 1 : Nat) : Int)) && decide (((A.length + 1 : Nat) : Int) ≤ ((A ++ y :: y :: t).length : Int))) = true := by simp; omega
        rw [decide_eq_true rfl, cond_true, c1]
        simp only [chk, cond_true, Option.bind_some]
        have := aHp (cV k) (k0 := A.length + 1) t y (A ++ [y]) [] 1 BIG (Nat.le_refl _) (by simp) (by simp) (by simp only [List.length_append, List.length_cons, List.length_nil]; omega) (gM (by omega))
        have e3 : (A ++ [y]).length = A.length + 1 := by simp
        have e4 : A ++ [y] ++ [] ++ y :: t = A ++ y :: y :: t := by simp
        rw [e3, e4] at this
        have e5 : ((1 : Nat) : Int) = 1 := rfl
        rw [e5] at this
        rw [this]
        simp [nW]
      · rw [decide_eq_false hyp, cond_false]
        unfold jV
        rw [dP (by omega)]
        have := ih (A ++ [p]) y k (by omega) (by simp only [List.length_append, List.length_cons, List.length_nil]; omega)
        have e3 : (A ++ [p]).length = A.length + 1 := by simp
        have e4 : A ++ [p] ++ y :: t = A ++ p :: y :: t := by simp
        rw [e3, e4] at this
        rw [this]
        simp [nW, hyp]
  unfold fF
  match s, hb with
  | [], _ => simp [oD]
  | x :: t, hb =>
    by_cases ht : t = []
    · subst ht; simp [oD, nW]
    · have hl : 0 < t.length := List.length_pos_iff.2 ht
      have hd : decide (((x :: t).length : Int) < 2) = false := decide_eq_false (by simp; omega)
      rw [hd, cond_false]
      have := main t [] x BIG (gM (by simp at hb; omega)) (by simpa using hb)
      simp only [List.length_nil, List.nil_append, Nat.zero_add] at this
      have e5 : ((1 : Nat) : Int) = 1 := rfl
      rw [e5] at this
      rw [this]; rfl
theorem aLd (p x : aJ) (t : List aJ) : (x = p ∨ x ∈ nW p t) ↔ (x = p ∨ x ∈ t) := by
  induction t generalizing p with
  | nil => rfl
  | cons y t ih =>
    simp only [nW, List.mem_cons]
    by_cases h : y = p
    · subst h
      rw [if_pos rfl]
      have := ih y
      constructor
      · rintro (h | h)
        · exact .inl h
        · rcases this.1 (.inr h) with h | h
          · exact .inl h
          · exact .inr (.inr h)
      · rintro (h | h | h)
        · exact .inl h
        · exact .inl h
        · exact this.2 (.inr h)
    · rw [if_neg h, List.mem_cons]
      have := ih y
      constructor
      · rintro (h | h)
        · exact .inl h
        · exact .inr (this.1 h)
      · rintro (h | h)
        · exact .inl h
        · exact .inr (this.2 h)
theorem aFx (x : aJ) (s : List aJ) : x ∈ oD s ↔ x ∈ s := by
  cases s with
  | nil => rfl
  | cons p t => simp only [oD, List.mem_cons]; exact aLd p x t
theorem aLe (p : aJ) (t : List aJ) : (nW p t).Sublist t := by
  induction t generalizing p with
  | nil => exact .slnil
  | cons y t ih =>
    simp only [nW]
    split
    · exact (ih p).cons _
    · exact (ih y).cons_cons _
/-- In a weakly ordered row without a clash, what is left is strictly ordered. -/
theorem aGa (p : aJ) (t : List aJ) (hs : (p :: t).Pairwise fun x y => eK x ≤ eK y) (hcl : ∀ x ∈ p :: t, ∀ y ∈ p :: t, eK x = eK y → x = y) : (p :: nW p t).Pairwise fun x y => eK x < eK y := by
  induction t generalizing p with
  | nil => exact List.pairwise_singleton _ _
  | cons y t ih =>
    have h1 := List.pairwise_cons.1 hs
    have h2 := List.pairwise_cons.1 h1.2
    simp only [nW]
    by_cases h : y = p
    · subst h
      rw [if_pos rfl]
      exact ih y h1.2 (fun a ha b hb => hcl a (List.mem_cons_of_mem _ ha) b (List.mem_cons_of_mem _ hb))
    · rw [if_neg h]
      have h3 := ih y h1.2 (fun a ha b hb => hcl a (List.mem_cons_of_mem _ ha) b (List.mem_cons_of_mem _ hb))
      refine List.pairwise_cons.2 ⟨fun z hz => ?_, h3⟩
      have hpy : eK p < eK y := by
        have := h1.1 y (by simp)
        rcases Int.lt_or_eq_of_le this with h4 | h4
        · exact h4
        · exact absurd (hcl p (by simp) y (by simp) h4).symm h
      rcases List.mem_cons.1 hz with rfl | hz
      · exact hpy
      · exact Int.lt_trans hpy ((List.pairwise_cons.1 h3).1 z hz)
theorem nN {α : Type} {key : α → Int} : ∀ {xs ys : List α}, xs.Pairwise (fun x y => key x < key y) → ys.Pairwise (fun x y => key x < key y) → (∀ x, x ∈ xs ↔ x ∈ ys) → xs = ys
  | [], [], _, _, _ => rfl
  | [], y :: ys, _, _, h => by have := (h y).2 (by simp); simp at this
  | x :: xs, [], _, _, h => by have := (h x).1 (by simp); simp at this
  | x :: xs, y :: ys, h1, h2, h => by
    have a1 := List.pairwise_cons.1 h1
    have a2 := List.pairwise_cons.1 h2
    have hxy : x = y := by
      rcases List.mem_cons.1 ((h x).1 (by simp)) with e | e
      · exact e
      · rcases List.mem_cons.1 ((h y).2 (by simp)) with e2 | e2
        · exact e2.symm
        · have := a2.1 x e; have := a1.1 y e2; omega
    subst hxy
    have := nN a1.2 a2.2 fun z => by
      have hz := h z
      simp only [List.mem_cons] at hz
      constructor
      · intro hm
        rcases hz.1 (.inr hm) with e | e
        · have := a1.1 z hm; rw [e] at this; omega
        · exact e
      · intro hm
        rcases hz.2 (.inr hm) with e | e
        · have := a2.1 z hm; rw [e] at this; omega
        · exact e
    rw [this]


theorem aHo (l : List aJ) (hb : l.length ≤ 60) : gQ l = some l := by
  have key := lT (cR (fun (s3 : List aJ) x4 => (app 40 s3 ([x4])).bind fun x6 => some (x6, true)) l (l.length : Int)) l.length (fun i s => some (s ++ l.drop i, true)) (fun i s => s.length = i) (fun k i s hi hI ih => ?_) (fun k s hI => ?_) BIG [] (gM (by omega)) rfl
  · unfold gQ iJ eS
    rw [key]
    simp
  · simp only [cR, show decide ((i : Int) < (l.length : Int)) = true by simpa using hi, cond_true, eO hi, Option.bind_some]
    rw [oC (by simp; omega)]
    simp only [Option.bind_some, Bool.not_true, cond_false]
    rw [dP (by omega), ih _ (by simp; omega)]
    rw [List.append_assoc, List.singleton_append, ← List.drop_eq_getElem_cons hi]
  · simp [cR, gB]
theorem or2 (a b : Int) : lW [a, b] = some (if a ≠ 0 then a else b) := by
  unfold lW
  obtain ⟨k, hk⟩ : ∃ k, BIG = k + 1 + 1 + 1 := ⟨BIG - 3, by unfold BIG; omega⟩
  rw [show ((([a, b] : List Int).length : Nat) : Int) = 2 from rfl, hk]
  simp only [lS, pO, show decide ((0 : Int) < 2) = true from rfl, cond_true, show idx [a, b] 0 = some a from rfl, Option.bind_some, show w64 (0 + 1) = 1 from rfl, show decide ((1 : Int) < 2) = true from rfl, show idx [a, b] 1 = some b from rfl, show w64 (1 + 1) = 2 from rfl, show decide ((2 : Int) < 2) = false from rfl, cond_false]
  by_cases h : a = 0
  · subst h
    by_cases h2 : b = 0
    · subst h2; simp
    · simp [h2]
  · simp [h]
/-- Whose number and hour are within their bounds. -/
def bN (x : aJ) : Prop := 0 ≤ x.Id ∧ x.Id ≤ 999 ∧ 0 ≤ x.Hour ∧ x.Hour ≤ 9999
theorem vU {x : aJ} (h : gL x = true) : bN x := by
  unfold gL at h
  simp only [Bool.and_eq_true, uH] at h
  exact ⟨h.1.1.1.1, h.1.1.1.2, h.1.2.1, h.1.2.2⟩
theorem aNq {x y : aJ} (hx : bN x) (hy : bN y) : ∃ r, dW x y = some r ∧ (r < 0 ↔ eK x < eK y) := by
  obtain ⟨a1, a2, a3, a4⟩ := hx
  obtain ⟨b1, b2, b3, b4⟩ := hy
  unfold dW
  rw [gD (by omega) (by omega), gD (by omega) (by omega), or2]
  refine ⟨_, rfl, ?_⟩
  unfold eK
  split <;> constructor <;> intro h <;> omega
theorem ltN {x y : aJ} (hx : bN x) (hy : bN y) : ltO (fun a b => dW a b) x y = decide (eK x < eK y) := by
  obtain ⟨r, h1, h2⟩ := aNq hx hy
  unfold ltO
  simp only [h1]
  rw [Bool.eq_iff_iff]
  simpa using h2
theorem aEs {x y : aJ} (hx : bN x) (hy : bN y) (h : eK x = eK y) : x.Id = y.Id := by
  obtain ⟨a1, a2, a3, a4⟩ := hx
  obtain ⟨b1, b2, b3, b4⟩ := hy
  unfold eK at h
  omega
theorem aHb {l : List aJ} (hb : ∀ x ∈ l, bN x) (hid : ∀ x ∈ l, ∀ y ∈ l, x.Id = y.Id → x = y) : pS l (fun a b => dW a b) = true := by
  unfold pS
  simp only [List.all_eq_true, Bool.and_eq_true, Bool.or_eq_true, Bool.not_eq_true', decide_eq_true_eq]
  intro x hx
  refine ⟨by rw [ltN (hb x hx) (hb x hx)]; simp, fun y hy => ⟨⟨?_, ?_⟩, fun z hz => ⟨?_, ?_⟩⟩⟩
  · obtain ⟨r, h1, _⟩ := aNq (hb x hx) (hb y hy)
    simp [h1]
  · rw [ltN (hb x hx) (hb y hy), ltN (hb y hy) (hb x hx)]
    simp only [decide_eq_true_eq]
    rcases Int.lt_trichotomy (eK x) (eK y) with h | h | h
    · exact .inl (.inr h)
    · exact .inl (.inl (hid x hx y hy (aEs (hb x hx) (hb y hy) h)))
    · exact .inr h
  · rw [ltN (hb x hx) (hb y hy), ltN (hb y hy) (hb z hz), ltN (hb x hx) (hb z hz)]
    simp only [Bool.and_eq_false_iff, decide_eq_false_iff_not, decide_eq_true_eq]
    omega
  · rw [ltN (hb x hx) (hb y hy), ltN (hb y hy) (hb z hz), ltN (hb x hx) (hb z hz)]
    simp only [decide_eq_false_iff_not, decide_eq_true_eq]
    omega
def cX (l : List aJ) : List aJ := oD (dO (fun a b => dW a b) l)
theorem aNr {l : List aJ} (hlen : l.length ≤ 60) (hb : ∀ x ∈ l, bN x) (hid : ∀ x ∈ l, ∀ y ∈ l, x.Id = y.Id → x = y) :
    fO l (fun y5 y6 => dW y5 y6) = some (dO (fun a b => dW a b) l) ∧ fF (dO (fun a b => dW a b) l) = some (cX l) := by
  have hl : (dO (fun a b => dW a b) l).length = l.length := (iP _ l).length_eq
  refine ⟨?_, aEc _ (by omega)⟩
  unfold fO kM
  rw [aHo l hlen]
  simp only [Option.bind_some]
  unfold pU
  rw [if_pos ⟨aHb hb hid, by omega⟩]
  rfl
theorem eN {l : List aJ} (x : aJ) : x ∈ cX l ↔ x ∈ l := by
  unfold cX
  rw [aFx]
  exact (iP _ l).mem_iff
theorem lV {l : List aJ} (hb : ∀ x ∈ l, bN x) (hid : ∀ x ∈ l, ∀ y ∈ l, x.Id = y.Id → x = y) : (cX l).Pairwise fun x y => eK x < eK y := by
  have hs := pT (aHb hb hid)
  have hm : ∀ x, x ∈ dO (fun a b => dW a b) l ↔ x ∈ l := fun x => (iP _ l).mem_iff
  unfold cX
  generalize hz : dO (fun a b => dW a b) l = z at hs hm
  have hs' : z.Pairwise fun x y => eK x ≤ eK y := by
    refine List.Pairwise.imp_of_mem (fun {x y} hx hy h => ?_) hs
    rw [ltN (hb y ((hm y).1 hy)) (hb x ((hm x).1 hx))] at h
    simp at h
    omega
  cases z with
  | nil => exact .nil
  | cons p t => exact aGa p t hs' fun x hx y hy h => hid x ((hm x).1 hx) y ((hm y).1 hy) (aEs (hb x ((hm x).1 hx)) (hb y ((hm y).1 hy)) h)
end Go.Am

end
section
namespace Go.Am

section lists
variable {α : Type}
end lists

end Go.Am

end
section
namespace Go.Am

def gE {α : Type} (p : α → Bool) (l : List α) : Int := if l.findIdx p < l.length then (l.findIdx p : Int) else -1
theorem aJd {α : Type} (p : α → Bool) (l : List α) : decide (0 ≤ gE p l) = l.any p := by
  unfold gE
  split
  · rename_i h
    have : l.any p = true := List.any_eq_true.2 ⟨_, List.getElem_mem h, List.findIdx_getElem (w := h)⟩
    rw [this]; simp
  · rename_i h
    have : l.any p = false := by
      rw [Bool.eq_false_iff]
      intro hn
      obtain ⟨x, hx, hp⟩ := List.any_eq_true.1 hn
      exact h (List.findIdx_lt_length_of_exists ⟨x, hx, hp⟩)
    rw [this]; simp
theorem aCp {α : Type} (F : Nat → Int → Option Int) (l : List α) (p : α → Bool) (h1 : ∀ k i (hi : i < l.length), F (k + 1) (i : Nat) = bif p l[i] then some (i : Int) else F k ((i + 1 : Nat) : Int)) (h2 : ∀ k, F (k + 1) (l.length : Nat) = some (-1)) :
    ∀ k, l.length < k → F k 0 = some (gE p l) := by
  have main : ∀ d i k, l.length - i = d → d < k → i ≤ l.length → (∀ j (hj : j < l.length), j < i → p l[j] = false) → F k (i : Nat) = some (gE p l) := by
    intro d
    induction d with
    | zero =>
      intro i k hd hk hi hno
      obtain ⟨k, rfl⟩ : ∃ q, k = q + 1 := ⟨k - 1, by omega⟩
      have : i = l.length := by omega
      subst this
      have he : ¬ l.findIdx p < l.length := fun h => by
        have := hno _ h h
        rw [List.findIdx_getElem (w := h)] at this
        cases this
      rw [h2, gE, if_neg he]
    | succ d ih =>
      intro i k hd hk hi hno
      obtain ⟨k, rfl⟩ : ∃ q, k = q + 1 := ⟨k - 1, by omega⟩
      have hil : i < l.length := by omega
      rw [h1 k i hil]
      cases hp : p l[i] with
      | true =>
        have he : l.findIdx p = i := by
          rw [List.findIdx_eq hil]
          exact ⟨hp, fun j hj => hno j (by omega) hj⟩
        rw [cond_true, gE, he, if_pos hil]
      | false =>
        rw [cond_false]
        exact ih (i + 1) k (by omega) (by omega) (by omega) fun j hj hji => by
          rcases Nat.lt_or_eq_of_le (Nat.le_of_lt_succ hji) with h | h
          · exact hno j hj h
          · subst h; exact hp
  intro k hk
  exact main _ 0 k rfl (by omega) (Nat.zero_le _) fun j _ h => by omega

section del
theorem aEp (l : List Int) (f : Int → Option Bool) (p : Int → Bool) (h : ∀ x ∈ l, f x = some (p x)) (hb : l.length ≤ 1000000) : gA l f = some (gE p l) := by
  unfold gA
  refine aCp (fun k i => eU l f (l.length : Int) k i) l p (fun k i hi => ?_) (fun k => ?_) BIG (gM (by omega))
  · have hlt : decide ((i : Int) < (l.length : Int)) = true := decide_eq_true (by omega)
    simp only [eU, hlt, cond_true, eO hi, Option.bind_some, h _ (List.getElem_mem hi), dP (show i < 9223372036854775807 by omega)]
  · have hlt : decide ((l.length : Int) < (l.length : Int)) = false := decide_eq_false (by omega)
    simp only [eU, hlt, cond_false, lQ]
theorem aFy (f : Int → Option Bool) (p : Int → Bool) : ∀ (t W X : List Int) (k : Nat), (∀ x ∈ t, f x = some (p x)) → 0 < X.length → (W ++ X ++ t).length ≤ 1000000 → t.length < k →
    dY f k (W.length : Nat) ((W.length + X.length : Nat) : Int) (W ++ X ++ t) = some (W ++ t.filter fun x => !p x) := by
  intro t
  induction t with
  | nil =>
    intro W X k hf hX hb hk
    obtain ⟨k, rfl⟩ : ∃ q, k = q + 1 := ⟨k - 1, by omega⟩
    simp only [List.length_append, List.length_nil] at hb
    have hlt : decide (((W.length + X.length : Nat) : Int) < ((W ++ X ++ []).length : Int)) = false := decide_eq_false (by simp)
    have t1 : ((W.length : Nat) : Int).toNat = W.length := rfl
    have c1 : (decide ((0 : Int) ≤ (W.length : Int)) && decide ((W.length : Int) ≤ ((W ++ X ++ []).length : Int))) = true := by simp; omega
    have c2 : decide (W.length ≤ (W ++ X ++ []).length) = true := by simp
    have c3 : decide ((0 : Int) ≤ (W.length : Int)) = true := by simp
    simp only [dY, hlt, cond_false, lK]
    rw [c1, t1, c2, c3]
    simp [chk]
  | cons y t ih =>
    intro W X k hf hX hb hk
    obtain ⟨k, rfl⟩ : ∃ q, k = q + 1 := ⟨k - 1, by omega⟩
    simp only [List.length_append, List.length_cons] at hb hk
    have hlt : decide (((W.length + X.length : Nat) : Int) < ((W ++ X ++ y :: t).length : Int)) = true := decide_eq_true (by simp; omega)
    have i1 : idx (W ++ X ++ y :: t) ((W.length + X.length : Nat) : Int) = some y := rM (by simp)
    have hf1 := hf y (by simp)
    have hf2 : ∀ x ∈ t, f x = some (p x) := fun x hx => hf x (List.mem_cons_of_mem _ hx)
    have t1 : ((W.length : Nat) : Int).toNat = W.length := rfl
    simp only [dY, hlt, cond_true, i1, hf1, Option.bind_some, dP (show W.length + X.length < 9223372036854775807 by omega)]
    cases hp : p y with
    | true =>
      simp only [Bool.not_true, cond_false]
      have := ih W (X ++ [y]) k hf2 (by simp) (by simp; omega) (by omega)
      have e1 : W ++ (X ++ [y]) ++ t = W ++ X ++ y :: t := by simp
      have e2 : W.length + (X ++ [y]).length = W.length + X.length + 1 := by simp; omega
      rw [e1, e2] at this
      rw [this]; simp [hp]
    | false =>
      simp only [Bool.not_false, cond_true]
      match X, hX with
      | x :: X, _ =>
        have i2 : idx (W ++ (x :: X) ++ y :: t) (W.length : Nat) = some x := by
          have : W ++ (x :: X) ++ y :: t = W ++ x :: (X ++ y :: t) := by simp
          rw [this]; exact rM rfl
        have e3 : (W ++ (x :: X) ++ y :: t).set W.length y = (W ++ [y]) ++ (X ++ [y]) ++ t := by
          have : W ++ (x :: X) ++ y :: t = W ++ x :: (X ++ y :: t) := by simp
          rw [this, aNb rfl]; simp
        rw [i2, Option.bind_some, t1, e3, dP (by omega)]
        have := ih (W ++ [y]) (X ++ [y]) k hf2 (by simp) (by simp at hb ⊢; omega) (by omega)
        have e4 : (W ++ [y]).length = W.length + 1 := by simp
        have e5 : (W ++ [y]).length + (X ++ [y]).length = W.length + (x :: X).length + 1 := by simp; omega
        rw [e5, e4] at this
        rw [this]; simp [hp]
theorem aAb (s : List Int) (f : Int → Option Bool) (p : Int → Bool) (h : ∀ x ∈ s, f x = some (p x)) (hb : s.length ≤ 1000000) : cM s f = some (s.filter fun x => !p x) := by
  unfold cM
  rw [aEp s f p h hb, Option.bind_some]
  unfold gE
  by_cases hl : s.findIdx p < s.length
  · rw [if_pos hl, decide_eq_false (by omega), cond_false]
    obtain ⟨i, hi⟩ : ∃ i, i = s.findIdx p := ⟨_, rfl⟩
    rw [← hi] at hl ⊢
    have hno : ∀ x ∈ s.take i, (!p x) = true := fun x hx => by
      obtain ⟨j, hj, rfl⟩ := List.getElem_of_mem hx
      simp only [List.length_take] at hj
      rw [List.getElem_take]
      have := List.not_of_lt_findIdx (p := p) (xs := s) (i := j) (by omega)
      simpa using this
    have hyes : p s[i] = true := by
      have := List.findIdx_getElem (p := p) (xs := s) (w := hi ▸ hl)
      simpa [← hi] using this
    have es : s = s.take i ++ [s[i]] ++ s.drop (i + 1) := by
      rw [List.append_assoc, List.singleton_append, ← List.drop_eq_getElem_cons hl, List.take_append_drop]
    have hloop := aFy f p (s.drop (i + 1)) (s.take i) [s[i]] BIG (fun x hx => h x (List.mem_of_mem_drop hx)) (by simp) (by rw [← es]; omega) (gM (by simp; omega))
    have e1 : (s.take i).length = i := by simp; omega
    rw [e1, ← es] at hloop
    rw [dP (by omega)]
    have e2 : i + [s[i]].length = i + 1 := rfl
    rw [e2] at hloop
    rw [hloop]
    congr 1
    conv => rhs; rw [es]
    rw [List.filter_append, List.filter_append, List.filter_eq_self.2 hno]
    simp [hyes]
  · rw [if_neg hl, decide_eq_true rfl, cond_true]
    congr 1
    symm
    refine List.filter_eq_self.2 fun x hx => ?_
    cases hp : p x with
    | false => rfl
    | true => exact absurd (List.findIdx_lt_length_of_exists ⟨x, hx, hp⟩) hl
end del

theorem aDu (l : List Int) (hl : l.length ≤ 9223372036854775807) (v : Int) : gW l v = some (match l.findIdx? (fun x => decide (v = x)) with | some i => (i : Int) | none => -1) := by
  unfold gW
  rw [lT (S := Unit) (fun k i _ => eC l v l.length k i) l.length (fun i _ => some (match (l.drop i).findIdx? (fun x => decide (v = x)) with | some j => ((i + j : Nat) : Int) | none => -1)) (fun _ _ => True) ?_ ?_ BIG () (gM hl) trivial]
  · simp
  · intro k i _ hi _ ih
    have := ih () trivial
    simp only [eC, eO hi, Option.bind_some, dP (show i < 9223372036854775807 by omega), Int.ofNat_lt, hi, decide_true, cond_true, this]
    rw [List.drop_eq_getElem_cons hi, List.findIdx?_cons]
    by_cases h : v = l[i]
    · simp [h]
    · simp only [h, decide_false, cond_false, Bool.false_eq_true, if_false]
      cases List.findIdx? (fun x => decide (v = x)) (List.drop (i + 1) l) with
      | none => rfl
      | some j => simp; omega
  · intro k _ _
    simp [eC, lP]
theorem uJ (l : List Int) (hl : l.length ≤ 9223372036854775807) (v : Int) : iM l v = some (decide (v ∈ l)) := by
  unfold iM
  rw [aDu l hl v]
  cases h : List.findIdx? (fun x => decide (v = x)) l with
  | none =>
    simp at h
    have : v ∉ l := fun hm => h v hm rfl
    simp [this]
  | some j =>
    have : v ∈ l := by
      obtain ⟨h1, h2, _⟩ := List.findIdx?_eq_some_iff_getElem.1 h
      simp at h2
      rw [h2]; exact List.getElem_mem h1
    simp [this]


theorem aFh (out : List Int) (p : Int) (hb : out.length ≤ 1000000) : gW out p = some (gE (fun x => decide (p = x)) out) := by
  unfold gW
  refine aCp (fun k i => eC out p (out.length : Int) k i) out (fun x => decide (p = x)) (fun k i hi => ?_) (fun k => ?_) BIG (gM (by omega))
  · have hlt : decide ((i : Int) < (out.length : Int)) = true := decide_eq_true (by omega)
    simp only [eC, hlt, cond_true, eO hi, Option.bind_some, dP (show i < 9223372036854775807 by omega)]
  · have hlt : decide ((out.length : Int) < (out.length : Int)) = false := decide_eq_false (by omega)
    simp only [eC, hlt, cond_false, lP]
theorem aIt (a b : List Int) (ha : a.length ≤ 100000) (hb : b.length ≤ 100000) : kQ [a, b] = some (a ++ b) := by
  have e1 : ∀ k s, fD [a, b] 2 (k + 3) 0 s = (app 8 s a).bind fun x => (app 8 x b).bind fun y => some y := by
    intro k s
    have w1 : w64 (0 + 1) = 1 := rfl
    have w2 : w64 (1 + 1) = 2 := rfl
    have i0 : idx [a, b] 0 = some a := rfl
    have i1 : idx [a, b] 1 = some b := rfl
    have c0 : decide ((0 : Int) < 2) = true := rfl
    have c1 : decide ((1 : Int) < 2) = true := rfl
    have c2 : decide ((2 : Int) < 2) = false := rfl
    rw [fD, c0, cond_true, i0, Option.bind_some, w1]
    refine congrArg _ (funext fun x => ?_)
    rw [fD, c1, cond_true, i1, Option.bind_some, w2]
    refine congrArg _ (funext fun y => ?_)
    rw [fD, c2, cond_false]; rfl
  have hB : BIG = (18446744073709551616 - 3) + 3 := rfl
  have hL : (([a, b] : List (List Int)).length : Int) = 2 := rfl
  have g1 : w64 (0 + (a.length : Int)) = a.length := by rw [gD (by omega) (by omega)]; omega
  have g2 : w64 ((a.length : Int) + (b.length : Int)) = ((a.length + b.length : Nat) : Int) := by rw [gD (by omega) (by omega)]; omega
  have hgrow : mC ((a.length + b.length : Nat) : Int) = some [] := by
    unfold mC
    have w0 : w64 (0 - 0) = 0 := rfl
    rw [decide_eq_false (by omega), cond_false, w0, Int.sub_zero, gD (by omega) (by omega)]
    by_cases h0 : (0 : Int) < ((a.length + b.length : Nat) : Int)
    · have c1 : decide (((a.length + b.length : Nat) : Int) * ((8 : Nat) : Int) ≤ 140737488355328) = true := decide_eq_true (by omega)
      rw [decide_eq_true h0, cond_true, c1]; rfl
    · rw [decide_eq_false h0, cond_false]
  unfold kQ
  rw [hB, hL]
  have w1 : w64 (0 + 1) = 1 := rfl
  have w2 : w64 (1 + 1) = 2 := rfl
  have i0 : idx [a, b] 0 = some a := rfl
  have i1 : idx [a, b] 1 = some b := rfl
  have c0 : decide ((0 : Int) < 2) = true := rfl
  have c1 : decide ((1 : Int) < 2) = true := rfl
  have c2 : decide ((2 : Int) < 2) = false := rfl
  rw [fZ, c0, cond_true, i0, Option.bind_some, g1, decide_eq_false (by omega), cond_false, w1, fZ, c1, cond_true, i1, Option.bind_some, g2, decide_eq_false (by omega), cond_false, w2, fZ, c2, cond_false]
  unfold nD
  rw [hgrow, Option.bind_some, hB, hL, e1, oC (by simp; omega), Option.bind_some, List.nil_append, oC (by omega), Option.bind_some]

end Go.Am

end
section
namespace Go.Am

abbrev zP : aA := aA.mk false false 0 0 false false false false
/-- What is known of a player. -/
def pl (l : aI) (n : Int) : aA := aH n zP l.players

/-- What holds of the lists that the program makes. -/
structure WF (l : aI) : Prop where
  fd : oM l.Field = true
  keys : (l.players.map Prod.fst).Nodup
  cnt : l.players.length ≤ 60
  ent : 0 ≤ l.entered ∧ l.entered ≤ 60
  mr : 0 ≤ l.more ∧ l.more ≤ 60
  turn : ∀ n, (pl l n).entered = true → 1 ≤ (pl l n).turn ∧ (pl l n).turn ≤ l.entered ∧ 0 ≤ (pl l n).rank ∧ (pl l n).rank ≤ 9999
  inj : ∀ n m, (pl l n).entered = true → (pl l m).entered = true → (pl l n).turn = (pl l m).turn → n = m

theorem aAu {α β : Type} [DecidableEq α] {n : α} {z : β} : ∀ {m : List (α × β)}, n ∉ m.map Prod.fst → aH n z m = z
  | [], _ => rfl
  | (b, v) :: m, h => by
    simp only [List.map_cons, List.mem_cons, not_or] at h
    simp only [aH, h.1, decide_false, cond_false]
    exact aAu h.2
theorem aBr {l : aI} {n : Int} (h : (pl l n).entered = true) : n ∈ l.players.map Prod.fst := by
  refine Classical.byContradiction fun hn => ?_
  unfold pl at h
  rw [aAu hn] at h
  cases h
theorem tX (l : aI) (n : Int) : isE l.players n = ((pl l n).entered && !(pl l n).quit && !(pl l n).had) := rfl

/-- The order of the entries. -/
def jE (l : aI) (n : Int) : Int := (if (pl l n).rank = 0 then 10000 else (pl l n).rank) * 100 + (pl l n).turn
theorem or3 (a b c : Int) : lW [a, b, c] = some (if a ≠ 0 then a else if b ≠ 0 then b else c) := by
  obtain ⟨k, hk⟩ : ∃ k, BIG = k + 1 + 1 + 1 + 1 := ⟨BIG - 4, by unfold BIG; omega⟩
  unfold lW
  rw [show ((([a, b, c] : List Int).length : Nat) : Int) = 3 from rfl, hk]
  simp only [lS, pO, show decide ((0 : Int) < 3) = true from rfl, cond_true, show idx [a, b, c] 0 = some a from rfl, Option.bind_some, show w64 (0 + 1) = 1 from rfl, show decide ((1 : Int) < 3) = true from rfl, show idx [a, b, c] 1 = some b from rfl, show w64 (1 + 1) = 2 from rfl, show decide ((2 : Int) < 3) = true from rfl, show idx [a, b, c] 2 = some c from rfl, show w64 (2 + 1) = 3 from rfl, show decide ((3 : Int) < 3) = false from rfl, cond_false]
  by_cases h : a = 0
  · subst h
    by_cases h2 : b = 0
    · subst h2
      by_cases h3 : c = 0
      · subst h3; simp
      · simp [h3]
    · simp [h2]
  · simp [h]
theorem aMv (p : aA) : gI p = some (if p.rank = 0 then 1 else 0) := by
  unfold gI
  by_cases h : p.rank = 0 <;> simp [h]
theorem aNp {l : aI} (h : WF l) {a b : Int} (ha : (pl l a).entered = true) (hb : (pl l b).entered = true) : ∃ r, dX a b l = some r ∧ (r < 0 ↔ jE l a < jE l b) := by
  obtain ⟨a1, a2, a3, a4⟩ := h.turn a ha
  obtain ⟨b1, b2, b3, b4⟩ := h.turn b hb
  have he := h.ent.2
  unfold dX
  rw [show (aH a (aA.mk false false 0 0 false false false false) l.players) = pl l a from rfl, show (aH b (aA.mk false false 0 0 false false false false) l.players) = pl l b from rfl]
  simp only [aMv, Option.bind_some]
  rw [gD (by split <;> split <;> omega) (by split <;> split <;> omega), gD (by omega) (by omega), gD (by omega) (by omega), or3]
  refine ⟨_, rfl, ?_⟩
  unfold jE
  by_cases h1 : (pl l a).rank = 0 <;> by_cases h2 : (pl l b).rank = 0 <;> simp only [h1, h2, if_true, if_false] <;> (repeat' split) <;> constructor <;> intro h3 <;> omega
theorem ltE {l : aI} (h : WF l) {a b : Int} (ha : (pl l a).entered = true) (hb : (pl l b).entered = true) : ltO (fun a b => dX a b l) a b = decide (jE l a < jE l b) := by
  obtain ⟨r, h1, h2⟩ := aNp h ha hb
  unfold ltO
  simp only [h1]
  rw [Bool.eq_iff_iff]
  simpa using h2
theorem zS {l : aI} (h : WF l) {a b : Int} (ha : (pl l a).entered = true) (hb : (pl l b).entered = true) (he : jE l a = jE l b) : a = b := by
  obtain ⟨a1, a2, a3, a4⟩ := h.turn a ha
  obtain ⟨b1, b2, b3, b4⟩ := h.turn b hb
  have he2 := h.ent.2
  refine h.inj a b ha hb ?_
  unfold jE at he
  split at he <;> split at he <;> omega

/-- All entries, as they lie in the map. -/
def pD (l : aI) : List Int := (l.players.filter fun p => isE l.players p.1).map Prod.fst
def fP (l : aI) : List Int := dO (fun a b => dX a b l) (pD l)
theorem wH {l : aI} {n : Int} : n ∈ pD l ↔ isE l.players n = true := by
  unfold pD
  constructor
  · intro h
    obtain ⟨p, hp, rfl⟩ := List.mem_map.1 h
    exact (List.mem_filter.1 hp).2
  · intro h
    have he : (pl l n).entered = true := by
      rw [tX] at h
      simp only [Bool.and_eq_true] at h
      exact h.1.1
    obtain ⟨p, hp, rfl⟩ := List.mem_map.1 (aBr he)
    exact List.mem_map.2 ⟨p, List.mem_filter.2 ⟨hp, h⟩, rfl⟩
theorem uB {l : aI} {n : Int} (h : n ∈ pD l) : (pl l n).entered = true := by
  have := wH.1 h
  rw [tX] at this
  simp only [Bool.and_eq_true] at this
  exact this.1.1
theorem aHf {l : aI} (h : WF l) : pS (pD l) (fun a b => dX a b l) = true := by
  unfold pS
  simp only [List.all_eq_true, Bool.and_eq_true, Bool.or_eq_true, Bool.not_eq_true', decide_eq_true_eq]
  intro x hx
  have ex := uB hx
  refine ⟨by rw [ltE h ex ex]; simp, fun y hy => ?_⟩
  have ey := uB hy
  refine ⟨⟨?_, ?_⟩, fun z hz => ?_⟩
  · obtain ⟨r, h1, _⟩ := aNp h ex ey
    simp [h1]
  · rw [ltE h ex ey, ltE h ey ex]
    simp only [decide_eq_true_eq]
    rcases Int.lt_trichotomy (jE l x) (jE l y) with h1 | h1 | h1
    · exact .inl (.inr h1)
    · exact .inl (.inl (zS h ex ey h1))
    · exact .inr h1
  · have ez := uB hz
    rw [ltE h ex ey, ltE h ey ez, ltE h ex ez]
    simp only [Bool.and_eq_false_iff, decide_eq_false_iff_not, decide_eq_true_eq]
    omega
theorem sW {l : aI} (h : WF l) : eL l = some (fP l) := by
  have e1 : (fun p : Int × aA => (fB l.players p.1).getD false) = fun p => isE l.players p.1 := by
    funext p
    rw [sX]; rfl
  have hc := h.cnt
  have hl : (pD l).length ≤ 60 := by
    unfold pD
    rw [List.length_map]
    exact Nat.le_trans (List.length_filter_le _ _) hc
  unfold eL
  rw [if_pos (by omega), e1]
  unfold pU
  rw [if_pos ⟨aHf h, by show (pD l).length < _; omega⟩]
  rfl
theorem oG {l : aI} {n : Int} : n ∈ fP l ↔ isE l.players n = true := by
  unfold fP
  rw [(iP _ _).mem_iff]
  exact wH
theorem pW {l : aI} (h : WF l) : (fP l).length ≤ 60 := by
  unfold fP
  rw [(iP _ _).length_eq]
  unfold pD
  rw [List.length_map]
  exact Nat.le_trans (List.length_filter_le _ _) h.cnt
theorem aEe {l : aI} {n : Int} (h : n ∈ fP l) : (pl l n).entered = true := uB (wH.2 (oG.1 h))
theorem rY {l : aI} (h : WF l) : (fP l).Pairwise fun a b => jE l a < jE l b := by
  have hs := pT (aHf h)
  have hn : (fP l).Nodup := by
    refine (iP _ _).nodup_iff.2 ?_
    unfold pD
    refine List.Nodup.sublist ?_ h.keys
    exact (List.filter_sublist).map _
  refine List.Pairwise.imp_of_mem (fun {a b} ha hb hab => ?_) (hs.and hn)
  have ea := aEe (l := l) ha
  have eb := aEe (l := l) hb
  rw [ltE h eb ea] at hab
  have h1 := hab.1
  simp at h1
  rcases Int.lt_or_eq_of_le h1 with h2 | h2
  · exact h2
  · exact absurd (zS h ea eb h2) hab.2
theorem aAd {l : aI} (h : WF l) : (fP l).Nodup := (rY h).imp fun {a b} hab e => by subst e; omega

/-- How many of some players are protected. -/
def gd (l : aI) (xs : List Int) : Nat := (xs.filter fun n => (pl l n).guard).length
theorem aCv (l : aI) (xs : List Int) (hb : xs.length ≤ 1000) : iC l xs = some ((gd l xs : Nat) : Int) := by
  have key := lT (S := Int) (fun k i s => fA l xs (xs.length : Int) k s i) xs.length (fun i s => some (s + ((gd l (xs.drop i) : Nat) : Int))) (fun i s => 0 ≤ s ∧ s ≤ i) (fun k i s hi hI ih => ?_) (fun k s hI => ?_) BIG 0 (gM (by omega)) ⟨Int.le_refl _, Int.le_refl _⟩
  · unfold iC
    rw [key]
    simp
  · have hlt : decide ((i : Int) < (xs.length : Int)) = true := decide_eq_true (by omega)
    simp only [fA, hlt, cond_true, eO hi, Option.bind_some, dP (show i < 9223372036854775807 by omega)]
    rw [show (aH xs[i] (aA.mk false false 0 0 false false false false) l.players) = pl l xs[i] from rfl]
    have hd : gd l (xs.drop i) = (if (pl l xs[i]).guard then 1 else 0) + gd l (xs.drop (i + 1)) := by
      unfold gd
      rw [List.drop_eq_getElem_cons hi, List.filter_cons]
      split <;> simp <;> omega
    rw [hd]
    cases (pl l xs[i]).guard with
    | true =>
      simp only [cond_true, if_true]
      rw [gD (by omega) (by omega), ih _ ⟨by omega, by omega⟩]
      congr 1
      omega
    | false =>
      simp only [cond_false, Bool.false_eq_true, if_false]
      rw [ih _ ⟨by omega, by omega⟩]
      congr 1
      omega
  · simp [fA, mY, gd]

def plc (l : aI) : Int := l.Field.Places + l.more
theorem uQ {l : aI} (h : WF l) : eD l = some (plc l) := by
  have hf := h.fd
  unfold oM at hf
  simp only [Bool.and_eq_true, uH] at hf
  have hm := h.mr
  unfold eD plc
  rw [gD (by omega) (by omega)]
/-- Who gets the places, one after the other. -/
def qT (l : aI) (acc : List Int) : List Int → List Int
  | [] => acc
  | n :: t => qT l (bif decide ((acc.length : Int) < plc l) && (!(pl l n).guard || decide (((gd l acc : Nat) : Int) < l.Field.Guards)) then acc ++ [n] else acc) t
theorem zT (l : aI) : ∀ (t acc : List Int), (qT l acc t).length ≤ acc.length + t.length
  | [], acc => by simp [qT]
  | n :: t, acc => by
    refine Nat.le_trans (zT l t _) ?_
    cases decide ((acc.length : Int) < plc l) && (!(pl l n).guard || decide (((gd l acc : Nat) : Int) < l.Field.Guards)) <;> simp <;> omega
def kI (l : aI) : List Int := qT l [] (fP l)
theorem aCx {l : aI} (h : WF l) : jM l = some (kI l) := by
  have hl := pW h
  unfold jM kI
  rw [sW h]
  simp only [Option.bind_some]
  have key := lT (fC l (fP l) ((fP l).length : Int)) (fP l).length (fun i acc => some (qT l acc ((fP l).drop i))) (fun i acc => acc.length ≤ i) (fun k i acc hi hI ih => ?_) (fun k acc hI => ?_) BIG [] (gM (by omega)) (Nat.le_refl _)
  · rw [key]; simp
  · have hlt : decide ((i : Int) < ((fP l).length : Int)) = true := decide_eq_true (by omega)
    simp only [fC, hlt, cond_true, eO hi, Option.bind_some, uQ h, dP (show i < 9223372036854775807 by omega)]
    rw [show (aH (fP l)[i] (aA.mk false false 0 0 false false false false) l.players) = pl l (fP l)[i] from rfl, aCv l acc (by omega)]
    simp only [Option.bind_some, tF, tJ]
    rw [List.drop_eq_getElem_cons hi, qT]
    cases hc : decide ((acc.length : Int) < plc l) && (!(pl l (fP l)[i]).guard || decide (((gd l acc : Nat) : Int) < l.Field.Guards)) with
    | true =>
      simp only [cond_true]
      rw [oC (by simp; omega), Option.bind_some, ih _ (by simp; omega)]
    | false =>
      simp only [cond_false]
      rw [ih _ (by omega)]
  · simp [fC, mZ, qT]
def bO (l : aI) : List Int := bif l.frozen then l.first ++ l.late else kI l
theorem aBt {l : aI} (h : WF l) (hf : l.first.length ≤ 1000) (hl : l.late.length ≤ 1000) : dU l = some (bO l) := by
  unfold dU bO
  cases l.frozen with
  | true =>
    simp only [Bool.not_true, cond_false, cond_true]
    rw [aIt _ _ (by omega) (by omega)]; rfl
  | false =>
    simp only [Bool.not_false, cond_true, cond_false]
    rw [aCx h]; rfl
def dQ (l : aI) : aI := bif l.frozen then l else { l with frozen := true, first := kI l }
theorem aCu {l : aI} (h : WF l) : jL l = some (dQ l) := by
  unfold jL dQ
  cases hz : l.frozen with
  | true => simp
  | false =>
    simp only [Bool.not_false, cond_true, cond_false]
    rw [aCx h]; rfl
end Go.Am

end
section
namespace Go.Am

theorem aJr (l : aI) (n : Int) : aH n (aA.mk false false 0 0 false false false false) l.players = pl l n := rfl
def bQ (l : aI) (x : aJ) : aI :=
  let p := pl l x.Player
  bif decide (x.Kind = 1) || decide (x.Kind = 2) then
    bif decide (x.Hour ≤ l.Field.Close) && !p.entered then
      aI.mk l.Field (cL x.Player (aA.mk true (decide (x.Kind = 2)) x.Rank (l.entered + 1) p.quit p.signed p.wild p.had) l.players) l.wilds l.frozen l.first l.late l.more (l.entered + 1)
    else aI.mk l.Field (cL x.Player p l.players) l.wilds l.frozen l.first l.late l.more l.entered
  else bif decide (x.Kind = 3) then
    bif ((decide (x.Hour ≤ l.Field.Freeze) && !p.wild) && !p.quit) && decide ((l.wilds.length : Int) < l.Field.Wilds) then
      aI.mk l.Field (cL x.Player (aA.mk p.entered p.guard p.rank p.turn p.quit p.signed true true) l.players) (l.wilds ++ [x.Player]) l.frozen l.first l.late l.more l.entered
    else aI.mk l.Field (cL x.Player p l.players) l.wilds l.frozen l.first l.late l.more l.entered
  else bif decide (x.Kind = 4) then
    aI.mk l.Field (cL x.Player (aA.mk p.entered p.guard p.rank p.turn true p.signed false p.had) l.players) (l.wilds.filter fun m => !decide (m = x.Player)) l.frozen l.first l.late
      (bif p.wild && decide (l.Field.Freeze < x.Hour) then l.more + 1 else l.more) l.entered
  else bif decide (x.Kind = 5) then
    aI.mk l.Field (cL x.Player (aA.mk p.entered p.guard p.rank p.turn p.quit true p.wild p.had) l.players) l.wilds l.frozen l.first l.late l.more l.entered
  else aI.mk l.Field (cL x.Player p l.players) l.wilds l.frozen l.first l.late l.more l.entered
theorem aNg (l : aI) (x : aJ) (he : 0 ≤ l.entered ∧ l.entered ≤ 60) (hm : 0 ≤ l.more ∧ l.more ≤ 60) (hw : l.wilds.length ≤ 1000) : jD l x = some (bQ l x) := by
  have hd : cM l.wilds (fun y => eE y x) = some (l.wilds.filter fun m => !decide (m = x.Player)) := aAb l.wilds _ (fun m => decide (m = x.Player)) (fun m _ => rfl) (by omega)
  have ha : app 8 l.wilds [x.Player] = some (l.wilds ++ [x.Player]) := oC (by simp; omega)
  have w1 : w64 (l.entered + 1) = l.entered + 1 := gD (by omega) (by omega)
  have w2 : w64 (l.more + 1) = l.more + 1 := gD (by omega) (by omega)
  unfold jD bQ
  simp only [aJr, tJ, Option.bind_some, hd, ha, w1, w2]
  by_cases h1 : x.Kind = 1
  · simp only [h1, decide_true, cond_true, Bool.true_or]
    cases decide (x.Hour ≤ l.Field.Close) && !(pl l x.Player).entered <;> rfl
  · by_cases h2 : x.Kind = 2
    · simp only [h2, decide_true, cond_true, Bool.or_true, show decide ((2 : Int) = 1) = false from rfl, cond_false]
      cases decide (x.Hour ≤ l.Field.Close) && !(pl l x.Player).entered <;> rfl
    · have e1 : decide (x.Kind = 1) = false := decide_eq_false h1
      have e2 : decide (x.Kind = 2) = false := decide_eq_false h2
      simp only [e1, e2, cond_false, Bool.or_self]
      cases decide (x.Kind = 3) with
      | true =>
        simp only [cond_true]
        cases ((decide (x.Hour ≤ l.Field.Freeze) && !(pl l x.Player).wild) && !(pl l x.Player).quit) && decide ((l.wilds.length : Int) < l.Field.Wilds) <;> rfl
      | false =>
        simp only [cond_false]
        cases decide (x.Kind = 4) with
        | true =>
          simp only [cond_true]
          cases (pl l x.Player).wild && decide (l.Field.Freeze < x.Hour) <;> rfl
        | false =>
          simp only [cond_false]
          cases decide (x.Kind = 5) <;> rfl

theorem xO {α β : Type} [DecidableEq α] (a : α) (v : β) : ∀ m : List (α × β), (cL a v m).map Prod.fst = if a ∈ m.map Prod.fst then m.map Prod.fst else m.map Prod.fst ++ [a]
  | [] => rfl
  | (b, u) :: m => by
    simp only [cL]
    by_cases h : a = b
    · subst h; simp
    · simp only [h, decide_false, cond_false, List.map_cons, xO a v m, List.mem_cons, false_or]
      split <;> simp
theorem aIb {α β : Type} [DecidableEq α] {a : α} {v : β} {m : List (α × β)} (h : (m.map Prod.fst).Nodup) : ((cL a v m).map Prod.fst).Nodup := by
  rw [xO]
  split
  · exact h
  · rename_i hn
    rw [List.nodup_append]
    exact ⟨h, by simp, fun x hx y hy => by simp at hy; subst hy; exact fun e => hn (e ▸ hx)⟩
theorem aLg {α β : Type} [DecidableEq α] (a : α) (v : β) (m : List (α × β)) : (cL a v m).length ≤ m.length + 1 := by
  have := congrArg List.length (xO a v m)
  rw [List.length_map] at this
  rw [this]
  split <;> simp
/-- The counts, after so many notices. -/
structure Cn (l : aI) (i : Nat) : Prop where
  pls : l.players.length ≤ i
  ent : l.entered ≤ i
  mr : l.more ≤ i
  wl : l.wilds.length ≤ i
/-- What a notice does to what is known of players. -/
def upP (l : aI) (x : aJ) : aA :=
  let p := pl l x.Player
  bif decide (x.Kind = 1) || decide (x.Kind = 2) then
    bif decide (x.Hour ≤ l.Field.Close) && !p.entered then aA.mk true (decide (x.Kind = 2)) x.Rank (l.entered + 1) p.quit p.signed p.wild p.had else p
  else bif decide (x.Kind = 3) then
    bif ((decide (x.Hour ≤ l.Field.Freeze) && !p.wild) && !p.quit) && decide ((l.wilds.length : Int) < l.Field.Wilds) then aA.mk p.entered p.guard p.rank p.turn p.quit p.signed true true else p
  else bif decide (x.Kind = 4) then aA.mk p.entered p.guard p.rank p.turn true p.signed false p.had
  else bif decide (x.Kind = 5) then aA.mk p.entered p.guard p.rank p.turn p.quit true p.wild p.had
  else p
theorem oV (l : aI) (x : aJ) : (bQ l x).players = cL x.Player (upP l x) l.players := by
  unfold bQ upP
  cases decide (x.Kind = 1) || decide (x.Kind = 2) with
  | true => simp only [cond_true]; cases decide (x.Hour ≤ l.Field.Close) && !(pl l x.Player).entered <;> rfl
  | false =>
    simp only [cond_false]
    cases decide (x.Kind = 3) with
    | true => simp only [cond_true]; cases ((decide (x.Hour ≤ l.Field.Freeze) && !(pl l x.Player).wild) && !(pl l x.Player).quit) && decide ((l.wilds.length : Int) < l.Field.Wilds) <;> rfl
    | false =>
      simp only [cond_false]
      cases decide (x.Kind = 4) with
      | true => rfl
      | false => simp only [cond_false]; cases decide (x.Kind = 5) <;> rfl
theorem lU (l : aI) (x : aJ) (n : Int) : pl (bQ l x) n = bif decide (n = x.Player) then upP l x else pl l n := by
  unfold pl
  rw [oV, xN]
theorem kB (l : aI) (x : aJ) : (bQ l x).Field = l.Field ∧ (bQ l x).frozen = l.frozen ∧ (bQ l x).first = l.first ∧ (bQ l x).late = l.late := by
  unfold bQ
  cases decide (x.Kind = 1) || decide (x.Kind = 2) with
  | true => simp only [cond_true]; cases decide (x.Hour ≤ l.Field.Close) && !(pl l x.Player).entered <;> exact ⟨rfl, rfl, rfl, rfl⟩
  | false =>
    simp only [cond_false]
    cases decide (x.Kind = 3) with
    | true => simp only [cond_true]; cases ((decide (x.Hour ≤ l.Field.Freeze) && !(pl l x.Player).wild) && !(pl l x.Player).quit) && decide ((l.wilds.length : Int) < l.Field.Wilds) <;> exact ⟨rfl, rfl, rfl, rfl⟩
    | false =>
      simp only [cond_false]
      cases decide (x.Kind = 4) with
      | true => exact ⟨rfl, rfl, rfl, rfl⟩
      | false => simp only [cond_false]; cases decide (x.Kind = 5) <;> exact ⟨rfl, rfl, rfl, rfl⟩
/-- Whether a notice enters its player. -/
def pH (l : aI) (x : aJ) : Bool := (decide (x.Kind = 1) || decide (x.Kind = 2)) && (decide (x.Hour ≤ l.Field.Close) && !(pl l x.Player).entered)
theorem aFq (l : aI) (x : aJ) : (bQ l x).entered = (bif pH l x then l.entered + 1 else l.entered) ∧
    (pH l x = true → (upP l x).entered = true ∧ (upP l x).turn = l.entered + 1 ∧ (upP l x).rank = x.Rank ∧ (pl l x.Player).entered = false) ∧
    (pH l x = false → (upP l x).entered = (pl l x.Player).entered ∧ (upP l x).turn = (pl l x.Player).turn ∧ (upP l x).rank = (pl l x.Player).rank) := by
  unfold bQ upP pH
  cases decide (x.Kind = 1) || decide (x.Kind = 2) with
  | true =>
    simp only [cond_true, Bool.true_and]
    cases h : decide (x.Hour ≤ l.Field.Close) && !(pl l x.Player).entered with
    | true =>
      simp only [Bool.and_eq_true, Bool.not_eq_true'] at h
      exact ⟨rfl, fun _ => ⟨rfl, rfl, rfl, h.2⟩, fun h => by cases h⟩
    | false => exact ⟨rfl, (fun h => by cases h), fun _ => ⟨rfl, rfl, rfl⟩⟩
  | false =>
    simp only [cond_false, Bool.false_and]
    cases decide (x.Kind = 3) with
    | true => simp only [cond_true]; cases ((decide (x.Hour ≤ l.Field.Freeze) && !(pl l x.Player).wild) && !(pl l x.Player).quit) && decide ((l.wilds.length : Int) < l.Field.Wilds) <;> exact ⟨rfl, (fun h => by cases h), fun _ => ⟨rfl, rfl, rfl⟩⟩
    | false =>
      simp only [cond_false]
      cases decide (x.Kind = 4) with
      | true => exact ⟨rfl, (fun h => by cases h), fun _ => ⟨rfl, rfl, rfl⟩⟩
      | false => simp only [cond_false]; cases decide (x.Kind = 5) <;> exact ⟨rfl, (fun h => by cases h), fun _ => ⟨rfl, rfl, rfl⟩⟩
theorem xZ (l : aI) (x : aJ) : (l.more ≤ (bQ l x).more ∧ (bQ l x).more ≤ l.more + 1) ∧ (bQ l x).wilds.length ≤ l.wilds.length + 1 := by
  have hf : (l.wilds.filter fun m => !decide (m = x.Player)).length ≤ l.wilds.length := List.length_filter_le _ _
  unfold bQ
  cases decide (x.Kind = 1) || decide (x.Kind = 2) with
  | true => simp only [cond_true]; cases decide (x.Hour ≤ l.Field.Close) && !(pl l x.Player).entered <;> simp <;> omega
  | false =>
    simp only [cond_false]
    cases decide (x.Kind = 3) with
    | true => simp only [cond_true]; cases ((decide (x.Hour ≤ l.Field.Freeze) && !(pl l x.Player).wild) && !(pl l x.Player).quit) && decide ((l.wilds.length : Int) < l.Field.Wilds) <;> simp <;> omega
    | false =>
      simp only [cond_false]
      cases decide (x.Kind = 4) with
      | true => simp only [cond_true]; cases (pl l x.Player).wild && decide (l.Field.Freeze < x.Hour) <;> simp only [cond_true, cond_false] <;> omega
      | false => simp only [cond_false]; cases decide (x.Kind = 5) <;> simp <;> omega
theorem aNh {l : aI} {x : aJ} {i : Nat} (h : WF l) (hc : Cn l i) (hi : i < 60) (hx : gL x = true) : WF (bQ l x) ∧ Cn (bQ l x) (i + 1) := by
  obtain ⟨hF, _, _, _⟩ := kB l x
  obtain ⟨t1, t2, t3⟩ := aFq l x
  obtain ⟨m1, m2⟩ := xZ l x
  have hent := h.ent
  have hmr := h.mr
  obtain ⟨c1, c2, c3, c4⟩ := hc
  have hpl : (bQ l x).players.length ≤ i + 1 := by rw [oV]; have := aLg x.Player (upP l x) l.players; omega
  have hE : 0 ≤ (bQ l x).entered ∧ (bQ l x).entered ≤ (i : Int) + 1 ∧ l.entered ≤ (bQ l x).entered := by rw [t1]; cases pH l x <;> simp only [cond_true, cond_false] <;> omega
  have hrank : pH l x = true → 0 ≤ x.Rank ∧ x.Rank ≤ 9999 := fun he => by
    unfold pH at he
    simp only [Bool.and_eq_true, Bool.or_eq_true, decide_eq_true_eq] at he
    unfold gL at hx
    simp only [Bool.and_eq_true] at hx
    rcases he.1 with h1 | h1
    · have := hx.2
      rw [h1] at this
      simpa [wi] using this
    · have := hx.2
      rw [h1] at this
      simp only [show decide ((2 : Int) = 1) = false from rfl, cond_false, decide_true, cond_true, uH] at this
      omega
  refine ⟨⟨by rw [hF]; exact h.fd, by rw [oV]; exact aIb h.keys, by omega, ⟨hE.1, by omega⟩, ⟨by omega, by omega⟩, fun n hn => ?_, fun n m hn hm he => ?_⟩, ⟨hpl, by omega, by omega, by omega⟩⟩
  · rw [lU] at hn ⊢
    by_cases hnx : n = x.Player
    · subst hnx
      simp only [decide_true, cond_true] at hn ⊢
      cases he : pH l x with
      | true =>
        obtain ⟨_, e2, e3, _⟩ := t2 he
        have := hrank he
        rw [t1, he, e2, e3]
        simp only [cond_true]
        omega
      | false =>
        obtain ⟨e1, e2, e3⟩ := t3 he
        rw [e1] at hn
        have := h.turn _ hn
        rw [e2, e3]
        omega
    · simp only [hnx, decide_false, cond_false] at hn ⊢
      have := h.turn _ hn
      omega
  · rw [lU] at hn hm
    rw [lU, lU] at he
    by_cases hnx : n = x.Player <;> by_cases hmx : m = x.Player
    · rw [hnx, hmx]
    · subst hnx
      simp only [decide_true, cond_true, hmx, decide_false, cond_false] at hn hm he
      cases hen : pH l x with
      | true =>
        have := h.turn _ hm
        have := (t2 hen).2.1
        omega
      | false =>
        obtain ⟨e1, e2, _⟩ := t3 hen
        rw [e1] at hn
        rw [e2] at he
        exact h.inj _ _ hn hm he
    · subst hmx
      simp only [decide_true, cond_true, hnx, decide_false, cond_false] at hn hm he
      cases hen : pH l x with
      | true =>
        have := h.turn _ hn
        have := (t2 hen).2.1
        omega
      | false =>
        obtain ⟨e1, e2, _⟩ := t3 hen
        rw [e1] at hm
        rw [e2] at he
        exact h.inj _ _ hn hm he
    · simp only [hnx, hmx, decide_false, cond_false] at hn hm he
      exact h.inj _ _ hn hm he
end Go.Am

end
section
namespace Go.Am

def wl (l : aI) (a b : List Int) : aI := aI.mk l.Field l.players l.wilds l.frozen a b l.more l.entered
theorem yQ {l : aI} (h : WF l) (a b : List Int) : WF (wl l a b) := ⟨h.fd, h.keys, h.cnt, h.ent, h.mr, h.turn, h.inj⟩
/-- Who may get an open place. -/
def lH (l : aI) (inn : List Int) (n : Int) : Bool := ((pl l n).signed && !decide (n ∈ inn)) && (!(pl l n).guard || decide (((gd l inn : Nat) : Int) < l.Field.Guards))
theorem aKv (l : aI) (inn : List Int) (n : Int) (hb : inn.length ≤ 1000) : jK n l inn = some (lH l inn n) := by
  unfold jK lH
  rw [aJr, aCv l inn hb, uJ inn (by omega) n]
  simp only [Option.bind_some, tJ, tF]
theorem aEk (l : aI) (n : Int) : eQ n l.players = some (!isE l.players n) := by
  unfold eQ
  rw [sX]; rfl
def iQ (l : aI) (first : List Int) : Nat → List Int → List Int
  | 0, late => late
  | k + 1, late => bif decide (((first ++ late).length : Int) < plc l) then (match (fP l).find? (lH l (first ++ late)) with
    | none => late
    | some n => iQ l first k (late ++ [n])) else late
theorem uA {l : aI} (h : WF l) : 1 ≤ plc l ∧ plc l ≤ 92 := by
  have hf := h.fd
  unfold oM at hf
  simp only [Bool.and_eq_true, uH] at hf
  have hm := h.mr
  unfold plc
  omega
theorem aHu {α : Type} (p : α → Bool) (xs : List α) (hb : xs.length ≤ 1000) : (match xs.find? p with
    | none => gE p xs = -1
    | some n => 0 ≤ gE p xs ∧ idx xs (gE p xs) = some n) := by
  cases hf : xs.find? p with
  | none =>
    simp only
    unfold gE
    rw [if_neg]
    intro hl
    have h1 := List.findIdx_getElem (p := p) (w := hl)
    exact (List.find?_eq_none.1 hf) _ (List.getElem_mem hl) h1
  | some n =>
    simp only
    have hl : xs.findIdx p < xs.length := List.findIdx_lt_length_of_exists ⟨n, List.mem_of_find?_eq_some hf, List.find?_some hf⟩
    unfold gE
    rw [if_pos hl]
    refine ⟨by omega, ?_⟩
    rw [eO hl]
    rw [List.find?_eq_getElem?_findIdx, List.getElem?_eq_getElem hl] at hf
    exact hf
theorem aMq {l : aI} (h : WF l) (hfz : l.frozen = true) (first : List Int) : ∀ (d : Nat) (late : List Int) (k K : Nat), (plc l - ((first ++ late).length : Int)).toNat ≤ d → d < K → d ≤ k → (first ++ late).length ≤ 500 →
    gS l.players l.wilds first K late l.Field l.frozen l.more l.entered (first ++ late) = some (wl l first (iQ l first k late)) := by
  intro d
  induction d with
  | zero =>
    intro late k K hd hK hk hb
    obtain ⟨K, rfl⟩ : ∃ q, K = q + 1 := ⟨K - 1, by omega⟩
    have hlt : decide (((first ++ late).length : Int) < plc l) = false := decide_eq_false (by omega)
    have hp : eD (aI.mk l.Field l.players l.wilds l.frozen first late l.more l.entered) = some (plc l) := uQ (yQ h first late)
    have hg : iQ l first k late = late := by
      cases k with
      | zero => rfl
      | succ k => simp only [iQ, hlt, cond_false]
    simp only [gS, hp, Option.bind_some, hlt, cond_false, mA, hg]
    rfl
  | succ d ih =>
    intro late k K hd hK hk hb
    obtain ⟨K, rfl⟩ : ∃ q, K = q + 1 := ⟨K - 1, by omega⟩
    obtain ⟨k, rfl⟩ : ∃ q, k = q + 1 := ⟨k - 1, by omega⟩
    have hp : eD (aI.mk l.Field l.players l.wilds l.frozen first late l.more l.entered) = some (plc l) := uQ (yQ h first late)
    have hen : eL (aI.mk l.Field l.players l.wilds l.frozen first late l.more l.entered) = some (fP l) := sW (yQ h first late)
    have hix : gA (fP l) (fun y => jK y (aI.mk l.Field l.players l.wilds l.frozen first late l.more l.entered) (first ++ late)) = some (gE (lH l (first ++ late)) (fP l)) :=
      aEp (fP l) _ (lH l (first ++ late)) (fun n _ => aKv (wl l first late) (first ++ late) n (by omega)) (by have := pW h; omega)
    have hfi := aHu (lH l (first ++ late)) (fP l) (by have := pW h; omega)
    simp only [gS, hp, Option.bind_some, iQ]
    cases hlt : decide (((first ++ late).length : Int) < plc l) with
    | false =>
      simp only [cond_false, mA]
      rfl
    | true =>
      simp only [cond_true, hen, Option.bind_some, hix]
      have hlt' : ((first ++ late).length : Int) < plc l := by simpa using hlt
      have hp92 := uA h
      cases hf : (fP l).find? (lH l (first ++ late)) with
      | none =>
        rw [hf] at hfi
        simp only at hfi
        rw [hfi]
        rfl
      | some n =>
        rw [hf] at hfi
        simp only at hfi
        rw [decide_eq_false (by omega), cond_false, hfi.2]
        simp only [Option.bind_some]
        have hbl : late.length ≤ 500 := by simp at hb; omega
        rw [oC (by simp; omega)]
        simp only [Option.bind_some]
        have hm : dU (aI.mk l.Field l.players l.wilds l.frozen first (late ++ [n]) l.more l.entered) = some (first ++ (late ++ [n])) := by
          have := aBt (yQ h first (late ++ [n])) (show first.length ≤ 1000 by simp at hb; omega) (show (late ++ [n]).length ≤ 1000 by simp; omega)
          rw [show (aI.mk l.Field l.players l.wilds l.frozen first (late ++ [n]) l.more l.entered) = wl l first (late ++ [n]) from rfl, this]
          unfold bO
          rw [show (wl l first (late ++ [n])).frozen = l.frozen from rfl, hfz]
          rfl
        rw [hm]
        simp only [Option.bind_some]
        refine ih (late ++ [n]) k K ?_ (by omega) (by omega) ?_
        · simp only [List.length_append, List.length_cons, List.length_nil] at hd hlt' ⊢
          omega
        · simp only [List.length_append, List.length_cons, List.length_nil] at hb hlt' ⊢
          omega
def kT (l : aI) : aI := wl l (l.first.filter fun n => isE l.players n) (iQ l (l.first.filter fun n => isE l.players n) 100 (l.late.filter fun n => isE l.players n))
theorem aMr {l : aI} (h : WF l) (hfz : l.frozen = true) (hb : (l.first ++ l.late).length ≤ 200) : jC l = some (kT l) := by
  have hb' : l.first.length + l.late.length ≤ 200 := by simpa using hb
  have d1 : cM l.first (fun y => eQ y l.players) = some (l.first.filter fun n => isE l.players n) := by
    rw [aAb l.first _ (fun n => !isE l.players n) (fun n _ => aEk l n) (by omega)]
    simp
  have d2 : cM l.late (fun y => eQ y l.players) = some (l.late.filter fun n => isE l.players n) := by
    rw [aAb l.late _ (fun n => !isE l.players n) (fun n _ => aEk l n) (by omega)]
    simp
  have f1 : (l.first.filter fun n => isE l.players n).length ≤ l.first.length := List.length_filter_le _ _
  have f2 : (l.late.filter fun n => isE l.players n).length ≤ l.late.length := List.length_filter_le _ _
  have hm := aBt (yQ h (l.first.filter fun n => isE l.players n) (l.late.filter fun n => isE l.players n)) (show (l.first.filter fun n => isE l.players n).length ≤ 1000 by omega) (show (l.late.filter fun n => isE l.players n).length ≤ 1000 by omega)
  unfold jC kT
  rw [d1, Option.bind_some, d2, Option.bind_some]
  rw [show (aI.mk l.Field l.players l.wilds l.frozen (l.first.filter fun n => isE l.players n) (l.late.filter fun n => isE l.players n) l.more l.entered) = wl l (l.first.filter fun n => isE l.players n) (l.late.filter fun n => isE l.players n) from rfl, hm, Option.bind_some]
  unfold bO
  rw [show (wl l (l.first.filter fun n => isE l.players n) (l.late.filter fun n => isE l.players n)).frozen = l.frozen from rfl]
  rw [show (bif l.frozen then (wl l (l.first.filter fun n => isE l.players n) (l.late.filter fun n => isE l.players n)).first ++ (wl l (l.first.filter fun n => isE l.players n) (l.late.filter fun n => isE l.players n)).late else kI (wl l (l.first.filter fun n => isE l.players n) (l.late.filter fun n => isE l.players n))) = (l.first.filter fun n => isE l.players n) ++ (l.late.filter fun n => isE l.players n) by rw [hfz]; rfl]
  have hp := uA h
  exact aMq h hfz _ 100 _ 100 BIG (by omega) (gM (by omega)) (Nat.le_refl _) (by simp only [List.length_append]; omega)
theorem aCm {l : aI} (h : WF l) (first : List Int) : ∀ (k : Nat) (late : List Int), (first ++ iQ l first k late).length ≤ max (first ++ late).length 92
  | 0, late => by simp only [iQ]; omega
  | k + 1, late => by
    have hp := uA h
    simp only [iQ]
    cases hlt : decide (((first ++ late).length : Int) < plc l) with
    | false => simp only [cond_false]; omega
    | true =>
      simp only [cond_true]
      have hlt' : ((first ++ late).length : Int) < plc l := by simpa using hlt
      cases (fP l).find? (lH l (first ++ late)) with
      | none => simp only; omega
      | some n =>
        simp only
        have := aCm h first k (late ++ [n])
        simp only [List.length_append, List.length_cons, List.length_nil] at this hlt' ⊢
        omega

/-! ### After the notices of an hour -/
/-- One more notice. -/
def cB (l : aI) (x : aJ) : aI :=
  let l2 := bQ (bif decide (l.Field.Freeze < x.Hour) then dQ l else l) x
  bif l2.frozen then kT l2 else l2
structure fE (f : aV) (l : aI) (i : Nat) : Prop where
  wf : WF l
  cn : Cn l i
  fd : l.Field = f
  len : (l.first ++ l.late).length ≤ 92
  fz : l.frozen = false → l.first = [] ∧ l.late = []
theorem mE {f : aV} {l : aI} {i : Nat} (h : fE f l i) : fE f (dQ l) i := by
  unfold dQ
  cases hz : l.frozen with
  | true => exact h
  | false =>
    obtain ⟨_, hlate⟩ := h.fz hz
    simp only [cond_false]
    refine ⟨⟨h.wf.fd, h.wf.keys, h.wf.cnt, h.wf.ent, h.wf.mr, h.wf.turn, h.wf.inj⟩, ⟨h.cn.pls, h.cn.ent, h.cn.mr, h.cn.wl⟩, h.fd, ?_, fun h => by cases h⟩
    show (kI l ++ l.late).length ≤ 92
    have h1 := zT l (fP l) []
    have h2 := pW h.wf
    rw [hlate]
    simp only [List.append_nil]
    unfold kI
    simp only [List.length_nil] at h1
    omega
theorem qE {f : aV} {l : aI} {x : aJ} {i : Nat} (h : fE f l i) (hi : i < 60) (hx : gL x = true) : fE f (bQ l x) (i + 1) := by
  obtain ⟨h1, h2⟩ := aNh h.wf h.cn hi hx
  obtain ⟨g1, g2, g3, g4⟩ := kB l x
  exact ⟨h1, h2, by rw [g1]; exact h.fd, by rw [g3, g4]; exact h.len, fun hz => by rw [g2] at hz; rw [g3, g4]; exact h.fz hz⟩
theorem aCn {f : aV} {l : aI} {i : Nat} (h : fE f l i) (hz : l.frozen = true) : fE f (kT l) i := by
  have hl : l.first.length + l.late.length ≤ 92 := by have := h.len; simpa using this
  have f1 : (l.first.filter fun n => isE l.players n).length ≤ l.first.length := List.length_filter_le _ _
  have f2 : (l.late.filter fun n => isE l.players n).length ≤ l.late.length := List.length_filter_le _ _
  refine ⟨yQ h.wf _ _, ⟨h.cn.pls, h.cn.ent, h.cn.mr, h.cn.wl⟩, h.fd, ?_, fun hf => ?_⟩
  · have := aCm h.wf (l.first.filter fun n => isE l.players n) 100 (l.late.filter fun n => isE l.players n)
    simp only [List.length_append] at this
    show ((l.first.filter fun n => isE l.players n) ++ iQ l (l.first.filter fun n => isE l.players n) 100 (l.late.filter fun n => isE l.players n)).length ≤ 92
    simp only [List.length_append]
    omega
  · have : l.frozen = false := hf
    rw [hz] at this; cases this
theorem mS {f : aV} {l : aI} {x : aJ} {i : Nat} (h : fE f l i) (hi : i < 60) (hx : gL x = true) : fE f (cB l x) (i + 1) := by
  unfold cB
  have h1 : fE f (bif decide (l.Field.Freeze < x.Hour) then dQ l else l) i := by
    cases decide (l.Field.Freeze < x.Hour) with
    | true => exact mE h
    | false => exact h
  have h2 := qE h1 hi hx
  simp only
  cases hz : (bQ (bif decide (l.Field.Freeze < x.Hour) then dQ l else l) x).frozen with
  | true => exact aCn h2 hz
  | false => exact h2
def dG (f : aV) : aI := aI.mk f [] [] false [] [] 0 0
theorem iX {f : aV} (hf : oM f = true) : fE f (dG f) 0 :=
  ⟨⟨hf, .nil, by simp [dG], ⟨Int.le_refl _, by simp [dG]⟩, ⟨Int.le_refl _, by simp [dG]⟩, fun n h => by simp [pl, dG, aH] at h, fun n m h => by simp [pl, dG, aH] at h⟩, ⟨by simp [dG], by simp [dG], by simp [dG], by simp [dG]⟩, rfl, by simp [dG], fun _ => ⟨rfl, rfl⟩⟩
/-- The notices of an hour and before. -/
def pE (hour : Int) (l : aI) : List aJ → aI
  | [] => l
  | x :: t => bif decide (hour < x.Hour) then l else pE hour (cB l x) t
def mD (hour : Int) (l : aI) : aI := bif decide (l.Field.Freeze < hour) then dQ l else l
theorem qA {f : aV} (hour : Int) : ∀ (t : List aJ) (l : aI) (i : Nat), fE f l i → i + t.length ≤ 60 → (∀ x ∈ t, gL x = true) → ∃ j, j ≤ 60 ∧ fE f (pE hour l t) j
  | [], l, i, h, hi, _ => ⟨i, by simpa using hi, h⟩
  | x :: t, l, i, h, hi, hx => by
    simp only [pE]
    cases decide (hour < x.Hour) with
    | true => exact ⟨i, by simp at hi; omega, h⟩
    | false =>
      simp only [List.length_cons] at hi
      exact qA hour t _ (i + 1) (mS h (by omega) (hx x (by simp))) (by omega) fun y hy => hx y (by simp [hy])
def aU (f : aV) (l : List aJ) (hour : Int) : aI := mD hour (pE hour (dG f) (cX l))
theorem aKo {f : aV} (T : List aJ) (hT : ∀ x ∈ T, gL x = true) (hl : T.length ≤ 60) (hour : Int) : ∀ (d i k : Nat) (l : aI), T.length - i = d → d < k → i ≤ T.length → fE f l i →
    eW hour (T.length : Int) f T k (i : Int) l.players l.wilds l.first l.late l.Field l.frozen l.more l.entered = some (some (mD hour (pE hour l (T.drop i)))) := by
  have hend : ∀ {l : aI} {i : Nat}, fE f l i → lA hour f l.players l.wilds l.first l.late l.Field l.frozen l.more l.entered = some (some (mD hour l)) := by
    intro l i h
    unfold lA mD
    rw [h.fd]
    cases decide (f.Freeze < hour) with
    | true =>
      simp only [cond_true]
      have := aCu h.wf
      rw [show (aI.mk f l.players l.wilds l.frozen l.first l.late l.more l.entered) = l by rw [← h.fd], this]
      rfl
    | false =>
      simp only [cond_false]
      rw [show (aI.mk f l.players l.wilds l.frozen l.first l.late l.more l.entered) = l by rw [← h.fd]]
  intro d
  induction d with
  | zero =>
    intro i k l hd hk hi h
    obtain ⟨k, rfl⟩ : ∃ q, k = q + 1 := ⟨k - 1, by omega⟩
    have : i = T.length := by omega
    subst this
    simp only [eW, Int.lt_irrefl, decide_false, cond_false, List.drop_length, pE]
    exact hend h
  | succ d ih =>
    intro i k l hd hk hi h
    obtain ⟨k, rfl⟩ : ∃ q, k = q + 1 := ⟨k - 1, by omega⟩
    have hil : i < T.length := by omega
    have hlt : decide ((i : Int) < (T.length : Int)) = true := decide_eq_true (by omega)
    have hw : w64 ((i : Int) + 1) = ((i + 1 : Nat) : Int) := dP (by omega)
    have hx : gL T[i] = true := hT _ (List.getElem_mem hil)
    rw [List.drop_eq_getElem_cons hil, pE]
    simp only [eW, hlt, cond_true, eO hil, Option.bind_some, hw]
    cases decide (hour < T[i].Hour) with
    | true => simp only [cond_true]; exact hend h
    | false =>
      simp only [cond_false]
      have hmk : (aI.mk l.Field l.players l.wilds l.frozen l.first l.late l.more l.entered) = l := rfl
      have goon : ∀ (l1 : aI), fE f l1 i → ((jD l1 T[i]).bind fun r25 =>
          bif r25.frozen then ((jC r25).bind fun r31 =>
          (eW hour (T.length : Int) f T k) ((i + 1 : Nat) : Int) r31.players r31.wilds r31.first r31.late r31.Field r31.frozen r31.more r31.entered)
          else ((eW hour (T.length : Int) f T k) ((i + 1 : Nat) : Int) r25.players r25.wilds r25.first r25.late r25.Field r25.frozen r25.more r25.entered)) =
          some (some (mD hour (pE hour (bif (bQ l1 T[i]).frozen then kT (bQ l1 T[i]) else bQ l1 T[i]) (T.drop (i + 1))))) := by
        intro l1 h1
        have hwl := h1.cn.wl
        rw [aNg l1 T[i] h1.wf.ent h1.wf.mr (by omega)]
        simp only [Option.bind_some]
        have h2 := qE h1 (by omega) hx
        cases hz : (bQ l1 T[i]).frozen with
        | true =>
          simp only [cond_true]
          rw [aMr h2.wf hz (by have := h2.len; omega)]
          simp only [Option.bind_some]
          exact ih (i + 1) k _ (by omega) (by omega) (by omega) (aCn h2 hz)
        | false =>
          simp only [cond_false]
          have := ih (i + 1) k _ (by omega) (by omega) (by omega) h2
          rw [hz] at this
          exact this
      unfold cB
      rw [h.fd]
      cases decide (f.Freeze < T[i].Hour) with
      | true =>
        simp only [cond_true]
        have hfz := aCu h.wf
        rw [show (aI.mk f l.players l.wilds l.frozen l.first l.late l.more l.entered) = l by rw [← h.fd], hfz]
        simp only [Option.bind_some]
        exact goon (dQ l) (mE h)
      | false =>
        simp only [cond_false]
        rw [show (aI.mk f l.players l.wilds l.frozen l.first l.late l.more l.entered) = l by rw [← h.fd]]
        exact goon l h
theorem nF (l : List aJ) : (cX l).length ≤ l.length := by
  unfold cX
  have h1 := (iP (fun a b => dW a b) l).length_eq
  rw [← h1]
  cases dO (fun a b => dW a b) l with
  | nil => simp [oD]
  | cons p t => simp only [oD, List.length_cons]; have := (aLe p t).length_le; omega
theorem aDx {f : aV} {l : List aJ} (h : VL f l) (hour : Int) : nO f l hour = some (some (aU f l hour)) := by
  have hb : ∀ x ∈ l, bN x := fun x hx => vU (h.nt x hx)
  obtain ⟨e1, e2⟩ := aNr h.len hb h.id
  have hT := nF l
  have hlen := h.len
  unfold nO jH
  rw [Option.bind_some, e1, Option.bind_some, e2, Option.bind_some]
  exact aKo (cX l) (fun x hx => h.nt x ((eN x).1 hx)) (by omega) hour _ 0 BIG (dG f) rfl (gM (by omega)) (Nat.zero_le _) (iX h.fd)
theorem qI {f : aV} {l : List aJ} (h : VL f l) (hour : Int) : ∃ j, j ≤ 60 ∧ fE f (aU f l hour) j := by
  have hT := nF l
  have hlen := h.len
  obtain ⟨j, hj, hg⟩ := qA hour (cX l) (dG f) 0 (iX h.fd) (by omega) fun x hx => h.nt x ((eN x).1 hx)
  refine ⟨j, hj, ?_⟩
  unfold aU mD
  cases decide ((pE hour (dG f) (cX l)).Field.Freeze < hour) with
  | true => exact mE hg
  | false => exact hg
end Go.Am

end
section
namespace Go.Am

theorem aEw (l : aI) : ∀ (t acc : List Int) {n : Int}, n ∈ qT l acc t → n ∈ acc ∨ n ∈ t
  | [], acc, n, h => .inl h
  | m :: t, acc, n, h => by
    rcases aEw l t _ h with h1 | h1
    · cases hc : decide ((acc.length : Int) < plc l) && (!(pl l m).guard || decide (((gd l acc : Nat) : Int) < l.Field.Guards)) with
      | true =>
        rw [hc] at h1
        simp only [cond_true, List.mem_append, List.mem_singleton] at h1
        rcases h1 with h1 | h1
        · exact .inl h1
        · exact .inr (by simp [h1])
      | false =>
        rw [hc] at h1
        exact .inl h1
    · exact .inr (by simp [h1])
theorem qD {f : aV} {l : aI} {i : Nat} (h : fE f l i) : (bO l).length ≤ 92 := by
  unfold bO
  cases l.frozen with
  | true => exact h.len
  | false =>
    simp only [cond_false]
    have h1 := zT l (fP l) []
    have h2 := pW h.wf
    unfold kI
    simp only [List.length_nil] at h1
    omega
theorem zV {f : aV} {l : aI} {i : Nat} (h : fE f l i) : dU l = some (bO l) := by
  have := h.len
  simp only [List.length_append] at this
  exact aBt h.wf (by omega) (by omega)
/-- The alternates. -/
def gV (l : aI) : List Int := (fP l).filter fun n => !decide (n ∈ bO l)
theorem aJp {f : aV} {l : aI} {i : Nat} (h : fE f l i) : hC l = some (gV l) := by
  have hm := qD h
  unfold hC gV
  rw [zV h, Option.bind_some, sW h.wf, Option.bind_some]
  rw [aAb (fP l) _ (fun n => decide (n ∈ bO l)) (fun n _ => by unfold jS; rw [uJ _ (by omega)]; rfl) (by have := pW h.wf; omega)]
  rfl
theorem yJ (f : aV) (l : List aJ) (hour player : Int) : mB f l hour player = some (bif !decide (sV f l = 0) then (none, sV f l) else bif !wi hour 0 9999 || !wi player 0 999 then (none, 1) else (some (aU f l hour), 0)) := by
  unfold mB
  rw [aIx, Option.bind_some]
  cases hc : decide (sV f l = 0) with
  | false => rfl
  | true =>
    simp only [Bool.not_true, cond_false, aBp, Option.bind_some, tF]
    cases !wi hour 0 9999 || !wi player 0 999 with
    | true => rfl
    | false =>
      simp only [cond_false]
      rw [aDx (mU.1 (by simpa using hc)) hour]
      rfl
/-- What List answers. -/
def fX (f : aV) (l : List aJ) (hour : Int) : dE :=
  dE.mk (bO (aU f l hour)) (aU f l hour).wilds (gV (aU f l hour)) (plc (aU f l hour) - ((bO (aU f l hour)).length : Int))
theorem aBh {f : aV} {l : List aJ} (h : VL f l) {hour : Int} (hh : wi hour 0 9999 = true) : lY f l hour = some (fX f l hour, 0) := by
  obtain ⟨i, hi, hg⟩ := qI h hour
  have hm := qD hg
  have hp := uA hg.wf
  unfold lY fX
  rw [yJ, mU.2 h, hh]
  simp only [decide_true, Bool.not_true, cond_false, show wi 0 0 999 = true from rfl, Bool.or_self, Option.bind_some]
  rw [zV hg, Option.bind_some, aJp hg, Option.bind_some, uQ hg.wf, Option.bind_some, gD (by omega) (by omega)]

/-! ### The order of the notices does not matter. -/
end Go.Am

end
section
namespace Go.Am

def oS (a b c : List Int) (p : Int) : Int × Int :=
  bif decide (0 ≤ gE (fun x => decide (p = x)) a) then (1, gE (fun x => decide (p = x)) a + 1)
  else bif decide (0 ≤ gE (fun x => decide (p = x)) b) then (2, gE (fun x => decide (p = x)) b + 1)
  else bif decide (0 ≤ gE (fun x => decide (p = x)) c) then (3, gE (fun x => decide (p = x)) c + 1)
  else (0, 0)
theorem uY {α : Type} (p : α → Bool) (xs : List α) : -1 ≤ gE p xs ∧ gE p xs ≤ xs.length := by
  unfold gE
  split <;> omega
theorem aLp (a b c : List Int) (p : Int) (ha : a.length ≤ 1000) (hb : b.length ≤ 1000) (hc : c.length ≤ 1000) : iL p [a, b, c] 3 BIG 0 = some (oS a b c p) := by
  obtain ⟨k, hk⟩ : ∃ k, BIG = k + 1 + 1 + 1 + 1 := ⟨BIG - 4, by unfold BIG; omega⟩
  have i1 := aFh a p (by omega)
  have i2 := aFh b p (by omega)
  have i3 := aFh c p (by omega)
  have r1 := uY (fun x => decide (p = x)) a
  have r2 := uY (fun x => decide (p = x)) b
  have r3 := uY (fun x => decide (p = x)) c
  rw [hk]
  unfold oS
  simp only [iL, nV, show decide ((0 : Int) < 3) = true from rfl, cond_true, show idx [a, b, c] 0 = some a from rfl, Option.bind_some, show w64 (0 + 1) = 1 from rfl, show decide ((1 : Int) < 3) = true from rfl, show idx [a, b, c] 1 = some b from rfl, show w64 (1 + 1) = 2 from rfl, show decide ((2 : Int) < 3) = true from rfl, show idx [a, b, c] 2 = some c from rfl, show w64 (2 + 1) = 3 from rfl, show decide ((3 : Int) < 3) = false from rfl, cond_false, i1, i2, i3]
  rw [gD (by omega) (by omega), gD (by omega) (by omega), gD (by omega) (by omega)]
  cases decide (0 ≤ gE (fun x => decide (p = x)) a) <;> cases decide (0 ≤ gE (fun x => decide (p = x)) b) <;> cases decide (0 ≤ gE (fun x => decide (p = x)) c) <;> rfl
def oR (l : aI) (p : Int) : Int × Int := oS (bO l) l.wilds (gV l) p
theorem wG {l : aI} (h : WF l) : (gV l).length ≤ 60 := Nat.le_trans (List.length_filter_le _ _) (pW h)
theorem zY {f : aV} {l : aI} {i : Nat} (h : fE f l i) (hi : i ≤ 60) (p : Int) : iR l p = some (oR l p) := by
  have hm := qD h
  have ho := wG h.wf
  have hw := h.cn.wl
  unfold iR oR
  rw [zV h, Option.bind_some, aJp h, Option.bind_some]
  exact aLp _ _ _ p (by omega) (by omega) (by omega)
theorem aKn {f : aV} {l : List aJ} (h : VL f l) {hour player : Int} (hh : wi hour 0 9999 = true) (hp : wi player 0 999 = true) : pK f l hour player = some ((oR (aU f l hour) player).1, (oR (aU f l hour) player).2, 0) := by
  obtain ⟨i, hi, hg⟩ := qI h hour
  unfold pK
  rw [yJ, mU.2 h, hh, hp]
  simp only [decide_true, Bool.not_true, cond_false, Bool.or_self, Option.bind_some]
  rw [zY hg hi]; rfl

/-! ### The entries by an insertion sort. -/
def wE (l : aI) (n : Int) : List Int → List Int
  | [] => [n]
  | m :: t => bif decide (jE l n < jE l m) then n :: m :: t else m :: wE l n t
theorem xK (l : aI) (n : Int) : ∀ t : List Int, (wE l n t).Perm (n :: t)
  | [] => .refl _
  | m :: t => by
    simp only [wE]
    cases decide (jE l n < jE l m) with
    | true => exact .refl _
    | false => exact ((xK l n t).cons m).trans (.swap _ _ _)
theorem yX (l : aI) (n : Int) : ∀ t : List Int, t.Pairwise (fun a b => jE l a < jE l b) → (∀ m ∈ t, jE l m ≠ jE l n) → (wE l n t).Pairwise fun a b => jE l a < jE l b
  | [], _, _ => List.pairwise_singleton _ _
  | m :: t, hs, hne => by
    have h1 := List.pairwise_cons.1 hs
    simp only [wE]
    cases hc : decide (jE l n < jE l m) with
    | true =>
      simp only [decide_eq_true_eq] at hc
      refine List.pairwise_cons.2 ⟨fun b hb => ?_, hs⟩
      rcases List.mem_cons.1 hb with rfl | hb
      · exact hc
      · exact Int.lt_trans hc (h1.1 b hb)
    | false =>
      simp only [decide_eq_false_iff_not] at hc
      refine List.pairwise_cons.2 ⟨fun b hb => ?_, yX l n t h1.2 fun x hx => hne x (by simp [hx])⟩
      rcases List.mem_cons.1 ((xK l n t).mem_iff.1 hb) with rfl | hb
      · have := hne m (by simp); omega
      · exact h1.1 b hb
def aHq (l : aI) : List Int := (pD l).foldr (wE l) []
theorem xC (l : aI) : ∀ t : List Int, (t.foldr (wE l) []).Perm t
  | [] => .refl _
  | n :: t => (xK l n _).trans ((xC l t).cons n)
theorem uL {l : aI} (h : WF l) : fP l = aHq l := by
  have hn : (pD l).Nodup := by
    unfold pD
    exact h.keys.sublist ((List.filter_sublist).map _)
  have hs : ∀ t : List Int, t.Nodup → (∀ n ∈ t, (pl l n).entered = true) → (t.foldr (wE l) []).Pairwise fun a b => jE l a < jE l b := by
    intro t
    induction t with
    | nil => intro _ _; exact .nil
    | cons n t ih =>
      intro hn he
      have h1 := List.nodup_cons.1 hn
      refine yX l n _ (ih h1.2 fun m hm => he m (by simp [hm])) fun m hm e => ?_
      have hmt := (xC l t).mem_iff.1 hm
      have := zS h (he m (by simp [hmt])) (he n (by simp)) e
      subst this
      exact h1.1 hmt
  refine nN (key := jE l) (rY h) (hs (pD l) hn fun n hm => uB hm) fun n => ?_
  rw [oG]
  show isE l.players n = true ↔ n ∈ (pD l).foldr (wE l) []
  rw [(xC l (pD l)).mem_iff, wH]
def yI (l : aI) : List Int := qT l [] (aHq l)
theorem aAs {l : aI} (h : WF l) : kI l = yI l := by
  unfold kI yI
  rw [uL h]
def sY (l : aI) : List Int := bif l.frozen then l.first ++ l.late else yI l
theorem zU {l : aI} (h : WF l) : bO l = sY l := by
  unfold bO sY
  rw [aAs h]
def xR (l : aI) : List Int := (aHq l).filter fun n => !decide (n ∈ sY l)
theorem aHc {l : aI} (h : WF l) : gV l = xR l := by
  unfold gV xR
  rw [zU h, uL h]
def vL (l : aI) : aI := bif l.frozen then l else { l with frozen := true, first := yI l }
theorem aAm {l : aI} (h : WF l) : dQ l = vL l := by
  unfold dQ vL
  rw [aAs h]
def aAj (l : aI) (es : List Int) (first : List Int) : Nat → List Int → List Int
  | 0, late => late
  | k + 1, late => bif decide (((first ++ late).length : Int) < plc l) then (match es.find? (lH l (first ++ late)) with
    | none => late
    | some n => aAj l es first k (late ++ [n])) else late
theorem aCi {l : aI} (first : List Int) : ∀ (k : Nat) (late : List Int), iQ l first k late = aAj l (fP l) first k late
  | 0, _ => rfl
  | k + 1, late => by
    simp only [iQ, aAj]
    cases (fP l).find? (lH l (first ++ late)) with
    | none => rfl
    | some n => simp only; rw [aCi first k (late ++ [n])]
def aHt (l : aI) : aI := wl l (l.first.filter fun n => isE l.players n) (aAj l (aHq l) (l.first.filter fun n => isE l.players n) 100 (l.late.filter fun n => isE l.players n))
theorem aKw {l : aI} (h : WF l) : kT l = aHt l := by
  unfold kT aHt
  rw [aCi, uL h]
def aIl (l : aI) (x : aJ) : aI :=
  let l2 := bQ (bif decide (l.Field.Freeze < x.Hour) then vL l else l) x
  bif l2.frozen then aHt l2 else l2
theorem aLq {f : aV} {l : aI} {x : aJ} {i : Nat} (h : fE f l i) (hi : i < 60) (hx : gL x = true) : cB l x = aIl l x := by
  have h1 : fE f (bif decide (l.Field.Freeze < x.Hour) then dQ l else l) i := by
    cases decide (l.Field.Freeze < x.Hour) with
    | true => exact mE h
    | false => exact h
  have h2 := qE h1 hi hx
  have e1 : (bif decide (l.Field.Freeze < x.Hour) then dQ l else l) = bif decide (l.Field.Freeze < x.Hour) then vL l else l := by rw [aAm h.wf]
  unfold cB aIl
  simp only
  rw [e1] at h2 ⊢
  rw [aKw h2.wf]
def aFj (hour : Int) (l : aI) : List aJ → aI
  | [] => l
  | x :: t => bif decide (hour < x.Hour) then l else aFj hour (aIl l x) t
theorem aHg {f : aV} (hour : Int) : ∀ (t : List aJ) (l : aI) (i : Nat), fE f l i → i + t.length ≤ 60 → (∀ x ∈ t, gL x = true) → pE hour l t = aFj hour l t
  | [], _, _, _, _, _ => rfl
  | x :: t, l, i, h, hi, hx => by
    simp only [List.length_cons] at hi
    simp only [pE, aFj]
    rw [← aLq h (by omega) (hx x (by simp)), aHg hour t _ (i + 1) (mS h (by omega) (hx x (by simp))) (by omega) fun y hy => hx y (by simp [hy])]
def aKr (hour : Int) (l : aI) : aI := bif decide (l.Field.Freeze < hour) then vL l else l
theorem aIo {f : aV} {l : List aJ} (h : VL f l) (hs : l.Pairwise fun x y => eK x < eK y) (hour : Int) : aU f l hour = aKr hour (aFj hour (dG f) l) := by
  have hb : ∀ x ∈ l, bN x := fun x hx => vU (h.nt x hx)
  have ht : cX l = l := nN (lV hb h.id) hs fun x => eN x
  have hlen := h.len
  obtain ⟨j, hj, hg⟩ := qA hour l (dG f) 0 (iX h.fd) (by omega) h.nt
  unfold aU mD aKr
  rw [ht, aAm hg.wf, aHg hour l (dG f) 0 (iX h.fd) (by omega) h.nt]
end Go.Am

end
section
namespace Go.Am

/-- What is left of a row when equal neighbours are one. -/
def oA (p : Int) : List Int → List Int
  | [] => []
  | y :: t => if y = p then oA p t else y :: oA y t
def oE : List Int → List Int
  | [] => []
  | x :: t => x :: oA x t
theorem aFw (again : Int → List Int → Option (List Int)) {k0 : Nat} : ∀ (t : List Int) (p : Int) (W X : List Int) (k2 k : Nat), 1 ≤ k2 → W.length + X.length + 1 = k0 + k2 → k0 ≤ W.length → (W ++ X ++ p :: t).length < 4611686018427387904 → t.length < k →
    eP again (k0 : Nat) k (W.length : Nat) (k2 : Nat) (W ++ X ++ p :: t) = some (W ++ oA p t) := by
  intro t
  induction t with
  | nil =>
    intro p W X k2 k h1 h2 h3 hb hk
    obtain ⟨k, rfl⟩ : ∃ q, k = q + 1 := ⟨k - 1, by omega⟩
    simp only [List.length_append, List.length_cons, List.length_nil] at hb
    have t0 : ((k0 : Nat) : Int).toNat = k0 := rfl
    have t1 : ((W.length : Nat) : Int).toNat = W.length := rfl
    have hlt : decide ((k2 : Int) < (((W ++ X ++ [p]).drop k0).length : Int)) = false := decide_eq_false (by simp; omega)
    have c1 : (decide ((0 : Int) ≤ (W.length : Int)) && decide ((W.length : Int) ≤ ((W ++ X ++ [p]).length : Int))) = true := by simp; omega
    have c2 : decide (W.length ≤ (W ++ X ++ [p]).length) = true := by simp
    have c3 : decide ((0 : Int) ≤ (W.length : Int)) = true := by simp
    simp only [eP, t0, hlt, cond_false, mO]
    rw [c1, t1, c2, c3]
    simp [chk, oA]
  | cons y t ih =>
    intro p W X k2 k h1 h2 h3 hb hk
    obtain ⟨k, rfl⟩ : ∃ q, k = q + 1 := ⟨k - 1, by omega⟩
    simp only [List.length_append, List.length_cons] at hb hk
    have t0 : ((k0 : Nat) : Int).toNat = k0 := rfl
    have t1 : ((W.length : Nat) : Int).toNat = W.length := rfl
    have hlt : decide ((k2 : Int) < (((W ++ X ++ p :: y :: t).drop k0).length : Int)) = true := decide_eq_true (by simp; omega)
    have ed : (W ++ X ++ p :: y :: t).drop k0 = (W ++ X).drop k0 ++ p :: y :: t := by rw [List.drop_append_of_le_length (by simp; omega)]
    have hdl : ((W ++ X).drop k0).length = k2 - 1 := by simp; omega
    have i1 : idx ((W ++ X ++ p :: y :: t).drop k0) (k2 : Nat) = some y := by rw [ed]; exact wD (by rw [hdl]; omega)
    have i2 : idx ((W ++ X ++ p :: y :: t).drop k0) (w64 ((k2 : Int) - 1)) = some p := by rw [aFu (by omega) (by omega), ed]; exact rM (by rw [hdl])
    simp only [eP, t0, hlt, cond_true, i1, i2, Option.bind_some, dP (show k2 < 9223372036854775807 by omega)]
    by_cases hyp : y = p
    · subst hyp
      have := ih y W (X ++ [y]) (k2 + 1) k (by omega) (by simp; omega) h3 (by simp only [List.length_append, List.length_cons, List.length_nil]; omega) (by omega)
      have e1 : W ++ (X ++ [y]) ++ y :: t = W ++ X ++ y :: y :: t := by simp
      rw [e1] at this
      rw [decide_eq_true rfl, Bool.not_true, cond_false, this]
      simp [oA]
    · have hd : (!decide (y = p)) = true := by rw [decide_eq_false hyp]; rfl
      have i3 : ∃ z, idx (W ++ X ++ p :: y :: t) (W.length : Nat) = some z := ⟨_, eO (by simp; omega)⟩
      obtain ⟨z, i3⟩ := i3
      rw [hd, cond_true, i3, Option.bind_some, t1, dP (by omega)]
      obtain ⟨X', e2⟩ : ∃ X', (W ++ X ++ p :: y :: t).set W.length y = (W ++ [y]) ++ X' ++ y :: t ∧ X'.length = X.length := by
        cases X with
        | nil => exact ⟨[], by simp, rfl⟩
        | cons x X => exact ⟨X ++ [p], by simp, by simp⟩
      rw [e2.1]
      have := ih y (W ++ [y]) X' (k2 + 1) k (by omega) (by rw [List.length_append, e2.2]; simp; omega) (by simp; omega) (by simp only [List.length_append, List.length_cons, List.length_nil, e2.2]; omega) (by omega)
      have e3 : (W ++ [y]).length = W.length + 1 := by simp
      rw [e3] at this
      rw [this]
      simp [oA, hyp]
theorem aDi (s : List Int) (hb : s.length < 4611686018427387904) : kF s = some (oE s) := by
  have main : ∀ (t A : List Int) (p : Int) (k : Nat), t.length < k → (A ++ p :: t).length < 4611686018427387904 → dR k ((A.length + 1 : Nat) : Int) (A ++ p :: t) = some (A ++ p :: oA p t) := by
    intro t
    induction t with
    | nil =>
      intro A p k hk hb
      obtain ⟨k, rfl⟩ : ∃ q, k = q + 1 := ⟨k - 1, by omega⟩
      have hlt : decide (((A.length + 1 : Nat) : Int) < ((A ++ [p]).length : Int)) = false := decide_eq_false (by simp)
      simp only [dR, hlt, cond_false, mM, oA]
    | cons y t ih =>
      intro A p k hk hb
      obtain ⟨k, rfl⟩ : ∃ q, k = q + 1 := ⟨k - 1, by omega⟩
      simp only [List.length_append, List.length_cons] at hb hk
      have hlt : decide (((A.length + 1 : Nat) : Int) < ((A ++ p :: y :: t).length : Int)) = true := decide_eq_true (by simp; omega)
      have i2 : w64 (((A.length + 1 : Nat) : Int) - 1) = (A.length : Int) := by rw [gD (by omega) (by omega)]; omega
      simp only [dR, hlt, cond_true, wD rfl, i2, rM rfl, Option.bind_some]
      by_cases hyp : y = p
      · subst hyp
        have c1 : (decide ((0 : Int) ≤ ((A.length + 1 : Nat) : Int)) && decide (((A.length + 1 : Nat) : Int) ≤ ((A ++ y :: y :: t).length : Int))) = true := by simp; omega
        rw [decide_eq_true rfl, cond_true, c1]
        simp only [chk, cond_true, Option.bind_some]
        have := aFw (dR k) (k0 := A.length + 1) t y (A ++ [y]) [] 1 BIG (Nat.le_refl _) (by simp) (by simp) (by simp only [List.length_append, List.length_cons, List.length_nil]; omega) (gM (by omega))
        have e3 : (A ++ [y]).length = A.length + 1 := by simp
        have e4 : A ++ [y] ++ [] ++ y :: t = A ++ y :: y :: t := by simp
        rw [e3, e4] at this
        have e5 : ((1 : Nat) : Int) = 1 := rfl
        rw [e5] at this
        rw [this]
        simp [oA]
      · rw [decide_eq_false hyp, cond_false]
        unfold mN
        rw [dP (by omega)]
        have := ih (A ++ [p]) y k (by omega) (by simp only [List.length_append, List.length_cons, List.length_nil]; omega)
        have e3 : (A ++ [p]).length = A.length + 1 := by simp
        have e4 : A ++ [p] ++ y :: t = A ++ p :: y :: t := by simp
        rw [e3, e4] at this
        rw [this]
        simp [oA, hyp]
  unfold kF
  match s, hb with
  | [], _ => simp [oE]
  | x :: t, hb =>
    by_cases ht : t = []
    · subst ht; simp [oE, oA]
    · have hl : 0 < t.length := List.length_pos_iff.2 ht
      have hd : decide (((x :: t).length : Int) < 2) = false := decide_eq_false (by simp; omega)
      rw [hd, cond_false]
      have := main t [] x BIG (gM (by simp at hb; omega)) (by simpa using hb)
      simp only [List.length_nil, List.nil_append, Nat.zero_add] at this
      have e5 : ((1 : Nat) : Int) = 1 := rfl
      rw [e5] at this
      rw [this]; rfl
theorem aJh (p : Int) (t : List Int) : (oA p t).Sublist t := by
  induction t generalizing p with
  | nil => exact .slnil
  | cons y t ih =>
    simp only [oA]
    split
    · exact (ih p).cons _
    · exact (ih y).cons_cons _
theorem aDh (l : List Int) : (pV l).length = l.length := (List.mergeSort_perm l _).length_eq
/-- The hours that are asked, one after the other. -/
def vN (l : List aJ) : List Int := oE (pV (l.map fun x => x.Hour))
def aBq (f : aV) (l : List aJ) (p h : Int) : Bool := decide ((oR (aU f l h) p).1 = 1) || decide ((oR (aU f l h) p).1 = 2)
theorem aNn {f : aV} {l : List aJ} (h : VL f l) (p : Int) (T : List Int) (hT : T.length ≤ 1000) : ∀ (d i k : Nat), T.length - i = d → d < k → i ≤ T.length →
    kL l p (T.length : Int) f T k (i : Int) = some (match (T.drop i).find? (aBq f l p) with | some x => (x, 0) | none => (0, 3)) := by
  intro d
  induction d with
  | zero =>
    intro i k hd hk hi
    obtain ⟨k, rfl⟩ : ∃ q, k = q + 1 := ⟨k - 1, by omega⟩
    have : i = T.length := by omega
    subst this
    simp [kL, sO]
  | succ d ih =>
    intro i k hd hk hi
    obtain ⟨k, rfl⟩ : ∃ q, k = q + 1 := ⟨k - 1, by omega⟩
    have hil : i < T.length := by omega
    have hlt : decide ((i : Int) < (T.length : Int)) = true := decide_eq_true (by omega)
    obtain ⟨j, hj, hg⟩ := qI h T[i]
    simp only [kL, hlt, cond_true, eO hil, Option.bind_some, aDx h, zY hg hj, tF]
    rw [List.drop_eq_getElem_cons hil, List.find?_cons]
    rw [show (decide ((oR (aU f l T[i]) p).1 = 1) || decide ((oR (aU f l T[i]) p).1 = 2)) = aBq f l p T[i] from rfl]
    cases aBq f l p T[i] with
    | true => rfl
    | false =>
      simp only [cond_false]
      rw [dP (by omega)]
      exact ih (i + 1) k (by omega) (by omega) (by omega)
theorem aMg {f : aV} {l : List aJ} (h : VL f l) {p : Int} (hp : wi p 0 999 = true) : oX f l p = some (match (vN l).find? (aBq f l p) with | some x => (x, 0) | none => (0, 3)) := by
  have hlen := h.len
  have hH : (vN l).length ≤ 60 := by
    unfold vN
    have h1 := aDh (l.map fun x => x.Hour)
    rw [List.length_map] at h1
    cases hs : pV (l.map fun x => x.Hour) with
    | nil => simp [oE]
    | cons q t =>
      rw [hs] at h1
      simp only [List.length_cons] at h1
      have := (aJh q t).length_le
      simp only [oE, List.length_cons]
      omega
  have key := lT (kK l p l (l.length : Int) f) l.length (fun i s => pP l p f (s ++ (l.drop i).map fun x => x.Hour)) (fun i s => s.length = i) (fun k i s hi hI ih => ?_) (fun k s hI => ?_) BIG [] (gM (by omega)) rfl
  · unfold oX
    rw [yJ, mU.2 h, hp]
    simp only [decide_true, Bool.not_true, cond_false, show wi 0 0 9999 = true from rfl, Bool.or_self, Option.bind_some]
    rw [key]
    simp only [List.drop_zero, List.nil_append]
    unfold pP slices_Sort_int
    rw [if_pos (by rw [List.length_map]; omega), Option.bind_some, aDi _ (by rw [aDh, List.length_map]; omega), Option.bind_some]
    exact aNn h p (vN l) (by omega) _ 0 BIG rfl (gM (by omega)) (Nat.zero_le _)
  · simp only [kK, show decide ((i : Int) < (l.length : Int)) = true by simpa using hi, cond_true, eO hi, Option.bind_some]
    rw [oC (by simp; omega)]
    simp only [Option.bind_some]
    rw [dP (by omega), ih _ (by simp; omega), List.append_assoc, List.singleton_append, ← List.map_cons (f := fun x : aJ => x.Hour), ← List.drop_eq_getElem_cons hi]
  · simp [kK]
end Go.Am

end
section
namespace Go.Am

def exF : aV := ((iT).getD (⟨0, 0, 0, 0, 0⟩, [])).1
def exL : List aJ := ((iT).getD (⟨0, 0, 0, 0, 0⟩, [])).2
theorem aOj : iT = some (exF, exL) := by kernel_rfl
theorem aAh : VL exF exL := mU.1 (by kernel_rfl)
theorem aJb : exL.Pairwise fun x y => eK x < eK y := of_decide_eq_true (by kernel_rfl)
def exA (h : Int) : aI := aKr h (aFj h (dG exF) exL)
theorem vZ (h : Int) : aU exF exL h = exA h := aIo aAh aJb h
theorem aGz (h : Int) : ∃ j, j ≤ 60 ∧ fE exF (exA h) j := by
  rw [← vZ]
  exact qI aAh h
theorem yH (h : Int) : WF (exA h) := by
  obtain ⟨j, _, hg⟩ := aGz h
  exact hg.wf
theorem aMo : lY exF exL 12 = some (⟨[9, 8, 5], [7], [6, 4], 0⟩, 0) := by
  rw [aBh aAh (by rfl)]
  unfold fX
  rw [vZ, aHc (yH 12), zU (yH 12)]
  kernel_rfl
theorem aEj (h p : Int) : oR (exA h) p = oS (sY (exA h)) (exA h).wilds (xR (exA h)) p := by
  unfold oR
  rw [aHc (yH h), zU (yH h)]
theorem aJa : kO (exA 10) 4 = some 2 := by
  unfold kO
  rw [sW (yH 10), uL (yH 10)]
  kernel_rfl
theorem aKt : pJ exF exL 10 4 = some (2, 0) := by
  obtain ⟨j, hj, hg⟩ := aGz 10
  unfold pJ
  rw [yJ, mU.2 aAh, vZ]
  simp only [decide_true, Bool.not_true, cond_false, show wi 10 0 9999 = true from rfl, show wi 4 0 999 = true from rfl, Bool.or_self, Option.bind_some]
  rw [zY hg hj, aEj, aJa, show oS (sY (exA 10)) (exA 10).wilds (xR (exA 10)) 4 = (3, 3) by kernel_rfl, show (exA 10).frozen = false by kernel_rfl]
  rfl
theorem aKs : vN exL = [1, 2, 3, 4, 5, 6, 11, 12, 15, 21, 22] := by
  have h : pV (exL.map fun x => x.Hour) = exL.map fun x => x.Hour := by
    have hs := List.pairwise_mergeSort (le := fun x y : Int => decide (x ≤ y)) (by intro a b c; simp only [decide_eq_true_eq]; omega) (by intro a b; simp only [Bool.or_eq_true, decide_eq_true_eq]; omega) (exL.map fun x => x.Hour)
    refine rQ (R := fun x y : Int => x ≤ y) (List.mergeSort_perm _ _) (hs.imp fun {x y} h => by simpa using h) (of_decide_eq_true (by kernel_rfl)) fun a _ b _ h1 h2 => Int.le_antisymm h1 h2
  unfold vN
  rw [h]
  have : oE (exL.map fun x => x.Hour) = [1, 2, 3, 4, 5, 6, 11, 12, 15, 21, 22] := by kernel_rfl
  exact this
theorem aMp : oX exF exL 4 = some (15, 0) := by
  have hf : aBq exF exL 4 = fun h => decide ((oS (sY (exA h)) (exA h).wilds (xR (exA h)) 4).1 = 1) || decide ((oS (sY (exA h)) (exA h).wilds (xR (exA h)) 4).1 = 2) := by
    funext h
    unfold aBq
    rw [vZ, aEj]
  rw [aMg aAh (by rfl), hf, aKs]
  have : [1, 2, 3, 4, 5, 6, 11, 12, 15, 21, 22].find? (fun h => decide ((oS (sY (exA h)) (exA h).wilds (xR (exA h)) 4).1 = 1) || decide ((oS (sY (exA h)) (exA h).wilds (xR (exA h)) 4).1 = 2)) = some 15 := by kernel_rfl
  rw [this]
theorem yD : jR = some true := by
  unfold jR
  rw [aOj, Option.bind_some, aMo, Option.bind_some, aKt, Option.bind_some, aMp, Option.bind_some]
  kernel_rfl
end Go.Am

end
