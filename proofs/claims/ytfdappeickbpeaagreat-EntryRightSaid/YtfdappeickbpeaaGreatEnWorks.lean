/- Plain laws, one behind the other. -/
import Derived.Test.YtfdappeickbpeaaGreatEnDet
import Derived.KernelRfl
section
namespace Go.Am

def wi (n lo hi : Int) : Bool := decide (lo ≤ n) && decide (n ≤ hi)
theorem vO {n lo hi : Int} : wi n lo hi = true ↔ lo ≤ n ∧ n ≤ hi := by simp [wi]
theorem aBg (n lo hi : Int) : bU n lo hi = some (wi n lo hi) := by
  unfold bU wi
  cases decide (lo ≤ n) <;> rfl
theorem aGk (n lo hi : Int) : cC n lo hi = some (wi n lo hi) := by
  unfold cC wi
  cases decide (lo ≤ n) <;> rfl

def oO (f : aS) : Bool := wi f.Places 1 32 && wi f.Wilds 0 32 && wi f.Guards 0 32 && wi f.Close 0 9999 && wi f.Freeze f.Close 9999
def gH (n : aJ) : Bool := wi n.Id 0 999 && wi n.Player 0 999 && wi n.Hour 0 9999 &&
  (bif decide (n.Kind = 1) then wi n.Rank 0 9999 else bif decide (n.Kind = 2) then wi n.Rank 1 9999 else bif (decide (n.Kind = 3) || decide (n.Kind = 4) || decide (n.Kind = 5)) then decide (n.Rank = 0) else false)
theorem aHl (f : aS) : nA f = some (oO f) := by
  unfold nA oO
  simp only [aBg, Option.bind_some]
  cases wi f.Places 1 32 <;> cases wi f.Wilds 0 32 <;> cases wi f.Guards 0 32 <;> cases wi f.Close 0 9999 <;> cases wi f.Freeze f.Close 9999 <;> rfl
theorem aNc (n : Int) : wi n 0 0 = decide (n = 0) := by
  unfold wi
  by_cases h : n = 0
  · subst h; rfl
  · have : ¬ (0 ≤ n ∧ n ≤ 0) := by omega
    cases h1 : decide (0 ≤ n) <;> cases h2 : decide (n ≤ 0) <;> simp_all <;> omega
theorem aHn (n : aJ) : mD n = some (gH n) := by
  unfold mD gH
  simp only [aBg, Option.bind_some, aNc]
  by_cases h1 : n.Kind = 1
  · simp only [h1, decide_true, cond_true]
    cases wi n.Id 0 999 <;> cases wi n.Player 0 999 <;> cases wi n.Hour 0 9999 <;> cases wi n.Rank 0 9999 <;> rfl
  · by_cases h2 : n.Kind = 2
    · simp only [h2, decide_true, cond_true, show decide ((2 : Int) = 1) = false from rfl, cond_false]
      cases wi n.Id 0 999 <;> cases wi n.Player 0 999 <;> cases wi n.Hour 0 9999 <;> cases wi n.Rank 1 9999 <;> rfl
    · cases wi n.Id 0 999 <;> cases wi n.Player 0 999 <;> cases wi n.Hour 0 9999 <;> cases decide (n.Rank = 0) <;> cases decide (n.Kind = 3) <;> cases decide (n.Kind = 4) <;> cases decide (n.Kind = 5) <;> simp [h1, h2]
theorem aHm (n : aJ) : jC n = some (gH n) := by
  unfold jC gH
  simp only [aGk, Option.bind_some]
  by_cases h1 : n.Kind = 1
  · simp only [h1, decide_true, cond_true]
    cases wi n.Id 0 999 <;> cases wi n.Player 0 999 <;> cases wi n.Hour 0 9999 <;> cases wi n.Rank 0 9999 <;> rfl
  · by_cases h2 : n.Kind = 2
    · simp only [h2, decide_true, cond_true, show decide ((2 : Int) = 1) = false from rfl, cond_false]
      cases wi n.Id 0 999 <;> cases wi n.Player 0 999 <;> cases wi n.Hour 0 9999 <;> cases wi n.Rank 1 9999 <;> rfl
    · cases wi n.Id 0 999 <;> cases wi n.Player 0 999 <;> cases wi n.Hour 0 9999 <;> cases decide (n.Rank = 0) <;> cases decide (n.Kind = 3) <;> cases decide (n.Kind = 4) <;> cases decide (n.Kind = 5) <;> simp [h1, h2]

/-- A notice is valid, and those before it with its number are the same. -/
def pB (l : List aJ) (i : Nat) : Bool := match l[i]? with
  | some x => gH x && (l.take i).all fun y => !decide (y.Id = x.Id) || decide (y = x)
  | none => false
def sL (f : aS) (l : List aJ) : Int := bif !oO f then 50 else bif decide (60 < (l.length : Int)) then 51 else bif (List.range l.length).all (pB l) then 0 else 51

theorem rV {l : List aJ} {i : Nat} (h : i < l.length) : pB l i = (gH l[i] && (l.take i).all fun y => !decide (y.Id = l[i].Id) || decide (y = l[i])) := by
  unfold pB
  rw [List.getElem?_eq_getElem h]
theorem aIj (l : List aJ) (hl : l.length ≤ 60) (i : Nat) (hi : i < l.length) (again : Int → Option Int) : ∀ k, i < k → fD again l (i : Int) k 0 =
    bif (List.range i).all (fun j => match l[j]? with | some y => !decide (y.Id = l[i].Id) || decide (y = l[i]) | none => false) then again (w64 ((i : Int) + 1)) else some 51 := by
  refine aEl (fD again l (i : Int)) i _ _ _ (fun k j hj => ?_) fun k => ?_
  · have hj2 : j < l.length := by omega
    simp only [fD, show decide ((j : Int) < (i : Int)) = true by simpa using hj, cond_true, eY hj2, eY hi, Option.bind_some, List.getElem?_eq_getElem hj2, dQ (i := j) (by omega)]
    cases h1 : decide (l[j].Id = l[i].Id) <;> cases h2 : decide (l[j] = l[i]) <;> simp
  · simp [fD, nK, nJ]
theorem aJw (l : List aJ) (p : aJ → Bool) (i : Nat) (hi : i ≤ l.length) : (List.range i).all (fun j => match l[j]? with | some y => p y | none => false) = (l.take i).all p := by
  rw [Bool.eq_iff_iff]
  simp only [List.all_eq_true, List.mem_range]
  constructor
  · intro h y hy
    obtain ⟨j, hj, rfl⟩ := List.getElem_of_mem hy
    simp only [List.length_take] at hj
    have := h j (by omega)
    rw [List.getElem?_eq_getElem (by omega)] at this
    simpa using this
  · intro h j hj
    rw [List.getElem?_eq_getElem (by omega)]
    refine h _ (List.mem_take_iff_getElem.2 ⟨j, by omega, rfl⟩)
theorem aIk (f : aS) (l : List aJ) : kZ f l = some (sL f l) := by
  have hF : ∀ {b : Option Int}, ((cC f.Places 1 32).bind fun r2 =>
    (bif !r2 then (some true) else ((cC f.Wilds 0 32).bind fun r3 => some (!r3))).bind fun b4 =>
    (bif b4 then (some true) else ((cC f.Guards 0 32).bind fun r5 => some (!r5))).bind fun b6 =>
    (bif b6 then (some true) else ((cC f.Close 0 9999).bind fun r7 => some (!r7))).bind fun b8 =>
    (bif b8 then (some true) else ((cC f.Freeze f.Close 9999).bind fun r9 => some (!r9))).bind fun b10 =>
    bif b10 then (some 50) else b) = bif !oO f then some 50 else b := by
    intro b
    simp only [aGk, Option.bind_some]
    unfold oO
    cases wi f.Places 1 32 <;> cases wi f.Wilds 0 32 <;> cases wi f.Guards 0 32 <;> cases wi f.Close 0 9999 <;> cases wi f.Freeze f.Close 9999 <;> rfl
  unfold kZ sL
  rw [hF]
  cases oO f with
  | false => rfl
  | true =>
    simp only [Bool.not_true, cond_false]
    cases hl : decide (60 < (l.length : Int)) with
    | true => rfl
    | false =>
      simp only [cond_false]
      have hl' : l.length ≤ 60 := by simp at hl; omega
      have := aEl (fC l) l.length (pB l) (some 51) (some 0) (fun k i hi => ?_) (fun k => ?_) BIG (gD (by omega))
      · rw [this]
        cases (List.range l.length).all (pB l) <;> rfl
      · simp only [fC, show decide ((i : Int) < (l.length : Int)) = true by simpa using hi, cond_true, eY hi, Option.bind_some, aHm]
        rw [rV hi, aIj l hl' i hi _ BIG (gD (by omega)), aJw l (fun y => !decide (y.Id = l[i].Id) || decide (y = l[i])) i (by omega), dQ (by omega)]
        cases gH l[i] <;> cases (l.take i).all (fun y => !decide (y.Id = l[i].Id) || decide (y = l[i])) <;> rfl
      · simp [fC, nI]

theorem aCt {α β : Type} [DecidableEq α] (a b : α) (v : β) : ∀ m : List (α × β), fM a (cD b v m) = (decide (a = b) || fM a m)
  | [] => by simp [cD, fM]
  | (c, u) :: m => by
    simp only [cD]
    by_cases hbc : b = c
    · subst hbc
      simp [fM]
    · simp only [hbc, decide_false, cond_false, fM, aCt a b v m]
      by_cases h1 : a = c <;> by_cases h2 : a = b <;> simp [h1, h2]
theorem xK {α β : Type} [DecidableEq α] (a b : α) (v z : β) : ∀ m : List (α × β), aF a z (cD b v m) = bif decide (a = b) then v else aF a z m
  | [] => by simp [cD, aF]
  | (c, u) :: m => by
    simp only [cD]
    by_cases hbc : b = c
    · subst hbc
      by_cases h : a = b <;> simp [aF, h]
    · simp only [hbc, decide_false, cond_false, aF, xK a b v z m]
      by_cases h1 : a = c
      · subst h1
        simp [Ne.symm hbc, Ne.symm (a := a) (b := b) (fun e => hbc e.symm)]
      · simp [h1]
/-- What is known after some notices. -/
def aNv (l : List aJ) (m : List (Int × aJ)) : Prop := ∀ id, (fM id m = true → aF id (aJ.mk 0 0 0 0 0) m ∈ l ∧ (aF id (aJ.mk 0 0 0 0 0) m).Id = id) ∧ (∀ y ∈ l, y.Id = id → fM id m = true)
theorem aIm (f : aS) (l : List aJ) : oU f l = some (sL f l) := by
  unfold oU sL
  rw [aHl]
  simp only [Option.bind_some]
  cases oO f with
  | false => rfl
  | true =>
    simp only [Bool.not_true, cond_false]
    cases hl : decide (60 < (l.length : Int)) with
    | true => rfl
    | false =>
      simp only [cond_false]
      have hl' : l.length ≤ 60 := by simp at hl; omega
      have key := lO (iJ l (l.length : Int)) l.length (fun i _ => some (bif (List.range' i (l.length - i)).all (pB l) then (0 : Int) else 51))
        (fun i m => aNv (l.take i) m ∧ ∀ j, j < i → pB l j = true) (fun k i m hi hI ih => ?_) (fun k m hI => ?_) BIG [] (gD (by omega)) ⟨fun id => ⟨fun h => by simp [fM] at h, fun y hy => by simp at hy⟩, fun j hj => by omega⟩
      · rw [key]
        simp [List.range_eq_range']
      · obtain ⟨hK, hg⟩ := hI
        have hrest : List.range' i (l.length - i) = i :: List.range' (i + 1) (l.length - (i + 1)) := by
          rw [show l.length - i = (l.length - (i + 1)) + 1 by omega, List.range'_succ]
        have hgood : pB l i = (gH l[i] && !(fM l[i].Id m && !decide (aF l[i].Id (aJ.mk 0 0 0 0 0) m = l[i]))) := by
          rw [rV hi]
          congr 1
          rw [Bool.eq_iff_iff]
          simp only [List.all_eq_true, Bool.or_eq_true, Bool.not_eq_true', decide_eq_false_iff_not, decide_eq_true_eq, Bool.and_eq_false_iff, Bool.not_eq_false']
          constructor
          · intro h
            cases hm : fM l[i].Id m with
            | false => exact .inl rfl
            | true =>
              right
              obtain ⟨h1, h2⟩ := (hK l[i].Id).1 hm
              rcases h _ h1 with h3 | h3
              · exact absurd h2 h3
              · exact h3
          · intro h y hy
            by_cases hid : y.Id = l[i].Id
            · right
              have hm := (hK l[i].Id).2 y hy hid
              rcases h with h | h
              · rw [hm] at h; cases h
              · obtain ⟨h1, h2⟩ := (hK l[i].Id).1 hm
                -- both lie before, and are good
                obtain ⟨a, ha, hya⟩ := List.getElem_of_mem hy
                obtain ⟨b, hb, hmb⟩ := List.getElem_of_mem h1
                simp only [List.length_take] at ha hb
                simp only [List.getElem_take] at hya hmb
                have same : ∀ p q : Nat, p < q → q < i → ∀ (hp : p < l.length) (hq : q < l.length), l[p].Id = l[q].Id → l[p] = l[q] := by
                  intro p q hpq hqi hp hq he
                  have := hg q hqi
                  rw [rV hq] at this
                  simp only [Bool.and_eq_true, List.all_eq_true, Bool.or_eq_true, Bool.not_eq_true', decide_eq_false_iff_not, decide_eq_true_eq] at this
                  rcases this.2 l[p] (List.mem_take_iff_getElem.2 ⟨p, by omega, rfl⟩) with h | h
                  · exact absurd he h
                  · exact h
                rw [← h]
                rcases Nat.lt_trichotomy a b with hab | hab | hab
                · rw [← hya, ← hmb]
                  exact same a b hab (by omega) (by omega) (by omega) (by rw [hya, hmb, hid, h2])
                · subst hab
                  rw [← hya, ← hmb]
                · rw [← hya, ← hmb]
                  exact (same b a hab (by omega) (by omega) (by omega) (by rw [hya, hmb, hid, h2])).symm
            · exact .inl hid
        simp only [iJ, show decide ((i : Int) < (l.length : Int)) = true by simpa using hi, cond_true, eY hi, Option.bind_some, aHn, dQ (i := i) (by omega)]
        rw [hrest, List.all_cons, hgood]
        have ih' : pB l i = true → iJ l (l.length : Int) k ((i + 1 : Nat) : Int) (cD l[i].Id l[i] m) = some (bif (List.range' (i + 1) (l.length - (i + 1))).all (pB l) then (0 : Int) else 51) := fun hgi => by
          refine ih _ ⟨fun id => ?_, fun j hj => ?_⟩
          · have htk : l.take (i + 1) = l.take i ++ [l[i]] := by rw [List.take_add_one, List.getElem?_eq_getElem hi]; rfl
            rw [htk, aCt, xK]
            constructor
            · intro h
              by_cases hid : id = l[i].Id
              · subst hid
                simp only [decide_true, cond_true]
                exact ⟨List.mem_append.2 (.inr (List.mem_singleton.2 rfl)), trivial⟩
              · simp only [hid, decide_false, Bool.false_or, cond_false] at h ⊢
                obtain ⟨h1, h2⟩ := (hK id).1 h
                exact ⟨List.mem_append.2 (.inl h1), h2⟩
            · intro y hy he
              rcases List.mem_append.1 hy with hy | hy
              · rw [(hK id).2 y hy he]; simp
              · simp at hy; subst hy; simp [he]
          · rcases Nat.lt_or_ge j i with h | h
            · exact hg j h
            · have : j = i := by omega
              subst this; exact hgi
        rw [hgood] at ih'
        revert ih'
        cases gH l[i] <;> cases fM l[i].Id m <;> cases decide (aF l[i].Id (aJ.mk 0 0 0 0 0) m = l[i]) <;> intro ih' <;> first | rfl | (simpa using ih' rfl)
      · simp [iJ, qT]

/-- What is valid. -/
structure VL (f : aS) (l : List aJ) : Prop where
  fd : oO f = true
  len : l.length ≤ 60
  nt : ∀ x ∈ l, gH x = true
  id : ∀ x ∈ l, ∀ y ∈ l, x.Id = y.Id → x = y
theorem oI {f : aS} {l : List aJ} : sL f l = 0 ↔ VL f l := by
  unfold sL
  constructor
  · intro h
    cases h1 : oO f with
    | false => rw [h1] at h; simp at h
    | true =>
      rw [h1] at h
      simp only [Bool.not_true, cond_false] at h
      cases h2 : decide (60 < (l.length : Int)) with
      | true => rw [h2] at h; simp at h
      | false =>
        rw [h2] at h
        simp only [cond_false] at h
        cases h3 : (List.range l.length).all (pB l) with
        | false => rw [h3] at h; simp at h
        | true =>
          simp only [List.all_eq_true, List.mem_range] at h3
          have hg : ∀ i (hi : i < l.length), gH l[i] = true ∧ ∀ y ∈ l.take i, y.Id = l[i].Id → y = l[i] := fun i hi => by
            have := h3 i hi
            rw [rV hi] at this
            simp only [Bool.and_eq_true, List.all_eq_true, Bool.or_eq_true, Bool.not_eq_true', decide_eq_false_iff_not, decide_eq_true_eq] at this
            exact ⟨this.1, fun y hy he => (this.2 y hy).resolve_left fun h => h he⟩
          refine ⟨h1, by simp at h2; omega, fun x hx => ?_, fun x hx y hy he => ?_⟩
          · obtain ⟨i, hi, rfl⟩ := List.getElem_of_mem hx
            exact (hg i hi).1
          · obtain ⟨i, hi, rfl⟩ := List.getElem_of_mem hx
            obtain ⟨j, hj, rfl⟩ := List.getElem_of_mem hy
            rcases Nat.lt_trichotomy i j with h | h | h
            · exact (hg j hj).2 _ (List.mem_take_iff_getElem.2 ⟨i, by omega, rfl⟩) he
            · subst h; rfl
            · exact ((hg i hi).2 _ (List.mem_take_iff_getElem.2 ⟨j, by omega, rfl⟩) he.symm).symm
  · rintro ⟨h1, h2, h3, h4⟩
    rw [h1]
    have : decide (60 < (l.length : Int)) = false := by simp; omega
    rw [this]
    have h5 : (List.range l.length).all (pB l) = true := by
      simp only [List.all_eq_true, List.mem_range]
      intro i hi
      rw [rV hi]
      simp only [Bool.and_eq_true, List.all_eq_true, Bool.or_eq_true, Bool.not_eq_true', decide_eq_false_iff_not, decide_eq_true_eq]
      refine ⟨h3 _ (List.getElem_mem hi), fun y hy => ?_⟩
      by_cases he : y.Id = l[i].Id
      · exact .inr (h4 _ (List.mem_of_mem_take hy) _ (List.getElem_mem hi) he)
      · exact .inl he
    rw [h5]
    rfl
end Go.Am

end
section
namespace Go.Am

/-- The order in which notices are taken. -/
def eI (x : aJ) : Int := x.Hour * 1000 + x.Id
section
variable {α : Type}
theorem qY {A : List α} {x : α} {B : List α} {p : Int} (h : p = (A.length : Int)) : idx (A ++ x :: B) p = some x := by
  subst h; rw [eY (by simp)]; simp
theorem aMp {A : List α} {x y : α} {B : List α} {p : Nat} (h : p = A.length) : (A ++ x :: B).set p y = A ++ y :: B := by
  subst h; simp
theorem wA {A : List α} {x y : α} {B : List α} {p : Int} (h : p = ((A.length + 1 : Nat) : Int)) : idx (A ++ x :: y :: B) p = some y := by
  have : A ++ x :: y :: B = (A ++ [x]) ++ y :: B := by simp
  rw [this, qY (by simp [h])]
end
/-- What is left of a row when equal neighbours are one. -/
def nO (p : aJ) : List aJ → List aJ
  | [] => []
  | y :: t => if y = p then nO p t else y :: nO y t
def nU : List aJ → List aJ
  | [] => []
  | x :: t => x :: nO x t
theorem aHe (again : Int → List aJ → Option (List aJ)) {k0 : Nat} : ∀ (t : List aJ) (p : aJ) (W X : List aJ) (k2 k : Nat), 1 ≤ k2 → W.length + X.length + 1 = k0 + k2 → k0 ≤ W.length → (W ++ X ++ p :: t).length < 4611686018427387904 → t.length < k →
    cY again (k0 : Nat) k (W.length : Nat) (k2 : Nat) (W ++ X ++ p :: t) = some (W ++ nO p t) := by
  intro t
  induction t with
  | nil =>
    intro p W X k2 k h1 h2 h3 hb hk
    obtain ⟨k, rfl⟩ : ∃ q, k = q + 1 := ⟨k - 1, by omega⟩
    simp only [List.length_append, List.length_cons, List.length_nil] at hb
    have t0 : ((k0 : Nat) : Int).toNat = k0 := rfl
    have t1 : ((W.length : Nat) : Int).toNat = W.length := rfl
    have hlt : decide ((k2 : Int) < (((W ++ X ++ [p]).drop k0).length : Int)) = false := decide_eq_false (by simp; omega)
    have c1 : (decide ((0 : Int) ≤ (W.length : Int)) && decide ((W.length : Int) ≤ ((W ++ X ++ [p]).length : Int))) = true := by simp; omega
    have c2 : decide (W.length ≤ (W ++ X ++ [p]).length) = true := by simp
    have c3 : decide ((0 : Int) ≤ (W.length : Int)) = true := by simp
    simp only [cY, t0, hlt, cond_false, jJ]
    rw [c1, t1, c2, c3]
    simp [chk, nO]
  | cons y t ih =>
    intro p W X k2 k h1 h2 h3 hb hk
    obtain ⟨k, rfl⟩ : ∃ q, k = q + 1 := ⟨k - 1, by omega⟩
    simp only [List.length_append, List.length_cons] at hb hk
    have t0 : ((k0 : Nat) : Int).toNat = k0 := rfl
    have t1 : ((W.length : Nat) : Int).toNat = W.length := rfl
    have hlt : decide ((k2 : Int) < (((W ++ X ++ p :: y :: t).drop k0).length : Int)) = true := decide_eq_true (by simp; omega)
    have ed : (W ++ X ++ p :: y :: t).drop k0 = (W ++ X).drop k0 ++ p :: y :: t := by rw [List.drop_append_of_le_length (by simp; omega)]
    have hdl : ((W ++ X).drop k0).length = k2 - 1 := by simp; omega
    have i1 : idx ((W ++ X ++ p :: y :: t).drop k0) (k2 : Nat) = some y := by rw [ed]; exact wA (by rw [hdl]; omega)
    have i2 : idx ((W ++ X ++ p :: y :: t).drop k0) (w64 ((k2 : Int) - 1)) = some p := by rw [aFk (by omega) (by omega), ed]; exact qY (by rw [hdl])
    simp only [cY, t0, hlt, cond_true, i1, i2, Option.bind_some, dQ (show k2 < 9223372036854775807 by omega)]
    by_cases hyp : y = p
    · subst hyp
      have := ih y W (X ++ [y]) (k2 + 1) k (by omega) (by simp; omega) h3 (by simp only [List.length_append, List.length_cons, List.length_nil]; omega) (by omega)
      have e1 : W ++ (X ++ [y]) ++ y :: t = W ++ X ++ y :: y :: t := by simp
      rw [e1] at this
      rw [decide_eq_true rfl, Bool.not_true, cond_false, this]
      simp [nO]
    · have hd : (!decide (y = p)) = true := by rw [decide_eq_false hyp]; rfl
      have i3 : ∃ z, idx (W ++ X ++ p :: y :: t) (W.length : Nat) = some z := ⟨_, eY (by simp; omega)⟩
      obtain ⟨z, i3⟩ := i3
      rw [hd, cond_true, i3, Option.bind_some, t1, dQ (by omega)]
      obtain ⟨X', e2⟩ : ∃ X', (W ++ X ++ p :: y :: t).set W.length y = (W ++ [y]) ++ X' ++ y :: t ∧ X'.length = X.length := by
        cases X with
        | nil => exact ⟨[], by simp, rfl⟩
        | cons x X => exact ⟨X ++ [p], by simp, by simp⟩
      rw [e2.1]
      have := ih y (W ++ [y]) X' (k2 + 1) k (by omega) (by rw [List.length_append, e2.2]; simp; omega) (by simp; omega) (by simp only [List.length_append, List.length_cons, List.length_nil, e2.2]; omega) (by omega)
      have e3 : (W ++ [y]).length = W.length + 1 := by simp
      rw [e3] at this
      rw [this]
      simp [nO, hyp]
theorem aDt (s : List aJ) (hb : s.length < 4611686018427387904) : eZ s = some (nU s) := by
  have main : ∀ (t A : List aJ) (p : aJ) (k : Nat), t.length < k → (A ++ p :: t).length < 4611686018427387904 → cK k ((A.length + 1 : Nat) : Int) (A ++ p :: t) = some (A ++ p :: nO p t) := by
    intro t
    induction t with
    | nil =>
      intro A p k hk hb
      obtain ⟨k, rfl⟩ : ∃ q, k = q + 1 := ⟨k - 1, by omega⟩
      have hlt : decide (((A.length + 1 : Nat) : Int) < ((A ++ [p]).length : Int)) = false := decide_eq_false (by simp)
      simp only [cK, hlt, cond_false, jH, nO]
    | cons y t ih =>
      intro A p k hk hb
      obtain ⟨k, rfl⟩ : ∃ q, k = q + 1 := ⟨k - 1, by omega⟩
      simp only [List.length_append, List.length_cons] at hb hk
      have hlt : decide (((A.length + 1 : Nat) : Int) < ((A ++ p :: y :: t).length : Int)) = true := decide_eq_true (by simp; omega)
      have i2 : w64 (((A.length + 1 : Nat) : Int) - 1) = (A.length : Int) := by rw [iE (by omega) (by omega)]; omega
      simp only [cK, hlt, cond_true, wA rfl, i2, qY rfl, Option.bind_some]
      by_cases hyp : y = p
      · subst hyp
        have c1 : (decide ((0 : Int) ≤ ((A.length + 1 : Nat) : Int)) && decide (((A.length + 1 : Nat) : Int) ≤ ((A ++ y :: y :: t).length : Int))) = true := by simp; omega
        rw [decide_eq_true rfl, cond_true, c1]
        simp only [chk, cond_true, Option.bind_some]
        have := aHe (cK k) (k0 := A.length + 1) t y (A ++ [y]) [] 1 BIG (Nat.le_refl _) (by simp) (by simp) (by simp only [List.length_append, List.length_cons, List.length_nil]; omega) (gD (by omega))
        have e3 : (A ++ [y]).length = A.length + 1 := by simp
        have e4 : A ++ [y] ++ [] ++ y :: t = A ++ y :: y :: t := by simp
        rw [e3, e4] at this
        have e5 : ((1 : Nat) : Int) = 1 := rfl
        rw [e5] at this
        rw [this]
        simp [nO]
      · rw [decide_eq_false hyp, cond_false]
        unfold jI
        rw [dQ (by omega)]
        have := ih (A ++ [p]) y k (by omega) (by simp only [List.length_append, List.length_cons, List.length_nil]; omega)
        have e3 : (A ++ [p]).length = A.length + 1 := by simp
        have e4 : A ++ [p] ++ y :: t = A ++ p :: y :: t := by simp
        rw [e3, e4] at this
        rw [this]
        simp [nO, hyp]
  unfold eZ
  match s, hb with
  | [], _ => simp [nU]
  | x :: t, hb =>
    by_cases ht : t = []
    · subst ht; simp [nU, nO]
    · have hl : 0 < t.length := List.length_pos_iff.2 ht
      have hd : decide (((x :: t).length : Int) < 2) = false := decide_eq_false (by simp; omega)
      rw [hd, cond_false]
      have := main t [] x BIG (gD (by simp at hb; omega)) (by simpa using hb)
      simp only [List.length_nil, List.nil_append, Nat.zero_add] at this
      have e5 : ((1 : Nat) : Int) = 1 := rfl
      rw [e5] at this
      rw [this]; rfl
theorem aKl (p x : aJ) (t : List aJ) : (x = p ∨ x ∈ nO p t) ↔ (x = p ∨ x ∈ t) := by
  induction t generalizing p with
  | nil => rfl
  | cons y t ih =>
    simp only [nO, List.mem_cons]
    by_cases h : y = p
    · subst h
      rw [if_pos rfl]
      have := ih y
      constructor
      · rintro (h | h)
        · exact .inl h
        · rcases this.1 (.inr h) with h | h
          · exact .inl h
          · exact .inr (.inr h)
      · rintro (h | h | h)
        · exact .inl h
        · exact .inl h
        · exact this.2 (.inr h)
    · rw [if_neg h, List.mem_cons]
      have := ih y
      constructor
      · rintro (h | h)
        · exact .inl h
        · exact .inr (this.1 h)
      · rintro (h | h)
        · exact .inl h
        · exact .inr (this.2 h)
theorem aFn (x : aJ) (s : List aJ) : x ∈ nU s ↔ x ∈ s := by
  cases s with
  | nil => rfl
  | cons p t => simp only [nU, List.mem_cons]; exact aKl p x t
theorem aKm (p : aJ) (t : List aJ) : (nO p t).Sublist t := by
  induction t generalizing p with
  | nil => exact .slnil
  | cons y t ih =>
    simp only [nO]
    split
    · exact (ih p).cons _
    · exact (ih y).cons_cons _
/-- In a weakly ordered row without a clash, what is left is strictly ordered. -/
theorem aFq (p : aJ) (t : List aJ) (hs : (p :: t).Pairwise fun x y => eI x ≤ eI y) (hcl : ∀ x ∈ p :: t, ∀ y ∈ p :: t, eI x = eI y → x = y) : (p :: nO p t).Pairwise fun x y => eI x < eI y := by
  induction t generalizing p with
  | nil => exact List.pairwise_singleton _ _
  | cons y t ih =>
    have h1 := List.pairwise_cons.1 hs
    have h2 := List.pairwise_cons.1 h1.2
    simp only [nO]
    by_cases h : y = p
    · subst h
      rw [if_pos rfl]
      exact ih y h1.2 (fun a ha b hb => hcl a (List.mem_cons_of_mem _ ha) b (List.mem_cons_of_mem _ hb))
    · rw [if_neg h]
      have h3 := ih y h1.2 (fun a ha b hb => hcl a (List.mem_cons_of_mem _ ha) b (List.mem_cons_of_mem _ hb))
      refine List.pairwise_cons.2 ⟨fun z hz => ?_, h3⟩
      have hpy : eI p < eI y := by
        have := h1.1 y (by simp)
        rcases Int.lt_or_eq_of_le this with h4 | h4
        · exact h4
        · exact absurd (hcl p (by simp) y (by simp) h4).symm h
      rcases List.mem_cons.1 hz with rfl | hz
      · exact hpy
      · exact Int.lt_trans hpy ((List.pairwise_cons.1 h3).1 z hz)
theorem nF {α : Type} {key : α → Int} : ∀ {xs ys : List α}, xs.Pairwise (fun x y => key x < key y) → ys.Pairwise (fun x y => key x < key y) → (∀ x, x ∈ xs ↔ x ∈ ys) → xs = ys
  | [], [], _, _, _ => rfl
  | [], y :: ys, _, _, h => by have := (h y).2 (by simp); simp at this
  | x :: xs, [], _, _, h => by have := (h x).1 (by simp); simp at this
  | x :: xs, y :: ys, h1, h2, h => by
    have a1 := List.pairwise_cons.1 h1
    have a2 := List.pairwise_cons.1 h2
    have hxy : x = y := by
      rcases List.mem_cons.1 ((h x).1 (by simp)) with e | e
      · exact e
      · rcases List.mem_cons.1 ((h y).2 (by simp)) with e2 | e2
        · exact e2.symm
        · have := a2.1 x e; have := a1.1 y e2; omega
    subst hxy
    have := nF a1.2 a2.2 fun z => by
      have hz := h z
      simp only [List.mem_cons] at hz
      constructor
      · intro hm
        rcases hz.1 (.inr hm) with e | e
        · have := a1.1 z hm; rw [e] at this; omega
        · exact e
      · intro hm
        rcases hz.2 (.inr hm) with e | e
        · have := a2.1 z hm; rw [e] at this; omega
        · exact e
    rw [this]


theorem aHd (l : List aJ) (hb : l.length ≤ 60) : gF l = some l := by
  have key := lO (cG (fun (s3 : List aJ) x4 => (app 40 s3 ([x4])).bind fun x6 => some (x6, true)) l (l.length : Int)) l.length (fun i s => some (s ++ l.drop i, true)) (fun i s => s.length = i) (fun k i s hi hI ih => ?_) (fun k s hI => ?_) BIG [] (gD (by omega)) rfl
  · unfold gF hZ eP
    rw [key]
    simp
  · simp only [cG, show decide ((i : Int) < (l.length : Int)) = true by simpa using hi, cond_true, eY hi, Option.bind_some]
    rw [rO (by simp; omega)]
    simp only [Option.bind_some, Bool.not_true, cond_false]
    rw [dQ (by omega), ih _ (by simp; omega)]
    rw [List.append_assoc, List.singleton_append, ← List.drop_eq_getElem_cons hi]
  · simp [cG, fV]
theorem or2 (a b : Int) : lQ [a, b] = some (if a ≠ 0 then a else b) := by
  unfold lQ
  obtain ⟨k, hk⟩ : ∃ k, BIG = k + 1 + 1 + 1 := ⟨BIG - 3, by unfold BIG; omega⟩
  rw [show ((([a, b] : List Int).length : Nat) : Int) = 2 from rfl, hk]
  simp only [lN, oZ, show decide ((0 : Int) < 2) = true from rfl, cond_true, show idx [a, b] 0 = some a from rfl, Option.bind_some, show w64 (0 + 1) = 1 from rfl, show decide ((1 : Int) < 2) = true from rfl, show idx [a, b] 1 = some b from rfl, show w64 (1 + 1) = 2 from rfl, show decide ((2 : Int) < 2) = false from rfl, cond_false]
  by_cases h : a = 0
  · subst h
    by_cases h2 : b = 0
    · subst h2; simp
    · simp [h2]
  · simp [h]
/-- Whose number and hour are within their bounds. -/
def bN (x : aJ) : Prop := 0 ≤ x.Id ∧ x.Id ≤ 999 ∧ 0 ≤ x.Hour ∧ x.Hour ≤ 9999
theorem zR {x : aJ} (h : gH x = true) : bN x := by
  unfold gH at h
  simp only [Bool.and_eq_true, vO] at h
  exact ⟨h.1.1.1.1, h.1.1.1.2, h.1.2.1, h.1.2.2⟩
theorem aNe {x y : aJ} (hx : bN x) (hy : bN y) : ∃ r, dS x y = some r ∧ (r < 0 ↔ eI x < eI y) := by
  obtain ⟨a1, a2, a3, a4⟩ := hx
  obtain ⟨b1, b2, b3, b4⟩ := hy
  unfold dS
  rw [iE (by omega) (by omega), iE (by omega) (by omega), or2]
  refine ⟨_, rfl, ?_⟩
  unfold eI
  split <;> constructor <;> intro h <;> omega
theorem ltN {x y : aJ} (hx : bN x) (hy : bN y) : ltO (fun a b => dS a b) x y = decide (eI x < eI y) := by
  obtain ⟨r, h1, h2⟩ := aNe hx hy
  unfold ltO
  simp only [h1]
  rw [Bool.eq_iff_iff]
  simpa using h2
theorem aEi {x y : aJ} (hx : bN x) (hy : bN y) (h : eI x = eI y) : x.Id = y.Id := by
  obtain ⟨a1, a2, a3, a4⟩ := hx
  obtain ⟨b1, b2, b3, b4⟩ := hy
  unfold eI at h
  omega
theorem aGq {l : List aJ} (hb : ∀ x ∈ l, bN x) (hid : ∀ x ∈ l, ∀ y ∈ l, x.Id = y.Id → x = y) : pD l (fun a b => dS a b) = true := by
  unfold pD
  simp only [List.all_eq_true, Bool.and_eq_true, Bool.or_eq_true, Bool.not_eq_true', decide_eq_true_eq]
  intro x hx
  refine ⟨by rw [ltN (hb x hx) (hb x hx)]; simp, fun y hy => ⟨⟨?_, ?_⟩, fun z hz => ⟨?_, ?_⟩⟩⟩
  · obtain ⟨r, h1, _⟩ := aNe (hb x hx) (hb y hy)
    simp [h1]
  · rw [ltN (hb x hx) (hb y hy), ltN (hb y hy) (hb x hx)]
    simp only [decide_eq_true_eq]
    rcases Int.lt_trichotomy (eI x) (eI y) with h | h | h
    · exact .inl (.inr h)
    · exact .inl (.inl (hid x hx y hy (aEi (hb x hx) (hb y hy) h)))
    · exact .inr h
  · rw [ltN (hb x hx) (hb y hy), ltN (hb y hy) (hb z hz), ltN (hb x hx) (hb z hz)]
    simp only [Bool.and_eq_false_iff, decide_eq_false_iff_not, decide_eq_true_eq]
    omega
  · rw [ltN (hb x hx) (hb y hy), ltN (hb y hy) (hb z hz), ltN (hb x hx) (hb z hz)]
    simp only [decide_eq_false_iff_not, decide_eq_true_eq]
    omega
def dH (l : List aJ) : List aJ := nU (dG (fun a b => dS a b) l)
theorem aNf {l : List aJ} (hlen : l.length ≤ 60) (hb : ∀ x ∈ l, bN x) (hid : ∀ x ∈ l, ∀ y ∈ l, x.Id = y.Id → x = y) :
    fK l (fun y5 y6 => dS y5 y6) = some (dG (fun a b => dS a b) l) ∧ eZ (dG (fun a b => dS a b) l) = some (dH l) := by
  have hl : (dG (fun a b => dS a b) l).length = l.length := (iD _ l).length_eq
  refine ⟨?_, aDt _ (by omega)⟩
  unfold fK kG
  rw [aHd l hlen]
  simp only [Option.bind_some]
  unfold pF
  rw [if_pos ⟨aGq hb hid, by omega⟩]
  rfl
theorem gW {l : List aJ} (x : aJ) : x ∈ dH l ↔ x ∈ l := by
  unfold dH
  rw [aFn]
  exact (iD _ l).mem_iff
theorem pH {l : List aJ} (hb : ∀ x ∈ l, bN x) (hid : ∀ x ∈ l, ∀ y ∈ l, x.Id = y.Id → x = y) : (dH l).Pairwise fun x y => eI x < eI y := by
  have hs := pE (aGq hb hid)
  have hm : ∀ x, x ∈ dG (fun a b => dS a b) l ↔ x ∈ l := fun x => (iD _ l).mem_iff
  unfold dH
  generalize hz : dG (fun a b => dS a b) l = z at hs hm
  have hs' : z.Pairwise fun x y => eI x ≤ eI y := by
    refine List.Pairwise.imp_of_mem (fun {x y} hx hy h => ?_) hs
    rw [ltN (hb y ((hm y).1 hy)) (hb x ((hm x).1 hx))] at h
    simp at h
    omega
  cases z with
  | nil => exact .nil
  | cons p t => exact aFq p t hs' fun x hx y hy h => hid x ((hm x).1 hx) y ((hm y).1 hy) (aEi (hb x ((hm x).1 hx)) (hb y ((hm y).1 hy)) h)
end Go.Am

end
section
namespace Go.Am

section lists
variable {α : Type}
end lists

end Go.Am

end
section
namespace Go.Am

def iG {α : Type} (p : α → Bool) (l : List α) : Int := if l.findIdx p < l.length then (l.findIdx p : Int) else -1
theorem aCj {α : Type} (F : Nat → Int → Option Int) (l : List α) (p : α → Bool) (h1 : ∀ k i (hi : i < l.length), F (k + 1) (i : Nat) = bif p l[i] then some (i : Int) else F k ((i + 1 : Nat) : Int)) (h2 : ∀ k, F (k + 1) (l.length : Nat) = some (-1)) :
    ∀ k, l.length < k → F k 0 = some (iG p l) := by
  have main : ∀ d i k, l.length - i = d → d < k → i ≤ l.length → (∀ j (hj : j < l.length), j < i → p l[j] = false) → F k (i : Nat) = some (iG p l) := by
    intro d
    induction d with
    | zero =>
      intro i k hd hk hi hno
      obtain ⟨k, rfl⟩ : ∃ q, k = q + 1 := ⟨k - 1, by omega⟩
      have : i = l.length := by omega
      subst this
      have he : ¬ l.findIdx p < l.length := fun h => by
        have := hno _ h h
        rw [List.findIdx_getElem (w := h)] at this
        cases this
      rw [h2, iG, if_neg he]
    | succ d ih =>
      intro i k hd hk hi hno
      obtain ⟨k, rfl⟩ : ∃ q, k = q + 1 := ⟨k - 1, by omega⟩
      have hil : i < l.length := by omega
      rw [h1 k i hil]
      cases hp : p l[i] with
      | true =>
        have he : l.findIdx p = i := by
          rw [List.findIdx_eq hil]
          exact ⟨hp, fun j hj => hno j (by omega) hj⟩
        rw [cond_true, iG, he, if_pos hil]
      | false =>
        rw [cond_false]
        exact ih (i + 1) k (by omega) (by omega) (by omega) fun j hj hji => by
          rcases Nat.lt_or_eq_of_le (Nat.le_of_lt_succ hji) with h | h
          · exact hno j hj h
          · subst h; exact hp
  intro k hk
  exact main _ 0 k rfl (by omega) (Nat.zero_le _) fun j _ h => by omega

section del
theorem aEf (l : List Int) (f : Int → Option Bool) (p : Int → Bool) (h : ∀ x ∈ l, f x = some (p x)) (hb : l.length ≤ 1000000) : fU l f = some (iG p l) := by
  unfold fU
  refine aCj (fun k i => eR l f (l.length : Int) k i) l p (fun k i hi => ?_) (fun k => ?_) BIG (gD (by omega))
  · have hlt : decide ((i : Int) < (l.length : Int)) = true := decide_eq_true (by omega)
    simp only [eR, hlt, cond_true, eY hi, Option.bind_some, h _ (List.getElem_mem hi), dQ (show i < 9223372036854775807 by omega)]
  · have hlt : decide ((l.length : Int) < (l.length : Int)) = false := decide_eq_false (by omega)
    simp only [eR, hlt, cond_false, lL]
theorem aFo (f : Int → Option Bool) (p : Int → Bool) : ∀ (t W X : List Int) (k : Nat), (∀ x ∈ t, f x = some (p x)) → 0 < X.length → (W ++ X ++ t).length ≤ 1000000 → t.length < k →
    dY f k (W.length : Nat) ((W.length + X.length : Nat) : Int) (W ++ X ++ t) = some (W ++ t.filter fun x => !p x) := by
  intro t
  induction t with
  | nil =>
    intro W X k hf hX hb hk
    obtain ⟨k, rfl⟩ : ∃ q, k = q + 1 := ⟨k - 1, by omega⟩
    simp only [List.length_append, List.length_nil] at hb
    have hlt : decide (((W.length + X.length : Nat) : Int) < ((W ++ X ++ []).length : Int)) = false := decide_eq_false (by simp)
    have t1 : ((W.length : Nat) : Int).toNat = W.length := rfl
    have c1 : (decide ((0 : Int) ≤ (W.length : Int)) && decide ((W.length : Int) ≤ ((W ++ X ++ []).length : Int))) = true := by simp; omega
    have c2 : decide (W.length ≤ (W ++ X ++ []).length) = true := by simp
    have c3 : decide ((0 : Int) ≤ (W.length : Int)) = true := by simp
    simp only [dY, hlt, cond_false, lG]
    rw [c1, t1, c2, c3]
    simp [chk]
  | cons y t ih =>
    intro W X k hf hX hb hk
    obtain ⟨k, rfl⟩ : ∃ q, k = q + 1 := ⟨k - 1, by omega⟩
    simp only [List.length_append, List.length_cons] at hb hk
    have hlt : decide (((W.length + X.length : Nat) : Int) < ((W ++ X ++ y :: t).length : Int)) = true := decide_eq_true (by simp; omega)
    have i1 : idx (W ++ X ++ y :: t) ((W.length + X.length : Nat) : Int) = some y := qY (by simp)
    have hf1 := hf y (by simp)
    have hf2 : ∀ x ∈ t, f x = some (p x) := fun x hx => hf x (List.mem_cons_of_mem _ hx)
    have t1 : ((W.length : Nat) : Int).toNat = W.length := rfl
    simp only [dY, hlt, cond_true, i1, hf1, Option.bind_some, dQ (show W.length + X.length < 9223372036854775807 by omega)]
    cases hp : p y with
    | true =>
      simp only [Bool.not_true, cond_false]
      have := ih W (X ++ [y]) k hf2 (by simp) (by simp; omega) (by omega)
      have e1 : W ++ (X ++ [y]) ++ t = W ++ X ++ y :: t := by simp
      have e2 : W.length + (X ++ [y]).length = W.length + X.length + 1 := by simp; omega
      rw [e1, e2] at this
      rw [this]; simp [hp]
    | false =>
      simp only [Bool.not_false, cond_true]
      match X, hX with
      | x :: X, _ =>
        have i2 : idx (W ++ (x :: X) ++ y :: t) (W.length : Nat) = some x := by
          have : W ++ (x :: X) ++ y :: t = W ++ x :: (X ++ y :: t) := by simp
          rw [this]; exact qY rfl
        have e3 : (W ++ (x :: X) ++ y :: t).set W.length y = (W ++ [y]) ++ (X ++ [y]) ++ t := by
          have : W ++ (x :: X) ++ y :: t = W ++ x :: (X ++ y :: t) := by simp
          rw [this, aMp rfl]; simp
        rw [i2, Option.bind_some, t1, e3, dQ (by omega)]
        have := ih (W ++ [y]) (X ++ [y]) k hf2 (by simp) (by simp at hb ⊢; omega) (by omega)
        have e4 : (W ++ [y]).length = W.length + 1 := by simp
        have e5 : (W ++ [y]).length + (X ++ [y]).length = W.length + (x :: X).length + 1 := by simp; omega
        rw [e5, e4] at this
        rw [this]; simp [hp]
theorem zS (s : List Int) (f : Int → Option Bool) (p : Int → Bool) (h : ∀ x ∈ s, f x = some (p x)) (hb : s.length ≤ 1000000) : cE s f = some (s.filter fun x => !p x) := by
  unfold cE
  rw [aEf s f p h hb, Option.bind_some]
  unfold iG
  by_cases hl : s.findIdx p < s.length
  · rw [if_pos hl, decide_eq_false (by omega), cond_false]
    obtain ⟨i, hi⟩ : ∃ i, i = s.findIdx p := ⟨_, rfl⟩
    rw [← hi] at hl ⊢
    have hno : ∀ x ∈ s.take i, (!p x) = true := fun x hx => by
      obtain ⟨j, hj, rfl⟩ := List.getElem_of_mem hx
      simp only [List.length_take] at hj
      rw [List.getElem_take]
      have := List.not_of_lt_findIdx (p := p) (xs := s) (i := j) (by omega)
      simpa using this
    have hyes : p s[i] = true := by
      have := List.findIdx_getElem (p := p) (xs := s) (w := hi ▸ hl)
      simpa [← hi] using this
    have es : s = s.take i ++ [s[i]] ++ s.drop (i + 1) := by
      rw [List.append_assoc, List.singleton_append, ← List.drop_eq_getElem_cons hl, List.take_append_drop]
    have hloop := aFo f p (s.drop (i + 1)) (s.take i) [s[i]] BIG (fun x hx => h x (List.mem_of_mem_drop hx)) (by simp) (by rw [← es]; omega) (gD (by simp; omega))
    have e1 : (s.take i).length = i := by simp; omega
    rw [e1, ← es] at hloop
    rw [dQ (by omega)]
    have e2 : i + [s[i]].length = i + 1 := rfl
    rw [e2] at hloop
    rw [hloop]
    congr 1
    conv => rhs; rw [es]
    rw [List.filter_append, List.filter_append, List.filter_eq_self.2 hno]
    simp [hyes]
  · rw [if_neg hl, decide_eq_true rfl, cond_true]
    congr 1
    symm
    refine List.filter_eq_self.2 fun x hx => ?_
    cases hp : p x with
    | false => rfl
    | true => exact absurd (List.findIdx_lt_length_of_exists ⟨x, hx, hp⟩) hl
end del

theorem aDl (l : List Int) (hl : l.length ≤ 9223372036854775807) (v : Int) : gO l v = some (match l.findIdx? (fun x => decide (v = x)) with | some i => (i : Int) | none => -1) := by
  unfold gO
  rw [lO (S := Unit) (fun k i _ => eB l v l.length k i) l.length (fun i _ => some (match (l.drop i).findIdx? (fun x => decide (v = x)) with | some j => ((i + j : Nat) : Int) | none => -1)) (fun _ _ => True) ?_ ?_ BIG () (gD hl) trivial]
  · simp
  · intro k i _ hi _ ih
    have := ih () trivial
    simp only [eB, eY hi, Option.bind_some, dQ (show i < 9223372036854775807 by omega), Int.ofNat_lt, hi, decide_true, cond_true, this]
    rw [List.drop_eq_getElem_cons hi, List.findIdx?_cons]
    by_cases h : v = l[i]
    · simp [h]
    · simp only [h, decide_false, cond_false, Bool.false_eq_true, if_false]
      cases List.findIdx? (fun x => decide (v = x)) (List.drop (i + 1) l) with
      | none => rfl
      | some j => simp; omega
  · intro k _ _
    simp [eB, lK]
theorem uA (l : List Int) (hl : l.length ≤ 9223372036854775807) (v : Int) : iB l v = some (decide (v ∈ l)) := by
  unfold iB
  rw [aDl l hl v]
  cases h : List.findIdx? (fun x => decide (v = x)) l with
  | none =>
    simp at h
    have : v ∉ l := fun hm => h v hm rfl
    simp [this]
  | some j =>
    have : v ∈ l := by
      obtain ⟨h1, h2, _⟩ := List.findIdx?_eq_some_iff_getElem.1 h
      simp at h2
      rw [h2]; exact List.getElem_mem h1
    simp [this]


theorem aEw (out : List Int) (p : Int) (hb : out.length ≤ 1000000) : gO out p = some (iG (fun x => decide (p = x)) out) := by
  unfold gO
  refine aCj (fun k i => eB out p (out.length : Int) k i) out (fun x => decide (p = x)) (fun k i hi => ?_) (fun k => ?_) BIG (gD (by omega))
  · have hlt : decide ((i : Int) < (out.length : Int)) = true := decide_eq_true (by omega)
    simp only [eB, hlt, cond_true, eY hi, Option.bind_some, dQ (show i < 9223372036854775807 by omega)]
  · have hlt : decide ((out.length : Int) < (out.length : Int)) = false := decide_eq_false (by omega)
    simp only [eB, hlt, cond_false, lK]
theorem aIi (a b : List Int) (ha : a.length ≤ 100000) (hb : b.length ≤ 100000) : kL [a, b] = some (a ++ b) := by
  have e1 : ∀ k s, eX [a, b] 2 (k + 3) 0 s = (app 8 s a).bind fun x => (app 8 x b).bind fun y => some y := by
    intro k s
    have w1 : w64 (0 + 1) = 1 := rfl
    have w2 : w64 (1 + 1) = 2 := rfl
    have i0 : idx [a, b] 0 = some a := rfl
    have i1 : idx [a, b] 1 = some b := rfl
    have c0 : decide ((0 : Int) < 2) = true := rfl
    have c1 : decide ((1 : Int) < 2) = true := rfl
    have c2 : decide ((2 : Int) < 2) = false := rfl
    rw [eX, c0, cond_true, i0, Option.bind_some, w1]
    refine congrArg _ (funext fun x => ?_)
    rw [eX, c1, cond_true, i1, Option.bind_some, w2]
    refine congrArg _ (funext fun y => ?_)
    rw [eX, c2, cond_false]; rfl
  have hB : BIG = (18446744073709551616 - 3) + 3 := rfl
  have hL : (([a, b] : List (List Int)).length : Int) = 2 := rfl
  have g1 : w64 (0 + (a.length : Int)) = a.length := by rw [iE (by omega) (by omega)]; omega
  have g2 : w64 ((a.length : Int) + (b.length : Int)) = ((a.length + b.length : Nat) : Int) := by rw [iE (by omega) (by omega)]; omega
  have hgrow : lU ((a.length + b.length : Nat) : Int) = some [] := by
    unfold lU
    have w0 : w64 (0 - 0) = 0 := rfl
    rw [decide_eq_false (by omega), cond_false, w0, Int.sub_zero, iE (by omega) (by omega)]
    by_cases h0 : (0 : Int) < ((a.length + b.length : Nat) : Int)
    · have c1 : decide (((a.length + b.length : Nat) : Int) * ((8 : Nat) : Int) ≤ 140737488355328) = true := decide_eq_true (by omega)
      rw [decide_eq_true h0, cond_true, c1]; rfl
    · rw [decide_eq_false h0, cond_false]
  unfold kL
  rw [hB, hL]
  have w1 : w64 (0 + 1) = 1 := rfl
  have w2 : w64 (1 + 1) = 2 := rfl
  have i0 : idx [a, b] 0 = some a := rfl
  have i1 : idx [a, b] 1 = some b := rfl
  have c0 : decide ((0 : Int) < 2) = true := rfl
  have c1 : decide ((1 : Int) < 2) = true := rfl
  have c2 : decide ((2 : Int) < 2) = false := rfl
  rw [fT, c0, cond_true, i0, Option.bind_some, g1, decide_eq_false (by omega), cond_false, w1, fT, c1, cond_true, i1, Option.bind_some, g2, decide_eq_false (by omega), cond_false, w2, fT, c2, cond_false]
  unfold mX
  rw [hgrow, Option.bind_some, hB, hL, e1, rO (by simp; omega), Option.bind_some, List.nil_append, rO (by omega), Option.bind_some]

end Go.Am

end
section
namespace Go.Am

abbrev zP : aA := aA.mk false false 0 0 false false false false
/-- What is known of a player. -/
def pl (l : aI) (n : Int) : aA := aF n zP l.players

/-- What holds of the lists that the program makes. -/
structure WF (l : aI) : Prop where
  fd : oO l.Field = true
  keys : (l.players.map Prod.fst).Nodup
  cnt : l.players.length ≤ 60
  ent : 0 ≤ l.entered ∧ l.entered ≤ 60
  mr : 0 ≤ l.more ∧ l.more ≤ 60
  turn : ∀ n, (pl l n).entered = true → 1 ≤ (pl l n).turn ∧ (pl l n).turn ≤ l.entered ∧ 0 ≤ (pl l n).rank ∧ (pl l n).rank ≤ 9999
  inj : ∀ n m, (pl l n).entered = true → (pl l m).entered = true → (pl l n).turn = (pl l m).turn → n = m

theorem aAm {α β : Type} [DecidableEq α] {n : α} {z : β} : ∀ {m : List (α × β)}, n ∉ m.map Prod.fst → aF n z m = z
  | [], _ => rfl
  | (b, v) :: m, h => by
    simp only [List.map_cons, List.mem_cons, not_or] at h
    simp only [aF, h.1, decide_false, cond_false]
    exact aAm h.2
theorem aBj {l : aI} {n : Int} (h : (pl l n).entered = true) : n ∈ l.players.map Prod.fst := by
  refine Classical.byContradiction fun hn => ?_
  unfold pl at h
  rw [aAm hn] at h
  cases h
theorem xH (l : aI) (n : Int) : isE l.players n = ((pl l n).entered && !(pl l n).quit && !(pl l n).had) := rfl

/-- The order of the entries. -/
def gG (l : aI) (n : Int) : Int := (if (pl l n).rank = 0 then 10000 else (pl l n).rank) * 100 + (pl l n).turn
theorem or3 (a b c : Int) : lQ [a, b, c] = some (if a ≠ 0 then a else if b ≠ 0 then b else c) := by
  obtain ⟨k, hk⟩ : ∃ k, BIG = k + 1 + 1 + 1 + 1 := ⟨BIG - 4, by unfold BIG; omega⟩
  unfold lQ
  rw [show ((([a, b, c] : List Int).length : Nat) : Int) = 3 from rfl, hk]
  simp only [lN, oZ, show decide ((0 : Int) < 3) = true from rfl, cond_true, show idx [a, b, c] 0 = some a from rfl, Option.bind_some, show w64 (0 + 1) = 1 from rfl, show decide ((1 : Int) < 3) = true from rfl, show idx [a, b, c] 1 = some b from rfl, show w64 (1 + 1) = 2 from rfl, show decide ((2 : Int) < 3) = true from rfl, show idx [a, b, c] 2 = some c from rfl, show w64 (2 + 1) = 3 from rfl, show decide ((3 : Int) < 3) = false from rfl, cond_false]
  by_cases h : a = 0
  · subst h
    by_cases h2 : b = 0
    · subst h2
      by_cases h3 : c = 0
      · subst h3; simp
      · simp [h3]
    · simp [h2]
  · simp [h]
theorem aMj (p : aA) : gA p = some (if p.rank = 0 then 1 else 0) := by
  unfold gA
  by_cases h : p.rank = 0 <;> simp [h]
theorem aNd {l : aI} (h : WF l) {a b : Int} (ha : (pl l a).entered = true) (hb : (pl l b).entered = true) : ∃ r, dT a b l = some r ∧ (r < 0 ↔ gG l a < gG l b) := by
  obtain ⟨a1, a2, a3, a4⟩ := h.turn a ha
  obtain ⟨b1, b2, b3, b4⟩ := h.turn b hb
  have he := h.ent.2
  unfold dT
  rw [show (aF a (aA.mk false false 0 0 false false false false) l.players) = pl l a from rfl, show (aF b (aA.mk false false 0 0 false false false false) l.players) = pl l b from rfl]
  simp only [aMj, Option.bind_some]
  rw [iE (by split <;> split <;> omega) (by split <;> split <;> omega), iE (by omega) (by omega), iE (by omega) (by omega), or3]
  refine ⟨_, rfl, ?_⟩
  unfold gG
  by_cases h1 : (pl l a).rank = 0 <;> by_cases h2 : (pl l b).rank = 0 <;> simp only [h1, h2, if_true, if_false] <;> (repeat' split) <;> constructor <;> intro h3 <;> omega
theorem ltE {l : aI} (h : WF l) {a b : Int} (ha : (pl l a).entered = true) (hb : (pl l b).entered = true) : ltO (fun a b => dT a b l) a b = decide (gG l a < gG l b) := by
  obtain ⟨r, h1, h2⟩ := aNd h ha hb
  unfold ltO
  simp only [h1]
  rw [Bool.eq_iff_iff]
  simpa using h2
theorem zH {l : aI} (h : WF l) {a b : Int} (ha : (pl l a).entered = true) (hb : (pl l b).entered = true) (he : gG l a = gG l b) : a = b := by
  obtain ⟨a1, a2, a3, a4⟩ := h.turn a ha
  obtain ⟨b1, b2, b3, b4⟩ := h.turn b hb
  have he2 := h.ent.2
  refine h.inj a b ha hb ?_
  unfold gG at he
  split at he <;> split at he <;> omega

/-- All entries, as they lie in the map. -/
def oP (l : aI) : List Int := (l.players.filter fun p => isE l.players p.1).map Prod.fst
def fH (l : aI) : List Int := dG (fun a b => dT a b l) (oP l)
theorem wD {l : aI} {n : Int} : n ∈ oP l ↔ isE l.players n = true := by
  unfold oP
  constructor
  · intro h
    obtain ⟨p, hp, rfl⟩ := List.mem_map.1 h
    exact (List.mem_filter.1 hp).2
  · intro h
    have he : (pl l n).entered = true := by
      rw [xH] at h
      simp only [Bool.and_eq_true] at h
      exact h.1.1
    obtain ⟨p, hp, rfl⟩ := List.mem_map.1 (aBj he)
    exact List.mem_map.2 ⟨p, List.mem_filter.2 ⟨hp, h⟩, rfl⟩
theorem tR {l : aI} {n : Int} (h : n ∈ oP l) : (pl l n).entered = true := by
  have := wD.1 h
  rw [xH] at this
  simp only [Bool.and_eq_true] at this
  exact this.1.1
theorem aGu {l : aI} (h : WF l) : pD (oP l) (fun a b => dT a b l) = true := by
  unfold pD
  simp only [List.all_eq_true, Bool.and_eq_true, Bool.or_eq_true, Bool.not_eq_true', decide_eq_true_eq]
  intro x hx
  have ex := tR hx
  refine ⟨by rw [ltE h ex ex]; simp, fun y hy => ?_⟩
  have ey := tR hy
  refine ⟨⟨?_, ?_⟩, fun z hz => ?_⟩
  · obtain ⟨r, h1, _⟩ := aNd h ex ey
    simp [h1]
  · rw [ltE h ex ey, ltE h ey ex]
    simp only [decide_eq_true_eq]
    rcases Int.lt_trichotomy (gG l x) (gG l y) with h1 | h1 | h1
    · exact .inl (.inr h1)
    · exact .inl (.inl (zH h ex ey h1))
    · exact .inr h1
  · have ez := tR hz
    rw [ltE h ex ey, ltE h ey ez, ltE h ex ez]
    simp only [Bool.and_eq_false_iff, decide_eq_false_iff_not, decide_eq_true_eq]
    omega
theorem sM {l : aI} (h : WF l) : eJ l = some (fH l) := by
  have e1 : (fun p : Int × aA => (eV l.players p.1).getD false) = fun p => isE l.players p.1 := by
    funext p
    rw [sN]; rfl
  have hc := h.cnt
  have hl : (oP l).length ≤ 60 := by
    unfold oP
    rw [List.length_map]
    exact Nat.le_trans (List.length_filter_le _ _) hc
  unfold eJ
  rw [if_pos (by omega), e1]
  unfold pF
  rw [if_pos ⟨aGu h, by show (oP l).length < _; omega⟩]
  rfl
theorem qS {l : aI} {n : Int} : n ∈ fH l ↔ isE l.players n = true := by
  unfold fH
  rw [(iD _ _).mem_iff]
  exact wD
theorem pI {l : aI} (h : WF l) : (fH l).length ≤ 60 := by
  unfold fH
  rw [(iD _ _).length_eq]
  unfold oP
  rw [List.length_map]
  exact Nat.le_trans (List.length_filter_le _ _) h.cnt
theorem tB {l : aI} {n : Int} (h : n ∈ fH l) : (pl l n).entered = true := tR (wD.2 (qS.1 h))
theorem oS {l : aI} (h : WF l) : (fH l).Pairwise fun a b => gG l a < gG l b := by
  have hs := pE (aGu h)
  have hn : (fH l).Nodup := by
    refine (iD _ _).nodup_iff.2 ?_
    unfold oP
    refine List.Nodup.sublist ?_ h.keys
    exact (List.filter_sublist).map _
  refine List.Pairwise.imp_of_mem (fun {a b} ha hb hab => ?_) (hs.and hn)
  have ea := tB (l := l) ha
  have eb := tB (l := l) hb
  rw [ltE h eb ea] at hab
  have h1 := hab.1
  simp at h1
  rcases Int.lt_or_eq_of_le h1 with h2 | h2
  · exact h2
  · exact absurd (zH h ea eb h2) hab.2
theorem aHg {l : aI} (h : WF l) : (fH l).Nodup := (oS h).imp fun {a b} hab e => by subst e; omega

/-- How many of some players are protected. -/
def gd (l : aI) (xs : List Int) : Nat := (xs.filter fun n => (pl l n).guard).length
theorem aCp (l : aI) (xs : List Int) (hb : xs.length ≤ 1000) : gX l xs = some ((gd l xs : Nat) : Int) := by
  have key := lO (S := Int) (fun k i s => eU l xs (xs.length : Int) k s i) xs.length (fun i s => some (s + ((gd l (xs.drop i) : Nat) : Int))) (fun i s => 0 ≤ s ∧ s ≤ i) (fun k i s hi hI ih => ?_) (fun k s hI => ?_) BIG 0 (gD (by omega)) ⟨Int.le_refl _, Int.le_refl _⟩
  · unfold gX
    rw [key]
    simp
  · have hlt : decide ((i : Int) < (xs.length : Int)) = true := decide_eq_true (by omega)
    simp only [eU, hlt, cond_true, eY hi, Option.bind_some, dQ (show i < 9223372036854775807 by omega)]
    rw [show (aF xs[i] (aA.mk false false 0 0 false false false false) l.players) = pl l xs[i] from rfl]
    have hd : gd l (xs.drop i) = (if (pl l xs[i]).guard then 1 else 0) + gd l (xs.drop (i + 1)) := by
      unfold gd
      rw [List.drop_eq_getElem_cons hi, List.filter_cons]
      split <;> simp <;> omega
    rw [hd]
    cases (pl l xs[i]).guard with
    | true =>
      simp only [cond_true, if_true]
      rw [iE (by omega) (by omega), ih _ ⟨by omega, by omega⟩]
      congr 1
      omega
    | false =>
      simp only [cond_false, Bool.false_eq_true, if_false]
      rw [ih _ ⟨by omega, by omega⟩]
      congr 1
      omega
  · simp [eU, mS, gd]

def plc (l : aI) : Int := l.Field.Places + l.more
theorem uG {l : aI} (h : WF l) : eC l = some (plc l) := by
  have hf := h.fd
  unfold oO at hf
  simp only [Bool.and_eq_true, vO] at hf
  have hm := h.mr
  unfold eC plc
  rw [iE (by omega) (by omega)]
/-- Who gets the places, one after the other. -/
def kF (l : aI) (acc : List Int) : List Int → List Int
  | [] => acc
  | n :: t => kF l (bif decide ((acc.length : Int) < plc l) && (!(pl l n).guard || decide (((gd l acc : Nat) : Int) < l.Field.Guards)) then acc ++ [n] else acc) t
theorem zJ (l : aI) : ∀ (t acc : List Int), (kF l acc t).length ≤ acc.length + t.length
  | [], acc => by simp [kF]
  | n :: t, acc => by
    refine Nat.le_trans (zJ l t _) ?_
    cases decide ((acc.length : Int) < plc l) && (!(pl l n).guard || decide (((gd l acc : Nat) : Int) < l.Field.Guards)) <;> simp <;> omega
def kA (l : aI) : List Int := kF l [] (fH l)
theorem aCr {l : aI} (h : WF l) : iY l = some (kA l) := by
  have hl := pI h
  unfold iY kA
  rw [sM h]
  simp only [Option.bind_some]
  have key := lO (eW l (fH l) ((fH l).length : Int)) (fH l).length (fun i acc => some (kF l acc ((fH l).drop i))) (fun i acc => acc.length ≤ i) (fun k i acc hi hI ih => ?_) (fun k acc hI => ?_) BIG [] (gD (by omega)) (Nat.le_refl _)
  · rw [key]; simp
  · have hlt : decide ((i : Int) < ((fH l).length : Int)) = true := decide_eq_true (by omega)
    simp only [eW, hlt, cond_true, eY hi, Option.bind_some, uG h, dQ (show i < 9223372036854775807 by omega)]
    rw [show (aF (fH l)[i] (aA.mk false false 0 0 false false false false) l.players) = pl l (fH l)[i] from rfl, aCp l acc (by omega)]
    simp only [Option.bind_some, sX, tA]
    rw [List.drop_eq_getElem_cons hi, kF]
    cases hc : decide ((acc.length : Int) < plc l) && (!(pl l (fH l)[i]).guard || decide (((gd l acc : Nat) : Int) < l.Field.Guards)) with
    | true =>
      simp only [cond_true]
      rw [rO (by simp; omega), Option.bind_some, ih _ (by simp; omega)]
    | false =>
      simp only [cond_false]
      rw [ih _ (by omega)]
  · simp [eW, mT, kF]
def bR (l : aI) : List Int := bif l.frozen then l.first ++ l.late else kA l
theorem aBm {l : aI} (h : WF l) (hf : l.first.length ≤ 1000) (hl : l.late.length ≤ 1000) : dM l = some (bR l) := by
  unfold dM bR
  cases l.frozen with
  | true =>
    simp only [Bool.not_true, cond_false, cond_true]
    rw [aIi _ _ (by omega) (by omega)]; rfl
  | false =>
    simp only [Bool.not_false, cond_true, cond_false]
    rw [aCr h]; rfl
def dI (l : aI) : aI := bif l.frozen then l else { l with frozen := true, first := kA l }
theorem aCo {l : aI} (h : WF l) : iX l = some (dI l) := by
  unfold iX dI
  cases hz : l.frozen with
  | true => simp
  | false =>
    simp only [Bool.not_false, cond_true, cond_false]
    rw [aCr h]; rfl
end Go.Am

end
section
namespace Go.Am

theorem aJe (l : aI) (n : Int) : aF n (aA.mk false false 0 0 false false false false) l.players = pl l n := rfl
def bE (l : aI) (x : aJ) : aI :=
  let p := pl l x.Player
  bif decide (x.Kind = 1) || decide (x.Kind = 2) then
    bif decide (x.Hour ≤ l.Field.Close) && !p.entered then
      aI.mk l.Field (cD x.Player (aA.mk true (decide (x.Kind = 2)) x.Rank (l.entered + 1) p.quit p.signed p.wild p.had) l.players) l.wilds l.frozen l.first l.late l.more (l.entered + 1)
    else aI.mk l.Field (cD x.Player p l.players) l.wilds l.frozen l.first l.late l.more l.entered
  else bif decide (x.Kind = 3) then
    bif ((decide (x.Hour ≤ l.Field.Freeze) && !p.wild) && !p.quit) && decide ((l.wilds.length : Int) < l.Field.Wilds) then
      aI.mk l.Field (cD x.Player (aA.mk p.entered p.guard p.rank p.turn p.quit p.signed true true) l.players) (l.wilds ++ [x.Player]) l.frozen l.first l.late l.more l.entered
    else aI.mk l.Field (cD x.Player p l.players) l.wilds l.frozen l.first l.late l.more l.entered
  else bif decide (x.Kind = 4) then
    aI.mk l.Field (cD x.Player (aA.mk p.entered p.guard p.rank p.turn true p.signed false p.had) l.players) (l.wilds.filter fun m => !decide (m = x.Player)) l.frozen l.first l.late
      (bif p.wild && decide (l.Field.Freeze < x.Hour) then l.more + 1 else l.more) l.entered
  else bif decide (x.Kind = 5) then
    aI.mk l.Field (cD x.Player (aA.mk p.entered p.guard p.rank p.turn p.quit true p.wild p.had) l.players) l.wilds l.frozen l.first l.late l.more l.entered
  else aI.mk l.Field (cD x.Player p l.players) l.wilds l.frozen l.first l.late l.more l.entered
theorem aMu (l : aI) (x : aJ) (he : 0 ≤ l.entered ∧ l.entered ≤ 60) (hm : 0 ≤ l.more ∧ l.more ≤ 60) (hw : l.wilds.length ≤ 1000) : iS l x = some (bE l x) := by
  have hd : cE l.wilds (fun y => eD y x) = some (l.wilds.filter fun m => !decide (m = x.Player)) := zS l.wilds _ (fun m => decide (m = x.Player)) (fun m _ => rfl) (by omega)
  have ha : app 8 l.wilds [x.Player] = some (l.wilds ++ [x.Player]) := rO (by simp; omega)
  have w1 : w64 (l.entered + 1) = l.entered + 1 := iE (by omega) (by omega)
  have w2 : w64 (l.more + 1) = l.more + 1 := iE (by omega) (by omega)
  unfold iS bE
  simp only [aJe, tA, Option.bind_some, hd, ha, w1, w2]
  by_cases h1 : x.Kind = 1
  · simp only [h1, decide_true, cond_true, Bool.true_or]
    cases decide (x.Hour ≤ l.Field.Close) && !(pl l x.Player).entered <;> rfl
  · by_cases h2 : x.Kind = 2
    · simp only [h2, decide_true, cond_true, Bool.or_true, show decide ((2 : Int) = 1) = false from rfl, cond_false]
      cases decide (x.Hour ≤ l.Field.Close) && !(pl l x.Player).entered <;> rfl
    · have e1 : decide (x.Kind = 1) = false := decide_eq_false h1
      have e2 : decide (x.Kind = 2) = false := decide_eq_false h2
      simp only [e1, e2, cond_false, Bool.or_self]
      cases decide (x.Kind = 3) with
      | true =>
        simp only [cond_true]
        cases ((decide (x.Hour ≤ l.Field.Freeze) && !(pl l x.Player).wild) && !(pl l x.Player).quit) && decide ((l.wilds.length : Int) < l.Field.Wilds) <;> rfl
      | false =>
        simp only [cond_false]
        cases decide (x.Kind = 4) with
        | true =>
          simp only [cond_true]
          cases (pl l x.Player).wild && decide (l.Field.Freeze < x.Hour) <;> rfl
        | false =>
          simp only [cond_false]
          cases decide (x.Kind = 5) <;> rfl

theorem xL {α β : Type} [DecidableEq α] (a : α) (v : β) : ∀ m : List (α × β), (cD a v m).map Prod.fst = if a ∈ m.map Prod.fst then m.map Prod.fst else m.map Prod.fst ++ [a]
  | [] => rfl
  | (b, u) :: m => by
    simp only [cD]
    by_cases h : a = b
    · subst h; simp
    · simp only [h, decide_false, cond_false, List.map_cons, xL a v m, List.mem_cons, false_or]
      split <;> simp
theorem aHq {α β : Type} [DecidableEq α] {a : α} {v : β} {m : List (α × β)} (h : (m.map Prod.fst).Nodup) : ((cD a v m).map Prod.fst).Nodup := by
  rw [xL]
  split
  · exact h
  · rename_i hn
    rw [List.nodup_append]
    exact ⟨h, by simp, fun x hx y hy => by simp at hy; subst hy; exact fun e => hn (e ▸ hx)⟩
theorem aKp {α β : Type} [DecidableEq α] (a : α) (v : β) (m : List (α × β)) : (cD a v m).length ≤ m.length + 1 := by
  have := congrArg List.length (xL a v m)
  rw [List.length_map] at this
  rw [this]
  split <;> simp
/-- The counts, after so many notices. -/
structure Cn (l : aI) (i : Nat) : Prop where
  pls : l.players.length ≤ i
  ent : l.entered ≤ i
  mr : l.more ≤ i
  wl : l.wilds.length ≤ i
/-- What a notice does to what is known of players. -/
def upP (l : aI) (x : aJ) : aA :=
  let p := pl l x.Player
  bif decide (x.Kind = 1) || decide (x.Kind = 2) then
    bif decide (x.Hour ≤ l.Field.Close) && !p.entered then aA.mk true (decide (x.Kind = 2)) x.Rank (l.entered + 1) p.quit p.signed p.wild p.had else p
  else bif decide (x.Kind = 3) then
    bif ((decide (x.Hour ≤ l.Field.Freeze) && !p.wild) && !p.quit) && decide ((l.wilds.length : Int) < l.Field.Wilds) then aA.mk p.entered p.guard p.rank p.turn p.quit p.signed true true else p
  else bif decide (x.Kind = 4) then aA.mk p.entered p.guard p.rank p.turn true p.signed false p.had
  else bif decide (x.Kind = 5) then aA.mk p.entered p.guard p.rank p.turn p.quit true p.wild p.had
  else p
theorem oG (l : aI) (x : aJ) : (bE l x).players = cD x.Player (upP l x) l.players := by
  unfold bE upP
  cases decide (x.Kind = 1) || decide (x.Kind = 2) with
  | true => simp only [cond_true]; cases decide (x.Hour ≤ l.Field.Close) && !(pl l x.Player).entered <;> rfl
  | false =>
    simp only [cond_false]
    cases decide (x.Kind = 3) with
    | true => simp only [cond_true]; cases ((decide (x.Hour ≤ l.Field.Freeze) && !(pl l x.Player).wild) && !(pl l x.Player).quit) && decide ((l.wilds.length : Int) < l.Field.Wilds) <;> rfl
    | false =>
      simp only [cond_false]
      cases decide (x.Kind = 4) with
      | true => rfl
      | false => simp only [cond_false]; cases decide (x.Kind = 5) <;> rfl
theorem lP (l : aI) (x : aJ) (n : Int) : pl (bE l x) n = bif decide (n = x.Player) then upP l x else pl l n := by
  unfold pl
  rw [oG, xK]
theorem jN (l : aI) (x : aJ) : (bE l x).Field = l.Field ∧ (bE l x).frozen = l.frozen ∧ (bE l x).first = l.first ∧ (bE l x).late = l.late := by
  unfold bE
  cases decide (x.Kind = 1) || decide (x.Kind = 2) with
  | true => simp only [cond_true]; cases decide (x.Hour ≤ l.Field.Close) && !(pl l x.Player).entered <;> exact ⟨rfl, rfl, rfl, rfl⟩
  | false =>
    simp only [cond_false]
    cases decide (x.Kind = 3) with
    | true => simp only [cond_true]; cases ((decide (x.Hour ≤ l.Field.Freeze) && !(pl l x.Player).wild) && !(pl l x.Player).quit) && decide ((l.wilds.length : Int) < l.Field.Wilds) <;> exact ⟨rfl, rfl, rfl, rfl⟩
    | false =>
      simp only [cond_false]
      cases decide (x.Kind = 4) with
      | true => exact ⟨rfl, rfl, rfl, rfl⟩
      | false => simp only [cond_false]; cases decide (x.Kind = 5) <;> exact ⟨rfl, rfl, rfl, rfl⟩
/-- Whether a notice enters its player. -/
def oT (l : aI) (x : aJ) : Bool := (decide (x.Kind = 1) || decide (x.Kind = 2)) && (decide (x.Hour ≤ l.Field.Close) && !(pl l x.Player).entered)
theorem aFg (l : aI) (x : aJ) : (bE l x).entered = (bif oT l x then l.entered + 1 else l.entered) ∧
    (oT l x = true → (upP l x).entered = true ∧ (upP l x).turn = l.entered + 1 ∧ (upP l x).rank = x.Rank ∧ (pl l x.Player).entered = false) ∧
    (oT l x = false → (upP l x).entered = (pl l x.Player).entered ∧ (upP l x).turn = (pl l x.Player).turn ∧ (upP l x).rank = (pl l x.Player).rank) := by
  unfold bE upP oT
  cases decide (x.Kind = 1) || decide (x.Kind = 2) with
  | true =>
    simp only [cond_true, Bool.true_and]
    cases h : decide (x.Hour ≤ l.Field.Close) && !(pl l x.Player).entered with
    | true =>
      simp only [Bool.and_eq_true, Bool.not_eq_true'] at h
      exact ⟨rfl, fun _ => ⟨rfl, rfl, rfl, h.2⟩, fun h => by cases h⟩
    | false => exact ⟨rfl, (fun h => by cases h), fun _ => ⟨rfl, rfl, rfl⟩⟩
  | false =>
    simp only [cond_false, Bool.false_and]
    cases decide (x.Kind = 3) with
    | true => simp only [cond_true]; cases ((decide (x.Hour ≤ l.Field.Freeze) && !(pl l x.Player).wild) && !(pl l x.Player).quit) && decide ((l.wilds.length : Int) < l.Field.Wilds) <;> exact ⟨rfl, (fun h => by cases h), fun _ => ⟨rfl, rfl, rfl⟩⟩
    | false =>
      simp only [cond_false]
      cases decide (x.Kind = 4) with
      | true => exact ⟨rfl, (fun h => by cases h), fun _ => ⟨rfl, rfl, rfl⟩⟩
      | false => simp only [cond_false]; cases decide (x.Kind = 5) <;> exact ⟨rfl, (fun h => by cases h), fun _ => ⟨rfl, rfl, rfl⟩⟩
theorem xW (l : aI) (x : aJ) : (l.more ≤ (bE l x).more ∧ (bE l x).more ≤ l.more + 1) ∧ (bE l x).wilds.length ≤ l.wilds.length + 1 := by
  have hf : (l.wilds.filter fun m => !decide (m = x.Player)).length ≤ l.wilds.length := List.length_filter_le _ _
  unfold bE
  cases decide (x.Kind = 1) || decide (x.Kind = 2) with
  | true => simp only [cond_true]; cases decide (x.Hour ≤ l.Field.Close) && !(pl l x.Player).entered <;> simp <;> omega
  | false =>
    simp only [cond_false]
    cases decide (x.Kind = 3) with
    | true => simp only [cond_true]; cases ((decide (x.Hour ≤ l.Field.Freeze) && !(pl l x.Player).wild) && !(pl l x.Player).quit) && decide ((l.wilds.length : Int) < l.Field.Wilds) <;> simp <;> omega
    | false =>
      simp only [cond_false]
      cases decide (x.Kind = 4) with
      | true => simp only [cond_true]; cases (pl l x.Player).wild && decide (l.Field.Freeze < x.Hour) <;> simp only [cond_true, cond_false] <;> omega
      | false => simp only [cond_false]; cases decide (x.Kind = 5) <;> simp <;> omega
theorem aMv {l : aI} {x : aJ} {i : Nat} (h : WF l) (hc : Cn l i) (hi : i < 60) (hx : gH x = true) : WF (bE l x) ∧ Cn (bE l x) (i + 1) := by
  obtain ⟨hF, _, _, _⟩ := jN l x
  obtain ⟨t1, t2, t3⟩ := aFg l x
  obtain ⟨m1, m2⟩ := xW l x
  have hent := h.ent
  have hmr := h.mr
  obtain ⟨c1, c2, c3, c4⟩ := hc
  have hpl : (bE l x).players.length ≤ i + 1 := by rw [oG]; have := aKp x.Player (upP l x) l.players; omega
  have hE : 0 ≤ (bE l x).entered ∧ (bE l x).entered ≤ (i : Int) + 1 ∧ l.entered ≤ (bE l x).entered := by rw [t1]; cases oT l x <;> simp only [cond_true, cond_false] <;> omega
  have hrank : oT l x = true → 0 ≤ x.Rank ∧ x.Rank ≤ 9999 := fun he => by
    unfold oT at he
    simp only [Bool.and_eq_true, Bool.or_eq_true, decide_eq_true_eq] at he
    unfold gH at hx
    simp only [Bool.and_eq_true] at hx
    rcases he.1 with h1 | h1
    · have := hx.2
      rw [h1] at this
      simpa [wi] using this
    · have := hx.2
      rw [h1] at this
      simp only [show decide ((2 : Int) = 1) = false from rfl, cond_false, decide_true, cond_true, vO] at this
      omega
  refine ⟨⟨by rw [hF]; exact h.fd, by rw [oG]; exact aHq h.keys, by omega, ⟨hE.1, by omega⟩, ⟨by omega, by omega⟩, fun n hn => ?_, fun n m hn hm he => ?_⟩, ⟨hpl, by omega, by omega, by omega⟩⟩
  · rw [lP] at hn ⊢
    by_cases hnx : n = x.Player
    · subst hnx
      simp only [decide_true, cond_true] at hn ⊢
      cases he : oT l x with
      | true =>
        obtain ⟨_, e2, e3, _⟩ := t2 he
        have := hrank he
        rw [t1, he, e2, e3]
        simp only [cond_true]
        omega
      | false =>
        obtain ⟨e1, e2, e3⟩ := t3 he
        rw [e1] at hn
        have := h.turn _ hn
        rw [e2, e3]
        omega
    · simp only [hnx, decide_false, cond_false] at hn ⊢
      have := h.turn _ hn
      omega
  · rw [lP] at hn hm
    rw [lP, lP] at he
    by_cases hnx : n = x.Player <;> by_cases hmx : m = x.Player
    · rw [hnx, hmx]
    · subst hnx
      simp only [decide_true, cond_true, hmx, decide_false, cond_false] at hn hm he
      cases hen : oT l x with
      | true =>
        have := h.turn _ hm
        have := (t2 hen).2.1
        omega
      | false =>
        obtain ⟨e1, e2, _⟩ := t3 hen
        rw [e1] at hn
        rw [e2] at he
        exact h.inj _ _ hn hm he
    · subst hmx
      simp only [decide_true, cond_true, hnx, decide_false, cond_false] at hn hm he
      cases hen : oT l x with
      | true =>
        have := h.turn _ hn
        have := (t2 hen).2.1
        omega
      | false =>
        obtain ⟨e1, e2, _⟩ := t3 hen
        rw [e1] at hm
        rw [e2] at he
        exact h.inj _ _ hn hm he
    · simp only [hnx, hmx, decide_false, cond_false] at hn hm he
      exact h.inj _ _ hn hm he
end Go.Am

end
section
namespace Go.Am

def wl (l : aI) (a b : List Int) : aI := aI.mk l.Field l.players l.wilds l.frozen a b l.more l.entered
theorem yK {l : aI} (h : WF l) (a b : List Int) : WF (wl l a b) := ⟨h.fd, h.keys, h.cnt, h.ent, h.mr, h.turn, h.inj⟩
/-- Who may get an open place. -/
def kK (l : aI) (inn : List Int) (n : Int) : Bool := ((pl l n).signed && !decide (n ∈ inn)) && (!(pl l n).guard || decide (((gd l inn : Nat) : Int) < l.Field.Guards))
theorem aKc (l : aI) (inn : List Int) (n : Int) (hb : inn.length ≤ 1000) : iW n l inn = some (kK l inn n) := by
  unfold iW kK
  rw [aJe, aCp l inn hb, uA inn (by omega) n]
  simp only [Option.bind_some, tA, sX]
theorem aDz (l : aI) (n : Int) : eM n l.players = some (!isE l.players n) := by
  unfold eM
  rw [sN]; rfl
def iF (l : aI) (first : List Int) : Nat → List Int → List Int
  | 0, late => late
  | k + 1, late => bif decide (((first ++ late).length : Int) < plc l) then (match (fH l).find? (kK l (first ++ late)) with
    | none => late
    | some n => iF l first k (late ++ [n])) else late
theorem vI {l : aI} (h : WF l) : 1 ≤ plc l ∧ plc l ≤ 92 := by
  have hf := h.fd
  unfold oO at hf
  simp only [Bool.and_eq_true, vO] at hf
  have hm := h.mr
  unfold plc
  omega
theorem aHj {α : Type} (p : α → Bool) (xs : List α) (hb : xs.length ≤ 1000) : (match xs.find? p with
    | none => iG p xs = -1
    | some n => 0 ≤ iG p xs ∧ idx xs (iG p xs) = some n) := by
  cases hf : xs.find? p with
  | none =>
    simp only
    unfold iG
    rw [if_neg]
    intro hl
    have h1 := List.findIdx_getElem (p := p) (w := hl)
    exact (List.find?_eq_none.1 hf) _ (List.getElem_mem hl) h1
  | some n =>
    simp only
    have hl : xs.findIdx p < xs.length := List.findIdx_lt_length_of_exists ⟨n, List.mem_of_find?_eq_some hf, List.find?_some hf⟩
    unfold iG
    rw [if_pos hl]
    refine ⟨by omega, ?_⟩
    rw [eY hl]
    rw [List.find?_eq_getElem?_findIdx, List.getElem?_eq_getElem hl] at hf
    exact hf
theorem aMf {l : aI} (h : WF l) (hfz : l.frozen = true) (first : List Int) : ∀ (d : Nat) (late : List Int) (k K : Nat), (plc l - ((first ++ late).length : Int)).toNat ≤ d → d < K → d ≤ k → (first ++ late).length ≤ 500 →
    gN l.players l.wilds first K late l.Field l.frozen l.more l.entered (first ++ late) = some (wl l first (iF l first k late)) := by
  intro d
  induction d with
  | zero =>
    intro late k K hd hK hk hb
    obtain ⟨K, rfl⟩ : ∃ q, K = q + 1 := ⟨K - 1, by omega⟩
    have hlt : decide (((first ++ late).length : Int) < plc l) = false := decide_eq_false (by omega)
    have hp : eC (aI.mk l.Field l.players l.wilds l.frozen first late l.more l.entered) = some (plc l) := uG (yK h first late)
    have hg : iF l first k late = late := by
      cases k with
      | zero => rfl
      | succ k => simp only [iF, hlt, cond_false]
    simp only [gN, hp, Option.bind_some, hlt, cond_false, lT, hg]
    rfl
  | succ d ih =>
    intro late k K hd hK hk hb
    obtain ⟨K, rfl⟩ : ∃ q, K = q + 1 := ⟨K - 1, by omega⟩
    obtain ⟨k, rfl⟩ : ∃ q, k = q + 1 := ⟨k - 1, by omega⟩
    have hp : eC (aI.mk l.Field l.players l.wilds l.frozen first late l.more l.entered) = some (plc l) := uG (yK h first late)
    have hen : eJ (aI.mk l.Field l.players l.wilds l.frozen first late l.more l.entered) = some (fH l) := sM (yK h first late)
    have hix : fU (fH l) (fun y => iW y (aI.mk l.Field l.players l.wilds l.frozen first late l.more l.entered) (first ++ late)) = some (iG (kK l (first ++ late)) (fH l)) :=
      aEf (fH l) _ (kK l (first ++ late)) (fun n _ => aKc (wl l first late) (first ++ late) n (by omega)) (by have := pI h; omega)
    have hfi := aHj (kK l (first ++ late)) (fH l) (by have := pI h; omega)
    simp only [gN, hp, Option.bind_some, iF]
    cases hlt : decide (((first ++ late).length : Int) < plc l) with
    | false =>
      simp only [cond_false, lT]
      rfl
    | true =>
      simp only [cond_true, hen, Option.bind_some, hix]
      have hlt' : ((first ++ late).length : Int) < plc l := by simpa using hlt
      have hp92 := vI h
      cases hf : (fH l).find? (kK l (first ++ late)) with
      | none =>
        rw [hf] at hfi
        simp only at hfi
        rw [hfi]
        rfl
      | some n =>
        rw [hf] at hfi
        simp only at hfi
        rw [decide_eq_false (by omega), cond_false, hfi.2]
        simp only [Option.bind_some]
        have hbl : late.length ≤ 500 := by simp at hb; omega
        rw [rO (by simp; omega)]
        simp only [Option.bind_some]
        have hm : dM (aI.mk l.Field l.players l.wilds l.frozen first (late ++ [n]) l.more l.entered) = some (first ++ (late ++ [n])) := by
          have := aBm (yK h first (late ++ [n])) (show first.length ≤ 1000 by simp at hb; omega) (show (late ++ [n]).length ≤ 1000 by simp; omega)
          rw [show (aI.mk l.Field l.players l.wilds l.frozen first (late ++ [n]) l.more l.entered) = wl l first (late ++ [n]) from rfl, this]
          unfold bR
          rw [show (wl l first (late ++ [n])).frozen = l.frozen from rfl, hfz]
          rfl
        rw [hm]
        simp only [Option.bind_some]
        refine ih (late ++ [n]) k K ?_ (by omega) (by omega) ?_
        · simp only [List.length_append, List.length_cons, List.length_nil] at hd hlt' ⊢
          omega
        · simp only [List.length_append, List.length_cons, List.length_nil] at hb hlt' ⊢
          omega
def kO (l : aI) : aI := wl l (l.first.filter fun n => isE l.players n) (iF l (l.first.filter fun n => isE l.players n) 100 (l.late.filter fun n => isE l.players n))
theorem aMg {l : aI} (h : WF l) (hfz : l.frozen = true) (hb : (l.first ++ l.late).length ≤ 200) : iR l = some (kO l) := by
  have hb' : l.first.length + l.late.length ≤ 200 := by simpa using hb
  have d1 : cE l.first (fun y => eM y l.players) = some (l.first.filter fun n => isE l.players n) := by
    rw [zS l.first _ (fun n => !isE l.players n) (fun n _ => aDz l n) (by omega)]
    simp
  have d2 : cE l.late (fun y => eM y l.players) = some (l.late.filter fun n => isE l.players n) := by
    rw [zS l.late _ (fun n => !isE l.players n) (fun n _ => aDz l n) (by omega)]
    simp
  have f1 : (l.first.filter fun n => isE l.players n).length ≤ l.first.length := List.length_filter_le _ _
  have f2 : (l.late.filter fun n => isE l.players n).length ≤ l.late.length := List.length_filter_le _ _
  have hm := aBm (yK h (l.first.filter fun n => isE l.players n) (l.late.filter fun n => isE l.players n)) (show (l.first.filter fun n => isE l.players n).length ≤ 1000 by omega) (show (l.late.filter fun n => isE l.players n).length ≤ 1000 by omega)
  unfold iR kO
  rw [d1, Option.bind_some, d2, Option.bind_some]
  rw [show (aI.mk l.Field l.players l.wilds l.frozen (l.first.filter fun n => isE l.players n) (l.late.filter fun n => isE l.players n) l.more l.entered) = wl l (l.first.filter fun n => isE l.players n) (l.late.filter fun n => isE l.players n) from rfl, hm, Option.bind_some]
  unfold bR
  rw [show (wl l (l.first.filter fun n => isE l.players n) (l.late.filter fun n => isE l.players n)).frozen = l.frozen from rfl]
  rw [show (bif l.frozen then (wl l (l.first.filter fun n => isE l.players n) (l.late.filter fun n => isE l.players n)).first ++ (wl l (l.first.filter fun n => isE l.players n) (l.late.filter fun n => isE l.players n)).late else kA (wl l (l.first.filter fun n => isE l.players n) (l.late.filter fun n => isE l.players n))) = (l.first.filter fun n => isE l.players n) ++ (l.late.filter fun n => isE l.players n) by rw [hfz]; rfl]
  have hp := vI h
  exact aMf h hfz _ 100 _ 100 BIG (by omega) (gD (by omega)) (Nat.le_refl _) (by simp only [List.length_append]; omega)
theorem aCg {l : aI} (h : WF l) (first : List Int) : ∀ (k : Nat) (late : List Int), (first ++ iF l first k late).length ≤ max (first ++ late).length 92
  | 0, late => by simp only [iF]; omega
  | k + 1, late => by
    have hp := vI h
    simp only [iF]
    cases hlt : decide (((first ++ late).length : Int) < plc l) with
    | false => simp only [cond_false]; omega
    | true =>
      simp only [cond_true]
      have hlt' : ((first ++ late).length : Int) < plc l := by simpa using hlt
      cases (fH l).find? (kK l (first ++ late)) with
      | none => simp only; omega
      | some n =>
        simp only
        have := aCg h first k (late ++ [n])
        simp only [List.length_append, List.length_cons, List.length_nil] at this hlt' ⊢
        omega

/-! ### After the notices of an hour -/
/-- One more notice. -/
def bX (l : aI) (x : aJ) : aI :=
  let l2 := bE (bif decide (l.Field.Freeze < x.Hour) then dI l else l) x
  bif l2.frozen then kO l2 else l2
structure fA (f : aS) (l : aI) (i : Nat) : Prop where
  wf : WF l
  cn : Cn l i
  fd : l.Field = f
  len : (l.first ++ l.late).length ≤ 92
  fz : l.frozen = false → l.first = [] ∧ l.late = []
theorem lW {f : aS} {l : aI} {i : Nat} (h : fA f l i) : fA f (dI l) i := by
  unfold dI
  cases hz : l.frozen with
  | true => exact h
  | false =>
    obtain ⟨_, hlate⟩ := h.fz hz
    simp only [cond_false]
    refine ⟨⟨h.wf.fd, h.wf.keys, h.wf.cnt, h.wf.ent, h.wf.mr, h.wf.turn, h.wf.inj⟩, ⟨h.cn.pls, h.cn.ent, h.cn.mr, h.cn.wl⟩, h.fd, ?_, fun h => by cases h⟩
    show (kA l ++ l.late).length ≤ 92
    have h1 := zJ l (fH l) []
    have h2 := pI h.wf
    rw [hlate]
    simp only [List.append_nil]
    unfold kA
    simp only [List.length_nil] at h1
    omega
theorem pR {f : aS} {l : aI} {x : aJ} {i : Nat} (h : fA f l i) (hi : i < 60) (hx : gH x = true) : fA f (bE l x) (i + 1) := by
  obtain ⟨h1, h2⟩ := aMv h.wf h.cn hi hx
  obtain ⟨g1, g2, g3, g4⟩ := jN l x
  exact ⟨h1, h2, by rw [g1]; exact h.fd, by rw [g3, g4]; exact h.len, fun hz => by rw [g2] at hz; rw [g3, g4]; exact h.fz hz⟩
theorem aCh {f : aS} {l : aI} {i : Nat} (h : fA f l i) (hz : l.frozen = true) : fA f (kO l) i := by
  have hl : l.first.length + l.late.length ≤ 92 := by have := h.len; simpa using this
  have f1 : (l.first.filter fun n => isE l.players n).length ≤ l.first.length := List.length_filter_le _ _
  have f2 : (l.late.filter fun n => isE l.players n).length ≤ l.late.length := List.length_filter_le _ _
  refine ⟨yK h.wf _ _, ⟨h.cn.pls, h.cn.ent, h.cn.mr, h.cn.wl⟩, h.fd, ?_, fun hf => ?_⟩
  · have := aCg h.wf (l.first.filter fun n => isE l.players n) 100 (l.late.filter fun n => isE l.players n)
    simp only [List.length_append] at this
    show ((l.first.filter fun n => isE l.players n) ++ iF l (l.first.filter fun n => isE l.players n) 100 (l.late.filter fun n => isE l.players n)).length ≤ 92
    simp only [List.length_append]
    omega
  · have : l.frozen = false := hf
    rw [hz] at this; cases this
theorem mK {f : aS} {l : aI} {x : aJ} {i : Nat} (h : fA f l i) (hi : i < 60) (hx : gH x = true) : fA f (bX l x) (i + 1) := by
  unfold bX
  have h1 : fA f (bif decide (l.Field.Freeze < x.Hour) then dI l else l) i := by
    cases decide (l.Field.Freeze < x.Hour) with
    | true => exact lW h
    | false => exact h
  have h2 := pR h1 hi hx
  simp only
  cases hz : (bE (bif decide (l.Field.Freeze < x.Hour) then dI l else l) x).frozen with
  | true => exact aCh h2 hz
  | false => exact h2
def dN (f : aS) : aI := aI.mk f [] [] false [] [] 0 0
theorem jO {f : aS} (hf : oO f = true) : fA f (dN f) 0 :=
  ⟨⟨hf, .nil, by simp [dN], ⟨Int.le_refl _, by simp [dN]⟩, ⟨Int.le_refl _, by simp [dN]⟩, fun n h => by simp [pl, dN, aF] at h, fun n m h => by simp [pl, dN, aF] at h⟩, ⟨by simp [dN], by simp [dN], by simp [dN], by simp [dN]⟩, rfl, by simp [dN], fun _ => ⟨rfl, rfl⟩⟩
/-- The notices of an hour and before. -/
def pN (hour : Int) (l : aI) : List aJ → aI
  | [] => l
  | x :: t => bif decide (hour < x.Hour) then l else pN hour (bX l x) t
def mN (hour : Int) (l : aI) : aI := bif decide (l.Field.Freeze < hour) then dI l else l
theorem tU {f : aS} (hour : Int) : ∀ (t : List aJ) (l : aI) (i : Nat), fA f l i → i + t.length ≤ 60 → (∀ x ∈ t, gH x = true) → ∃ j, j ≤ 60 ∧ fA f (pN hour l t) j
  | [], l, i, h, hi, _ => ⟨i, by simpa using hi, h⟩
  | x :: t, l, i, h, hi, hx => by
    simp only [pN]
    cases decide (hour < x.Hour) with
    | true => exact ⟨i, by simp at hi; omega, h⟩
    | false =>
      simp only [List.length_cons] at hi
      exact tU hour t _ (i + 1) (mK h (by omega) (hx x (by simp))) (by omega) fun y hy => hx y (by simp [hy])
def bA (f : aS) (l : List aJ) (hour : Int) : aI := mN hour (pN hour (dN f) (dH l))
theorem aJv {f : aS} (T : List aJ) (hT : ∀ x ∈ T, gH x = true) (hl : T.length ≤ 60) (hour : Int) : ∀ (d i k : Nat) (l : aI), T.length - i = d → d < k → i ≤ T.length → fA f l i →
    eS hour (T.length : Int) f T k (i : Int) l.players l.wilds l.first l.late l.Field l.frozen l.more l.entered = some (some (mN hour (pN hour l (T.drop i)))) := by
  have hend : ∀ {l : aI} {i : Nat}, fA f l i → kW hour f l.players l.wilds l.first l.late l.Field l.frozen l.more l.entered = some (some (mN hour l)) := by
    intro l i h
    unfold kW mN
    rw [h.fd]
    cases decide (f.Freeze < hour) with
    | true =>
      simp only [cond_true]
      have := aCo h.wf
      rw [show (aI.mk f l.players l.wilds l.frozen l.first l.late l.more l.entered) = l by rw [← h.fd], this]
      rfl
    | false =>
      simp only [cond_false]
      rw [show (aI.mk f l.players l.wilds l.frozen l.first l.late l.more l.entered) = l by rw [← h.fd]]
  intro d
  induction d with
  | zero =>
    intro i k l hd hk hi h
    obtain ⟨k, rfl⟩ : ∃ q, k = q + 1 := ⟨k - 1, by omega⟩
    have : i = T.length := by omega
    subst this
    simp only [eS, Int.lt_irrefl, decide_false, cond_false, List.drop_length, pN]
    exact hend h
  | succ d ih =>
    intro i k l hd hk hi h
    obtain ⟨k, rfl⟩ : ∃ q, k = q + 1 := ⟨k - 1, by omega⟩
    have hil : i < T.length := by omega
    have hlt : decide ((i : Int) < (T.length : Int)) = true := decide_eq_true (by omega)
    have hw : w64 ((i : Int) + 1) = ((i + 1 : Nat) : Int) := dQ (by omega)
    have hx : gH T[i] = true := hT _ (List.getElem_mem hil)
    rw [List.drop_eq_getElem_cons hil, pN]
    simp only [eS, hlt, cond_true, eY hil, Option.bind_some, hw]
    cases decide (hour < T[i].Hour) with
    | true => simp only [cond_true]; exact hend h
    | false =>
      simp only [cond_false]
      have hmk : (aI.mk l.Field l.players l.wilds l.frozen l.first l.late l.more l.entered) = l := rfl
      have goon : ∀ (l1 : aI), fA f l1 i → ((iS l1 T[i]).bind fun r25 =>
          bif r25.frozen then ((iR r25).bind fun r31 =>
          (eS hour (T.length : Int) f T k) ((i + 1 : Nat) : Int) r31.players r31.wilds r31.first r31.late r31.Field r31.frozen r31.more r31.entered)
          else ((eS hour (T.length : Int) f T k) ((i + 1 : Nat) : Int) r25.players r25.wilds r25.first r25.late r25.Field r25.frozen r25.more r25.entered)) =
          some (some (mN hour (pN hour (bif (bE l1 T[i]).frozen then kO (bE l1 T[i]) else bE l1 T[i]) (T.drop (i + 1))))) := by
        intro l1 h1
        have hwl := h1.cn.wl
        rw [aMu l1 T[i] h1.wf.ent h1.wf.mr (by omega)]
        simp only [Option.bind_some]
        have h2 := pR h1 (by omega) hx
        cases hz : (bE l1 T[i]).frozen with
        | true =>
          simp only [cond_true]
          rw [aMg h2.wf hz (by have := h2.len; omega)]
          simp only [Option.bind_some]
          exact ih (i + 1) k _ (by omega) (by omega) (by omega) (aCh h2 hz)
        | false =>
          simp only [cond_false]
          have := ih (i + 1) k _ (by omega) (by omega) (by omega) h2
          rw [hz] at this
          exact this
      unfold bX
      rw [h.fd]
      cases decide (f.Freeze < T[i].Hour) with
      | true =>
        simp only [cond_true]
        have hfz := aCo h.wf
        rw [show (aI.mk f l.players l.wilds l.frozen l.first l.late l.more l.entered) = l by rw [← h.fd], hfz]
        simp only [Option.bind_some]
        exact goon (dI l) (lW h)
      | false =>
        simp only [cond_false]
        rw [show (aI.mk f l.players l.wilds l.frozen l.first l.late l.more l.entered) = l by rw [← h.fd]]
        exact goon l h
theorem qN (l : List aJ) : (dH l).length ≤ l.length := by
  unfold dH
  have h1 := (iD (fun a b => dS a b) l).length_eq
  rw [← h1]
  cases dG (fun a b => dS a b) l with
  | nil => simp [nU]
  | cons p t => simp only [nU, List.length_cons]; have := (aKm p t).length_le; omega
theorem aDo {f : aS} {l : List aJ} (h : VL f l) (hour : Int) : nG f l hour = some (some (bA f l hour)) := by
  have hb : ∀ x ∈ l, bN x := fun x hx => zR (h.nt x hx)
  obtain ⟨e1, e2⟩ := aNf h.len hb h.id
  have hT := qN l
  have hlen := h.len
  unfold nG iU
  rw [Option.bind_some, e1, Option.bind_some, e2, Option.bind_some]
  exact aJv (dH l) (fun x hx => h.nt x ((gW x).1 hx)) (by omega) hour _ 0 BIG (dN f) rfl (gD (by omega)) (Nat.zero_le _) (jO h.fd)
theorem sI {f : aS} {l : List aJ} (h : VL f l) (hour : Int) : ∃ j, j ≤ 60 ∧ fA f (bA f l hour) j := by
  have hT := qN l
  have hlen := h.len
  obtain ⟨j, hj, hg⟩ := tU hour (dH l) (dN f) 0 (jO h.fd) (by omega) fun x hx => h.nt x ((gW x).1 hx)
  refine ⟨j, hj, ?_⟩
  unfold bA mN
  cases decide ((pN hour (dN f) (dH l)).Field.Freeze < hour) with
  | true => exact lW hg
  | false => exact hg
end Go.Am

end
section
namespace Go.Am

theorem zK (l : aI) : ∀ (t acc : List Int) {n : Int}, n ∈ kF l acc t → n ∈ acc ∨ n ∈ t
  | [], acc, n, h => .inl h
  | m :: t, acc, n, h => by
    rcases zK l t _ h with h1 | h1
    · cases hc : decide ((acc.length : Int) < plc l) && (!(pl l m).guard || decide (((gd l acc : Nat) : Int) < l.Field.Guards)) with
      | true =>
        rw [hc] at h1
        simp only [cond_true, List.mem_append, List.mem_singleton] at h1
        rcases h1 with h1 | h1
        · exact .inl h1
        · exact .inr (by simp [h1])
      | false =>
        rw [hc] at h1
        exact .inl h1
    · exact .inr (by simp [h1])
theorem pQ {f : aS} {l : aI} {i : Nat} (h : fA f l i) : (bR l).length ≤ 92 := by
  unfold bR
  cases l.frozen with
  | true => exact h.len
  | false =>
    simp only [cond_false]
    have h1 := zJ l (fH l) []
    have h2 := pI h.wf
    unfold kA
    simp only [List.length_nil] at h1
    omega
theorem zM {f : aS} {l : aI} {i : Nat} (h : fA f l i) : dM l = some (bR l) := by
  have := h.len
  simp only [List.length_append] at this
  exact aBm h.wf (by omega) (by omega)
/-- The alternates. -/
def jQ (l : aI) : List Int := (fH l).filter fun n => !decide (n ∈ bR l)
theorem aJc {f : aS} {l : aI} {i : Nat} (h : fA f l i) : gS l = some (jQ l) := by
  have hm := pQ h
  unfold gS jQ
  rw [zM h, Option.bind_some, sM h.wf, Option.bind_some]
  rw [zS (fH l) _ (fun n => decide (n ∈ bR l)) (fun n _ => by unfold jE; rw [uA _ (by omega)]; rfl) (by have := pI h.wf; omega)]
  rfl
theorem aBr (f : aS) (l : List aJ) (hour player : Int) : mV f l hour player = some (bif !decide (sL f l = 0) then (none, sL f l) else bif !wi hour 0 9999 || !wi player 0 999 then (none, 1) else (some (bA f l hour), 0)) := by
  unfold mV
  rw [aIm, Option.bind_some]
  cases hc : decide (sL f l = 0) with
  | false => rfl
  | true =>
    simp only [Bool.not_true, cond_false, aBg, Option.bind_some, sX]
    cases !wi hour 0 9999 || !wi player 0 999 with
    | true => rfl
    | false =>
      simp only [cond_false]
      rw [aDo (oI.1 (by simpa using hc)) hour]
      rfl
/-- What List answers. -/
def eO (f : aS) (l : List aJ) (hour : Int) : cU :=
  cU.mk (bR (bA f l hour)) (bA f l hour).wilds (jQ (bA f l hour)) (plc (bA f l hour) - ((bR (bA f l hour)).length : Int))
theorem aGb {f : aS} {l : List aJ} (h : VL f l) {hour : Int} (hh : wi hour 0 9999 = true) : mO f l hour = some (eO f l hour, 0) := by
  obtain ⟨i, hi, hg⟩ := sI h hour
  have hm := pQ hg
  have hp := vI hg.wf
  unfold mO eO
  rw [aBr, oI.2 h, hh]
  simp only [decide_true, Bool.not_true, cond_false, show wi 0 0 999 = true from rfl, Bool.or_self, Option.bind_some]
  rw [zM hg, Option.bind_some, aJc hg, Option.bind_some, uG hg.wf, Option.bind_some, iE (by omega) (by omega)]

/-! ### The order of the notices does not matter. -/
end Go.Am

end
section
namespace Go.Am

def qM (a b c : List Int) (p : Int) : Int × Int :=
  bif decide (0 ≤ iG (fun x => decide (p = x)) a) then (1, iG (fun x => decide (p = x)) a + 1)
  else bif decide (0 ≤ iG (fun x => decide (p = x)) b) then (2, iG (fun x => decide (p = x)) b + 1)
  else bif decide (0 ≤ iG (fun x => decide (p = x)) c) then (3, iG (fun x => decide (p = x)) c + 1)
  else (0, 0)
theorem uQ {α : Type} (p : α → Bool) (xs : List α) : -1 ≤ iG p xs ∧ iG p xs ≤ xs.length := by
  unfold iG
  split <;> omega
theorem aLd (a b c : List Int) (p : Int) (ha : a.length ≤ 1000) (hb : b.length ≤ 1000) (hc : c.length ≤ 1000) : iA p [a, b, c] 3 BIG 0 = some (qM a b c p) := by
  obtain ⟨k, hk⟩ : ∃ k, BIG = k + 1 + 1 + 1 + 1 := ⟨BIG - 4, by unfold BIG; omega⟩
  have i1 := aEw a p (by omega)
  have i2 := aEw b p (by omega)
  have i3 := aEw c p (by omega)
  have r1 := uQ (fun x => decide (p = x)) a
  have r2 := uQ (fun x => decide (p = x)) b
  have r3 := uQ (fun x => decide (p = x)) c
  rw [hk]
  unfold qM
  simp only [iA, nN, show decide ((0 : Int) < 3) = true from rfl, cond_true, show idx [a, b, c] 0 = some a from rfl, Option.bind_some, show w64 (0 + 1) = 1 from rfl, show decide ((1 : Int) < 3) = true from rfl, show idx [a, b, c] 1 = some b from rfl, show w64 (1 + 1) = 2 from rfl, show decide ((2 : Int) < 3) = true from rfl, show idx [a, b, c] 2 = some c from rfl, show w64 (2 + 1) = 3 from rfl, show decide ((3 : Int) < 3) = false from rfl, cond_false, i1, i2, i3]
  rw [iE (by omega) (by omega), iE (by omega) (by omega), iE (by omega) (by omega)]
  cases decide (0 ≤ iG (fun x => decide (p = x)) a) <;> cases decide (0 ≤ iG (fun x => decide (p = x)) b) <;> cases decide (0 ≤ iG (fun x => decide (p = x)) c) <;> rfl
def sA (l : aI) (p : Int) : Int × Int := qM (bR l) l.wilds (jQ l) p
theorem aEt {l : aI} (h : WF l) : (jQ l).length ≤ 60 := Nat.le_trans (List.length_filter_le _ _) (pI h)
theorem aFe {f : aS} {l : aI} {i : Nat} (h : fA f l i) (hi : i ≤ 60) (p : Int) : jF l p = some (sA l p) := by
  have hm := pQ h
  have ho := aEt h.wf
  have hw := h.cn.wl
  unfold jF sA
  rw [zM h, Option.bind_some, aJc h, Option.bind_some]
  exact aLd _ _ _ p (by omega) (by omega) (by omega)
/-! ### The entries by an insertion sort. -/
def wB (l : aI) (n : Int) : List Int → List Int
  | [] => [n]
  | m :: t => bif decide (gG l n < gG l m) then n :: m :: t else m :: wB l n t
theorem xG (l : aI) (n : Int) : ∀ t : List Int, (wB l n t).Perm (n :: t)
  | [] => .refl _
  | m :: t => by
    simp only [wB]
    cases decide (gG l n < gG l m) with
    | true => exact .refl _
    | false => exact ((xG l n t).cons m).trans (.swap _ _ _)
theorem yR (l : aI) (n : Int) : ∀ t : List Int, t.Pairwise (fun a b => gG l a < gG l b) → (∀ m ∈ t, gG l m ≠ gG l n) → (wB l n t).Pairwise fun a b => gG l a < gG l b
  | [], _, _ => List.pairwise_singleton _ _
  | m :: t, hs, hne => by
    have h1 := List.pairwise_cons.1 hs
    simp only [wB]
    cases hc : decide (gG l n < gG l m) with
    | true =>
      simp only [decide_eq_true_eq] at hc
      refine List.pairwise_cons.2 ⟨fun b hb => ?_, hs⟩
      rcases List.mem_cons.1 hb with rfl | hb
      · exact hc
      · exact Int.lt_trans hc (h1.1 b hb)
    | false =>
      simp only [decide_eq_false_iff_not] at hc
      refine List.pairwise_cons.2 ⟨fun b hb => ?_, yR l n t h1.2 fun x hx => hne x (by simp [hx])⟩
      rcases List.mem_cons.1 ((xG l n t).mem_iff.1 hb) with rfl | hb
      · have := hne m (by simp); omega
      · exact h1.1 b hb
def aHf (l : aI) : List Int := (oP l).foldr (wB l) []
theorem wX (l : aI) : ∀ t : List Int, (t.foldr (wB l) []).Perm t
  | [] => .refl _
  | n :: t => (xG l n _).trans ((wX l t).cons n)
theorem uC {l : aI} (h : WF l) : fH l = aHf l := by
  have hn : (oP l).Nodup := by
    unfold oP
    exact h.keys.sublist ((List.filter_sublist).map _)
  have hs : ∀ t : List Int, t.Nodup → (∀ n ∈ t, (pl l n).entered = true) → (t.foldr (wB l) []).Pairwise fun a b => gG l a < gG l b := by
    intro t
    induction t with
    | nil => intro _ _; exact .nil
    | cons n t ih =>
      intro hn he
      have h1 := List.nodup_cons.1 hn
      refine yR l n _ (ih h1.2 fun m hm => he m (by simp [hm])) fun m hm e => ?_
      have hmt := (wX l t).mem_iff.1 hm
      have := zH h (he m (by simp [hmt])) (he n (by simp)) e
      subst this
      exact h1.1 hmt
  refine nF (key := gG l) (oS h) (hs (oP l) hn fun n hm => tR hm) fun n => ?_
  rw [qS]
  show isE l.players n = true ↔ n ∈ (oP l).foldr (wB l) []
  rw [(wX l (oP l)).mem_iff, wD]
def yE (l : aI) : List Int := kF l [] (aHf l)
theorem aAj {l : aI} (h : WF l) : kA l = yE l := by
  unfold kA yE
  rw [uC h]
def sO (l : aI) : List Int := bif l.frozen then l.first ++ l.late else yE l
theorem zL {l : aI} (h : WF l) : bR l = sO l := by
  unfold bR sO
  rw [aAj h]
def xO (l : aI) : List Int := (aHf l).filter fun n => !decide (n ∈ sO l)
theorem aGr {l : aI} (h : WF l) : jQ l = xO l := by
  unfold jQ xO
  rw [zL h, uC h]
def vD (l : aI) : aI := bif l.frozen then l else { l with frozen := true, first := yE l }
theorem aAd {l : aI} (h : WF l) : dI l = vD l := by
  unfold dI vD
  rw [aAj h]
def zZ (l : aI) (es : List Int) (first : List Int) : Nat → List Int → List Int
  | 0, late => late
  | k + 1, late => bif decide (((first ++ late).length : Int) < plc l) then (match es.find? (kK l (first ++ late)) with
    | none => late
    | some n => zZ l es first k (late ++ [n])) else late
theorem aCc {l : aI} (first : List Int) : ∀ (k : Nat) (late : List Int), iF l first k late = zZ l (fH l) first k late
  | 0, _ => rfl
  | k + 1, late => by
    simp only [iF, zZ]
    cases (fH l).find? (kK l (first ++ late)) with
    | none => rfl
    | some n => simp only; rw [aCc first k (late ++ [n])]
def aHi (l : aI) : aI := wl l (l.first.filter fun n => isE l.players n) (zZ l (aHf l) (l.first.filter fun n => isE l.players n) 100 (l.late.filter fun n => isE l.players n))
theorem aKd {l : aI} (h : WF l) : kO l = aHi l := by
  unfold kO aHi
  rw [aCc, uC h]
def aIa (l : aI) (x : aJ) : aI :=
  let l2 := bE (bif decide (l.Field.Freeze < x.Hour) then vD l else l) x
  bif l2.frozen then aHi l2 else l2
theorem aLe {f : aS} {l : aI} {x : aJ} {i : Nat} (h : fA f l i) (hi : i < 60) (hx : gH x = true) : bX l x = aIa l x := by
  have h1 : fA f (bif decide (l.Field.Freeze < x.Hour) then dI l else l) i := by
    cases decide (l.Field.Freeze < x.Hour) with
    | true => exact lW h
    | false => exact h
  have h2 := pR h1 hi hx
  have e1 : (bif decide (l.Field.Freeze < x.Hour) then dI l else l) = bif decide (l.Field.Freeze < x.Hour) then vD l else l := by rw [aAd h.wf]
  unfold bX aIa
  simp only
  rw [e1] at h2 ⊢
  rw [aKd h2.wf]
def aEy (hour : Int) (l : aI) : List aJ → aI
  | [] => l
  | x :: t => bif decide (hour < x.Hour) then l else aEy hour (aIa l x) t
theorem aGv {f : aS} (hour : Int) : ∀ (t : List aJ) (l : aI) (i : Nat), fA f l i → i + t.length ≤ 60 → (∀ x ∈ t, gH x = true) → pN hour l t = aEy hour l t
  | [], _, _, _, _, _ => rfl
  | x :: t, l, i, h, hi, hx => by
    simp only [List.length_cons] at hi
    simp only [pN, aEy]
    rw [← aLe h (by omega) (hx x (by simp)), aGv hour t _ (i + 1) (mK h (by omega) (hx x (by simp))) (by omega) fun y hy => hx y (by simp [hy])]
def aJy (hour : Int) (l : aI) : aI := bif decide (l.Field.Freeze < hour) then vD l else l
theorem aIe {f : aS} {l : List aJ} (h : VL f l) (hs : l.Pairwise fun x y => eI x < eI y) (hour : Int) : bA f l hour = aJy hour (aEy hour (dN f) l) := by
  have hb : ∀ x ∈ l, bN x := fun x hx => zR (h.nt x hx)
  have ht : dH l = l := nF (pH hb h.id) hs fun x => gW x
  have hlen := h.len
  obtain ⟨j, hj, hg⟩ := tU hour l (dN f) 0 (jO h.fd) (by omega) h.nt
  unfold bA mN aJy
  rw [ht, aAd hg.wf, aGv hour l (dN f) 0 (jO h.fd) (by omega) h.nt]
end Go.Am

end
section
namespace Go.Am

/-- What is left of a row when equal neighbours are one. -/
def nS (p : Int) : List Int → List Int
  | [] => []
  | y :: t => if y = p then nS p t else y :: nS y t
def nV : List Int → List Int
  | [] => []
  | x :: t => x :: nS x t
theorem aFm (again : Int → List Int → Option (List Int)) {k0 : Nat} : ∀ (t : List Int) (p : Int) (W X : List Int) (k2 k : Nat), 1 ≤ k2 → W.length + X.length + 1 = k0 + k2 → k0 ≤ W.length → (W ++ X ++ p :: t).length < 4611686018427387904 → t.length < k →
    eL again (k0 : Nat) k (W.length : Nat) (k2 : Nat) (W ++ X ++ p :: t) = some (W ++ nS p t) := by
  intro t
  induction t with
  | nil =>
    intro p W X k2 k h1 h2 h3 hb hk
    obtain ⟨k, rfl⟩ : ∃ q, k = q + 1 := ⟨k - 1, by omega⟩
    simp only [List.length_append, List.length_cons, List.length_nil] at hb
    have t0 : ((k0 : Nat) : Int).toNat = k0 := rfl
    have t1 : ((W.length : Nat) : Int).toNat = W.length := rfl
    have hlt : decide ((k2 : Int) < (((W ++ X ++ [p]).drop k0).length : Int)) = false := decide_eq_false (by simp; omega)
    have c1 : (decide ((0 : Int) ≤ (W.length : Int)) && decide ((W.length : Int) ≤ ((W ++ X ++ [p]).length : Int))) = true := by simp; omega
    have c2 : decide (W.length ≤ (W ++ X ++ [p]).length) = true := by simp
    have c3 : decide ((0 : Int) ≤ (W.length : Int)) = true := by simp
    simp only [eL, t0, hlt, cond_false, mG]
    rw [c1, t1, c2, c3]
    simp [chk, nS]
  | cons y t ih =>
    intro p W X k2 k h1 h2 h3 hb hk
    obtain ⟨k, rfl⟩ : ∃ q, k = q + 1 := ⟨k - 1, by omega⟩
    simp only [List.length_append, List.length_cons] at hb hk
    have t0 : ((k0 : Nat) : Int).toNat = k0 := rfl
    have t1 : ((W.length : Nat) : Int).toNat = W.length := rfl
    have hlt : decide ((k2 : Int) < (((W ++ X ++ p :: y :: t).drop k0).length : Int)) = true := decide_eq_true (by simp; omega)
    have ed : (W ++ X ++ p :: y :: t).drop k0 = (W ++ X).drop k0 ++ p :: y :: t := by rw [List.drop_append_of_le_length (by simp; omega)]
    have hdl : ((W ++ X).drop k0).length = k2 - 1 := by simp; omega
    have i1 : idx ((W ++ X ++ p :: y :: t).drop k0) (k2 : Nat) = some y := by rw [ed]; exact wA (by rw [hdl]; omega)
    have i2 : idx ((W ++ X ++ p :: y :: t).drop k0) (w64 ((k2 : Int) - 1)) = some p := by rw [aFk (by omega) (by omega), ed]; exact qY (by rw [hdl])
    simp only [eL, t0, hlt, cond_true, i1, i2, Option.bind_some, dQ (show k2 < 9223372036854775807 by omega)]
    by_cases hyp : y = p
    · subst hyp
      have := ih y W (X ++ [y]) (k2 + 1) k (by omega) (by simp; omega) h3 (by simp only [List.length_append, List.length_cons, List.length_nil]; omega) (by omega)
      have e1 : W ++ (X ++ [y]) ++ y :: t = W ++ X ++ y :: y :: t := by simp
      rw [e1] at this
      rw [decide_eq_true rfl, Bool.not_true, cond_false, this]
      simp [nS]
    · have hd : (!decide (y = p)) = true := by rw [decide_eq_false hyp]; rfl
      have i3 : ∃ z, idx (W ++ X ++ p :: y :: t) (W.length : Nat) = some z := ⟨_, eY (by simp; omega)⟩
      obtain ⟨z, i3⟩ := i3
      rw [hd, cond_true, i3, Option.bind_some, t1, dQ (by omega)]
      obtain ⟨X', e2⟩ : ∃ X', (W ++ X ++ p :: y :: t).set W.length y = (W ++ [y]) ++ X' ++ y :: t ∧ X'.length = X.length := by
        cases X with
        | nil => exact ⟨[], by simp, rfl⟩
        | cons x X => exact ⟨X ++ [p], by simp, by simp⟩
      rw [e2.1]
      have := ih y (W ++ [y]) X' (k2 + 1) k (by omega) (by rw [List.length_append, e2.2]; simp; omega) (by simp; omega) (by simp only [List.length_append, List.length_cons, List.length_nil, e2.2]; omega) (by omega)
      have e3 : (W ++ [y]).length = W.length + 1 := by simp
      rw [e3] at this
      rw [this]
      simp [nS, hyp]
theorem aCz (s : List Int) (hb : s.length < 4611686018427387904) : jT s = some (nV s) := by
  have main : ∀ (t A : List Int) (p : Int) (k : Nat), t.length < k → (A ++ p :: t).length < 4611686018427387904 → dJ k ((A.length + 1 : Nat) : Int) (A ++ p :: t) = some (A ++ p :: nS p t) := by
    intro t
    induction t with
    | nil =>
      intro A p k hk hb
      obtain ⟨k, rfl⟩ : ∃ q, k = q + 1 := ⟨k - 1, by omega⟩
      have hlt : decide (((A.length + 1 : Nat) : Int) < ((A ++ [p]).length : Int)) = false := decide_eq_false (by simp)
      simp only [dJ, hlt, cond_false, mE, nS]
    | cons y t ih =>
      intro A p k hk hb
      obtain ⟨k, rfl⟩ : ∃ q, k = q + 1 := ⟨k - 1, by omega⟩
      simp only [List.length_append, List.length_cons] at hb hk
      have hlt : decide (((A.length + 1 : Nat) : Int) < ((A ++ p :: y :: t).length : Int)) = true := decide_eq_true (by simp; omega)
      have i2 : w64 (((A.length + 1 : Nat) : Int) - 1) = (A.length : Int) := by rw [iE (by omega) (by omega)]; omega
      simp only [dJ, hlt, cond_true, wA rfl, i2, qY rfl, Option.bind_some]
      by_cases hyp : y = p
      · subst hyp
        have c1 : (decide ((0 : Int) ≤ ((A.length + 1 : Nat) : Int)) && decide (((A.length + 1 : Nat) : Int) ≤ ((A ++ y :: y :: t).length : Int))) = true := by simp; omega
        rw [decide_eq_true rfl, cond_true, c1]
        simp only [chk, cond_true, Option.bind_some]
        have := aFm (dJ k) (k0 := A.length + 1) t y (A ++ [y]) [] 1 BIG (Nat.le_refl _) (by simp) (by simp) (by simp only [List.length_append, List.length_cons, List.length_nil]; omega) (gD (by omega))
        have e3 : (A ++ [y]).length = A.length + 1 := by simp
        have e4 : A ++ [y] ++ [] ++ y :: t = A ++ y :: y :: t := by simp
        rw [e3, e4] at this
        have e5 : ((1 : Nat) : Int) = 1 := rfl
        rw [e5] at this
        rw [this]
        simp [nS]
      · rw [decide_eq_false hyp, cond_false]
        unfold mF
        rw [dQ (by omega)]
        have := ih (A ++ [p]) y k (by omega) (by simp only [List.length_append, List.length_cons, List.length_nil]; omega)
        have e3 : (A ++ [p]).length = A.length + 1 := by simp
        have e4 : A ++ [p] ++ y :: t = A ++ p :: y :: t := by simp
        rw [e3, e4] at this
        rw [this]
        simp [nS, hyp]
  unfold jT
  match s, hb with
  | [], _ => simp [nV]
  | x :: t, hb =>
    by_cases ht : t = []
    · subst ht; simp [nV, nS]
    · have hl : 0 < t.length := List.length_pos_iff.2 ht
      have hd : decide (((x :: t).length : Int) < 2) = false := decide_eq_false (by simp; omega)
      rw [hd, cond_false]
      have := main t [] x BIG (gD (by simp at hb; omega)) (by simpa using hb)
      simp only [List.length_nil, List.nil_append, Nat.zero_add] at this
      have e5 : ((1 : Nat) : Int) = 1 := rfl
      rw [e5] at this
      rw [this]; rfl
theorem aIu (p : Int) (t : List Int) : (nS p t).Sublist t := by
  induction t generalizing p with
  | nil => exact .slnil
  | cons y t ih =>
    simp only [nS]
    split
    · exact (ih p).cons _
    · exact (ih y).cons_cons _
theorem aCy (l : List Int) : (pG l).length = l.length := (List.mergeSort_perm l _).length_eq
/-- The hours that are asked, one after the other. -/
def vE (l : List aJ) : List Int := nV (pG (l.map fun x => x.Hour))
def aBh (f : aS) (l : List aJ) (p h : Int) : Bool := decide ((sA (bA f l h) p).1 = 1) || decide ((sA (bA f l h) p).1 = 2)
theorem aNb {f : aS} {l : List aJ} (h : VL f l) (p : Int) (T : List Int) (hT : T.length ≤ 1000) : ∀ (d i k : Nat), T.length - i = d → d < k → i ≤ T.length →
    kE l p (T.length : Int) f T k (i : Int) = some (match (T.drop i).find? (aBh f l p) with | some x => (x, 0) | none => (0, 3)) := by
  intro d
  induction d with
  | zero =>
    intro i k hd hk hi
    obtain ⟨k, rfl⟩ : ∃ q, k = q + 1 := ⟨k - 1, by omega⟩
    have : i = T.length := by omega
    subst this
    simp [kE, sD]
  | succ d ih =>
    intro i k hd hk hi
    obtain ⟨k, rfl⟩ : ∃ q, k = q + 1 := ⟨k - 1, by omega⟩
    have hil : i < T.length := by omega
    have hlt : decide ((i : Int) < (T.length : Int)) = true := decide_eq_true (by omega)
    obtain ⟨j, hj, hg⟩ := sI h T[i]
    simp only [kE, hlt, cond_true, eY hil, Option.bind_some, aDo h, aFe hg hj, sX]
    rw [List.drop_eq_getElem_cons hil, List.find?_cons]
    rw [show (decide ((sA (bA f l T[i]) p).1 = 1) || decide ((sA (bA f l T[i]) p).1 = 2)) = aBh f l p T[i] from rfl]
    cases aBh f l p T[i] with
    | true => rfl
    | false =>
      simp only [cond_false]
      rw [dQ (by omega)]
      exact ih (i + 1) k (by omega) (by omega) (by omega)
theorem aLw {f : aS} {l : List aJ} (h : VL f l) {p : Int} (hp : wi p 0 999 = true) : oJ f l p = some (match (vE l).find? (aBh f l p) with | some x => (x, 0) | none => (0, 3)) := by
  have hlen := h.len
  have hH : (vE l).length ≤ 60 := by
    unfold vE
    have h1 := aCy (l.map fun x => x.Hour)
    rw [List.length_map] at h1
    cases hs : pG (l.map fun x => x.Hour) with
    | nil => simp [nV]
    | cons q t =>
      rw [hs] at h1
      simp only [List.length_cons] at h1
      have := (aIu q t).length_le
      simp only [nV, List.length_cons]
      omega
  have key := lO (kD l p l (l.length : Int) f) l.length (fun i s => pA l p f (s ++ (l.drop i).map fun x => x.Hour)) (fun i s => s.length = i) (fun k i s hi hI ih => ?_) (fun k s hI => ?_) BIG [] (gD (by omega)) rfl
  · unfold oJ
    rw [aBr, oI.2 h, hp]
    simp only [decide_true, Bool.not_true, cond_false, show wi 0 0 9999 = true from rfl, Bool.or_self, Option.bind_some]
    rw [key]
    simp only [List.drop_zero, List.nil_append]
    unfold pA slices_Sort_int
    rw [if_pos (by rw [List.length_map]; omega), Option.bind_some, aCz _ (by rw [aCy, List.length_map]; omega), Option.bind_some]
    exact aNb h p (vE l) (by omega) _ 0 BIG rfl (gD (by omega)) (Nat.zero_le _)
  · simp only [kD, show decide ((i : Int) < (l.length : Int)) = true by simpa using hi, cond_true, eY hi, Option.bind_some]
    rw [rO (by simp; omega)]
    simp only [Option.bind_some]
    rw [dQ (by omega), ih _ (by simp; omega), List.append_assoc, List.singleton_append, ← List.map_cons (f := fun x : aJ => x.Hour), ← List.drop_eq_getElem_cons hi]
  · simp [kD]
end Go.Am

end
section
namespace Go.Am

def exF : aS := ((iI).getD (⟨0, 0, 0, 0, 0⟩, [])).1
def exL : List aJ := ((iI).getD (⟨0, 0, 0, 0, 0⟩, [])).2
theorem aNx : iI = some (exF, exL) := by kernel_rfl
theorem zX : VL exF exL := oI.1 (by kernel_rfl)
theorem aIq : exL.Pairwise fun x y => eI x < eI y := of_decide_eq_true (by kernel_rfl)
def exA (h : Int) : aI := aJy h (aEy h (dN exF) exL)
theorem vW (h : Int) : bA exF exL h = exA h := aIe zX aIq h
theorem aGo (h : Int) : ∃ j, j ≤ 60 ∧ fA exF (exA h) j := by
  rw [← vW]
  exact sI zX h
theorem yD (h : Int) : WF (exA h) := by
  obtain ⟨j, _, hg⟩ := aGo h
  exact hg.wf
theorem aMd : mO exF exL 12 = some (⟨[9, 8, 5], [7], [6, 4], 0⟩, 0) := by
  rw [aGb zX (by rfl)]
  unfold eO
  rw [vW, aGr (yD 12), zL (yD 12)]
  kernel_rfl
theorem aDy (h p : Int) : sA (exA h) p = qM (sO (exA h)) (exA h).wilds (xO (exA h)) p := by
  unfold sA
  rw [aGr (yD h), zL (yD h)]
theorem aIp : kI (exA 10) 4 = some 2 := by
  unfold kI
  rw [sM (yD 10), uC (yD 10)]
  kernel_rfl
theorem aKa : oV exF exL 10 4 = some (2, 0) := by
  obtain ⟨j, hj, hg⟩ := aGo 10
  unfold oV
  rw [aBr, oI.2 zX, vW]
  simp only [decide_true, Bool.not_true, cond_false, show wi 10 0 9999 = true from rfl, show wi 4 0 999 = true from rfl, Bool.or_self, Option.bind_some]
  rw [aFe hg hj, aDy, aIp, show qM (sO (exA 10)) (exA 10).wilds (xO (exA 10)) 4 = (3, 3) by kernel_rfl, show (exA 10).frozen = false by kernel_rfl]
  rfl
theorem aJz : vE exL = [1, 2, 3, 4, 5, 6, 11, 12, 15, 21, 22] := by
  have h : pG (exL.map fun x => x.Hour) = exL.map fun x => x.Hour := by
    have hs := List.pairwise_mergeSort (le := fun x y : Int => decide (x ≤ y)) (by intro a b c; simp only [decide_eq_true_eq]; omega) (by intro a b; simp only [Bool.or_eq_true, decide_eq_true_eq]; omega) (exL.map fun x => x.Hour)
    refine rC (R := fun x y : Int => x ≤ y) (List.mergeSort_perm _ _) (hs.imp fun {x y} h => by simpa using h) (of_decide_eq_true (by kernel_rfl)) fun a _ b _ h1 h2 => Int.le_antisymm h1 h2
  unfold vE
  rw [h]
  have : nV (exL.map fun x => x.Hour) = [1, 2, 3, 4, 5, 6, 11, 12, 15, 21, 22] := by kernel_rfl
  exact this
theorem aMe : oJ exF exL 4 = some (15, 0) := by
  have hf : aBh exF exL 4 = fun h => decide ((qM (sO (exA h)) (exA h).wilds (xO (exA h)) 4).1 = 1) || decide ((qM (sO (exA h)) (exA h).wilds (xO (exA h)) 4).1 = 2) := by
    funext h
    unfold aBh
    rw [vW, aDy]
  rw [aLw zX (by rfl), hf, aJz]
  have : [1, 2, 3, 4, 5, 6, 11, 12, 15, 21, 22].find? (fun h => decide ((qM (sO (exA h)) (exA h).wilds (xO (exA h)) 4).1 = 1) || decide ((qM (sO (exA h)) (exA h).wilds (xO (exA h)) 4).1 = 2)) = some 15 := by kernel_rfl
  rw [this]
theorem xZ : jD = some true := by
  unfold jD
  rw [aNx, Option.bind_some, aMd, Option.bind_some, aKa, Option.bind_some, aMe, Option.bind_some]
  kernel_rfl
end Go.Am

end
