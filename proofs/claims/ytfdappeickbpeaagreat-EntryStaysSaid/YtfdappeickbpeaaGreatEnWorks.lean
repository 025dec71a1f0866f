/- Plain laws, one behind the other. -/
import Derived.Test.YtfdappeickbpeaaGreatEnDet
import Derived.KernelRfl
section
namespace Go.Am

def wi (n lo hi : Int) : Bool := decide (lo ≤ n) && decide (n ≤ hi)
theorem zS {n lo hi : Int} : wi n lo hi = true ↔ lo ≤ n ∧ n ≤ hi := by simp [wi]
theorem aAd (n lo hi : Int) : bQ n lo hi = some (wi n lo hi) := by
  unfold bQ wi
  cases decide (lo ≤ n) <;> rfl
theorem aEv (n lo hi : Int) : bW n lo hi = some (wi n lo hi) := by
  unfold bW wi
  cases decide (lo ≤ n) <;> rfl

def qM (f : aT) : Bool := wi f.Places 1 32 && wi f.Wilds 0 32 && wi f.Guards 0 32 && wi f.Close 0 9999 && wi f.Freeze f.Close 9999
def hC (n : aK) : Bool := wi n.Id 0 999 && wi n.Player 0 999 && wi n.Hour 0 9999 &&
  (bif decide (n.Kind = 1) then wi n.Rank 0 9999 else bif decide (n.Kind = 2) then wi n.Rank 1 9999 else bif (decide (n.Kind = 3) || decide (n.Kind = 4) || decide (n.Kind = 5)) then decide (n.Rank = 0) else false)
theorem aFr (f : aT) : mH f = some (qM f) := by
  unfold mH qM
  simp only [aAd, Option.bind_some]
  cases wi f.Places 1 32 <;> cases wi f.Wilds 0 32 <;> cases wi f.Guards 0 32 <;> cases wi f.Close 0 9999 <;> cases wi f.Freeze f.Close 9999 <;> rfl
theorem aKt (n : Int) : wi n 0 0 = decide (n = 0) := by
  unfold wi
  by_cases h : n = 0
  · subst h; rfl
  · have : ¬ (0 ≤ n ∧ n ≤ 0) := by omega
    cases h1 : decide (0 ≤ n) <;> cases h2 : decide (n ≤ 0) <;> simp_all <;> omega
theorem aFt (n : aK) : lK n = some (hC n) := by
  unfold lK hC
  simp only [aAd, Option.bind_some, aKt]
  by_cases h1 : n.Kind = 1
  · simp only [h1, decide_true, cond_true]
    cases wi n.Id 0 999 <;> cases wi n.Player 0 999 <;> cases wi n.Hour 0 9999 <;> cases wi n.Rank 0 9999 <;> rfl
  · by_cases h2 : n.Kind = 2
    · simp only [h2, decide_true, cond_true, show decide ((2 : Int) = 1) = false from rfl, cond_false]
      cases wi n.Id 0 999 <;> cases wi n.Player 0 999 <;> cases wi n.Hour 0 9999 <;> cases wi n.Rank 1 9999 <;> rfl
    · cases wi n.Id 0 999 <;> cases wi n.Player 0 999 <;> cases wi n.Hour 0 9999 <;> cases decide (n.Rank = 0) <;> cases decide (n.Kind = 3) <;> cases decide (n.Kind = 4) <;> cases decide (n.Kind = 5) <;> simp [h1, h2]
theorem aFs (n : aK) : iR n = some (hC n) := by
  unfold iR hC
  simp only [aEv, Option.bind_some]
  by_cases h1 : n.Kind = 1
  · simp only [h1, decide_true, cond_true]
    cases wi n.Id 0 999 <;> cases wi n.Player 0 999 <;> cases wi n.Hour 0 9999 <;> cases wi n.Rank 0 9999 <;> rfl
  · by_cases h2 : n.Kind = 2
    · simp only [h2, decide_true, cond_true, show decide ((2 : Int) = 1) = false from rfl, cond_false]
      cases wi n.Id 0 999 <;> cases wi n.Player 0 999 <;> cases wi n.Hour 0 9999 <;> cases wi n.Rank 1 9999 <;> rfl
    · cases wi n.Id 0 999 <;> cases wi n.Player 0 999 <;> cases wi n.Hour 0 9999 <;> cases decide (n.Rank = 0) <;> cases decide (n.Kind = 3) <;> cases decide (n.Kind = 4) <;> cases decide (n.Kind = 5) <;> simp [h1, h2]

/-- A notice is valid, and those before it with its number are the same. -/
def oI (l : List aK) (i : Nat) : Bool := match l[i]? with
  | some x => hC x && (l.take i).all fun y => !decide (y.Id = x.Id) || decide (y = x)
  | none => false
def rW (f : aT) (l : List aK) : Int := bif !qM f then 50 else bif decide (60 < (l.length : Int)) then 51 else bif (List.range l.length).all (oI l) then 0 else 51

theorem rF {l : List aK} {i : Nat} (h : i < l.length) : oI l i = (hC l[i] && (l.take i).all fun y => !decide (y.Id = l[i].Id) || decide (y = l[i])) := by
  unfold oI
  rw [List.getElem?_eq_getElem h]
theorem aGo (l : List aK) (hl : l.length ≤ 60) (i : Nat) (hi : i < l.length) (again : Int → Option Int) : ∀ k, i < k → eR again l (i : Int) k 0 =
    bif (List.range i).all (fun j => match l[j]? with | some y => !decide (y.Id = l[i].Id) || decide (y = l[i]) | none => false) then again (w64 ((i : Int) + 1)) else some 51 := by
  refine aDf (eR again l (i : Int)) i _ _ _ (fun k j hj => ?_) fun k => ?_
  · have hj2 : j < l.length := by omega
    simp only [eR, show decide ((j : Int) < (i : Int)) = true by simpa using hj, cond_true, fC hj2, fC hi, Option.bind_some, List.getElem?_eq_getElem hj2, dV (i := j) (by omega)]
    cases h1 : decide (l[j].Id = l[i].Id) <;> cases h2 : decide (l[j] = l[i]) <;> simp
  · simp [eR, mR, mQ]
theorem aHw (l : List aK) (p : aK → Bool) (i : Nat) (hi : i ≤ l.length) : (List.range i).all (fun j => match l[j]? with | some y => p y | none => false) = (l.take i).all p := by
  rw [Bool.eq_iff_iff]
  simp only [List.all_eq_true, List.mem_range]
  constructor
  · intro h y hy
    obtain ⟨j, hj, rfl⟩ := List.getElem_of_mem hy
    simp only [List.length_take] at hj
    have := h j (by omega)
    rw [List.getElem?_eq_getElem (by omega)] at this
    simpa using this
  · intro h j hj
    rw [List.getElem?_eq_getElem (by omega)]
    refine h _ (List.mem_take_iff_getElem.2 ⟨j, by omega, rfl⟩)
theorem aGp (f : aT) (l : List aK) : kL f l = some (rW f l) := by
  have hF : ∀ {b : Option Int}, ((bW f.Places 1 32).bind fun r2 =>
    (bif !r2 then (some true) else ((bW f.Wilds 0 32).bind fun r3 => some (!r3))).bind fun b4 =>
    (bif b4 then (some true) else ((bW f.Guards 0 32).bind fun r5 => some (!r5))).bind fun b6 =>
    (bif b6 then (some true) else ((bW f.Close 0 9999).bind fun r7 => some (!r7))).bind fun b8 =>
    (bif b8 then (some true) else ((bW f.Freeze f.Close 9999).bind fun r9 => some (!r9))).bind fun b10 =>
    bif b10 then (some 50) else b) = bif !qM f then some 50 else b := by
    intro b
    simp only [aEv, Option.bind_some]
    unfold qM
    cases wi f.Places 1 32 <;> cases wi f.Wilds 0 32 <;> cases wi f.Guards 0 32 <;> cases wi f.Close 0 9999 <;> cases wi f.Freeze f.Close 9999 <;> rfl
  unfold kL rW
  rw [hF]
  cases qM f with
  | false => rfl
  | true =>
    simp only [Bool.not_true, cond_false]
    cases hl : decide (60 < (l.length : Int)) with
    | true => rfl
    | false =>
      simp only [cond_false]
      have hl' : l.length ≤ 60 := by simp at hl; omega
      have := aDf (eQ l) l.length (oI l) (some 51) (some 0) (fun k i hi => ?_) (fun k => ?_) BIG (gO (by omega))
      · rw [this]
        cases (List.range l.length).all (oI l) <;> rfl
      · simp only [eQ, show decide ((i : Int) < (l.length : Int)) = true by simpa using hi, cond_true, fC hi, Option.bind_some, aFs]
        rw [rF hi, aGo l hl' i hi _ BIG (gO (by omega)), aHw l (fun y => !decide (y.Id = l[i].Id) || decide (y = l[i])) i (by omega), dV (by omega)]
        cases hC l[i] <;> cases (l.take i).all (fun y => !decide (y.Id = l[i].Id) || decide (y = l[i])) <;> rfl
      · simp [eQ, mP]

theorem aBm {α β : Type} [DecidableEq α] (a b : α) (v : β) : ∀ m : List (α × β), eY a (bX b v m) = (decide (a = b) || eY a m)
  | [] => by simp [bX, eY]
  | (c, u) :: m => by
    simp only [bX]
    by_cases hbc : b = c
    · subst hbc
      simp [eY]
    · simp only [hbc, decide_false, cond_false, eY, aBm a b v m]
      by_cases h1 : a = c <;> by_cases h2 : a = b <;> simp [h1, h2]
theorem wG {α β : Type} [DecidableEq α] (a b : α) (v z : β) : ∀ m : List (α × β), aE a z (bX b v m) = bif decide (a = b) then v else aE a z m
  | [] => by simp [bX, aE]
  | (c, u) :: m => by
    simp only [bX]
    by_cases hbc : b = c
    · subst hbc
      by_cases h : a = b <;> simp [aE, h]
    · simp only [hbc, decide_false, cond_false, aE, wG a b v z m]
      by_cases h1 : a = c
      · subst h1
        simp [Ne.symm hbc, Ne.symm (a := a) (b := b) (fun e => hbc e.symm)]
      · simp [h1]
/-- What is known after some notices. -/
def aLi (l : List aK) (m : List (Int × aK)) : Prop := ∀ id, (eY id m = true → aE id (aK.mk 0 0 0 0 0) m ∈ l ∧ (aE id (aK.mk 0 0 0 0 0) m).Id = id) ∧ (∀ y ∈ l, y.Id = id → eY id m = true)
theorem aGr (f : aT) (l : List aK) : nZ f l = some (rW f l) := by
  unfold nZ rW
  rw [aFr]
  simp only [Option.bind_some]
  cases qM f with
  | false => rfl
  | true =>
    simp only [Bool.not_true, cond_false]
    cases hl : decide (60 < (l.length : Int)) with
    | true => rfl
    | false =>
      simp only [cond_false]
      have hl' : l.length ≤ 60 := by simp at hl; omega
      have key := nQ (gX l (l.length : Int)) l.length (fun i _ => some (bif (List.range' i (l.length - i)).all (oI l) then (0 : Int) else 51))
        (fun i m => aLi (l.take i) m ∧ ∀ j, j < i → oI l j = true) (fun k i m hi hI ih => ?_) (fun k m hI => ?_) BIG [] (gO (by omega)) ⟨fun id => ⟨fun h => by simp [eY] at h, fun y hy => by simp at hy⟩, fun j hj => by omega⟩
      · rw [key]
        simp [List.range_eq_range']
      · obtain ⟨hK, hg⟩ := hI
        have hrest : List.range' i (l.length - i) = i :: List.range' (i + 1) (l.length - (i + 1)) := by
          rw [show l.length - i = (l.length - (i + 1)) + 1 by omega, List.range'_succ]
        have hgood : oI l i = (hC l[i] && !(eY l[i].Id m && !decide (aE l[i].Id (aK.mk 0 0 0 0 0) m = l[i]))) := by
          rw [rF hi]
          congr 1
          rw [Bool.eq_iff_iff]
          simp only [List.all_eq_true, Bool.or_eq_true, Bool.not_eq_true', decide_eq_false_iff_not, decide_eq_true_eq, Bool.and_eq_false_iff, Bool.not_eq_false']
          constructor
          · intro h
            cases hm : eY l[i].Id m with
            | false => exact .inl rfl
            | true =>
              right
              obtain ⟨h1, h2⟩ := (hK l[i].Id).1 hm
              rcases h _ h1 with h3 | h3
              · exact absurd h2 h3
              · exact h3
          · intro h y hy
            by_cases hid : y.Id = l[i].Id
            · right
              have hm := (hK l[i].Id).2 y hy hid
              rcases h with h | h
              · rw [hm] at h; cases h
              · obtain ⟨h1, h2⟩ := (hK l[i].Id).1 hm
                -- both lie before, and are good
                obtain ⟨a, ha, hya⟩ := List.getElem_of_mem hy
                obtain ⟨b, hb, hmb⟩ := List.getElem_of_mem h1
                simp only [List.length_take] at ha hb
                simp only [List.getElem_take] at hya hmb
                have same : ∀ p q : Nat, p < q → q < i → ∀ (hp : p < l.length) (hq : q < l.length), l[p].Id = l[q].Id → l[p] = l[q] := by
                  intro p q hpq hqi hp hq he
                  have := hg q hqi
                  rw [rF hq] at this
                  simp only [Bool.and_eq_true, List.all_eq_true, Bool.or_eq_true, Bool.not_eq_true', decide_eq_false_iff_not, decide_eq_true_eq] at this
                  rcases this.2 l[p] (List.mem_take_iff_getElem.2 ⟨p, by omega, rfl⟩) with h | h
                  · exact absurd he h
                  · exact h
                rw [← h]
                rcases Nat.lt_trichotomy a b with hab | hab | hab
                · rw [← hya, ← hmb]
                  exact same a b hab (by omega) (by omega) (by omega) (by rw [hya, hmb, hid, h2])
                · subst hab
                  rw [← hya, ← hmb]
                · rw [← hya, ← hmb]
                  exact (same b a hab (by omega) (by omega) (by omega) (by rw [hya, hmb, hid, h2])).symm
            · exact .inl hid
        simp only [gX, show decide ((i : Int) < (l.length : Int)) = true by simpa using hi, cond_true, fC hi, Option.bind_some, aFt, dV (i := i) (by omega)]
        rw [hrest, List.all_cons, hgood]
        have ih' : oI l i = true → gX l (l.length : Int) k ((i + 1 : Nat) : Int) (bX l[i].Id l[i] m) = some (bif (List.range' (i + 1) (l.length - (i + 1))).all (oI l) then (0 : Int) else 51) := fun hgi => by
          refine ih _ ⟨fun id => ?_, fun j hj => ?_⟩
          · have htk : l.take (i + 1) = l.take i ++ [l[i]] := by rw [List.take_add_one, List.getElem?_eq_getElem hi]; rfl
            rw [htk, aBm, wG]
            constructor
            · intro h
              by_cases hid : id = l[i].Id
              · subst hid
                simp only [decide_true, cond_true]
                exact ⟨List.mem_append.2 (.inr (List.mem_singleton.2 rfl)), trivial⟩
              · simp only [hid, decide_false, Bool.false_or, cond_false] at h ⊢
                obtain ⟨h1, h2⟩ := (hK id).1 h
                exact ⟨List.mem_append.2 (.inl h1), h2⟩
            · intro y hy he
              rcases List.mem_append.1 hy with hy | hy
              · rw [(hK id).2 y hy he]; simp
              · simp at hy; subst hy; simp [he]
          · rcases Nat.lt_or_ge j i with h | h
            · exact hg j h
            · have : j = i := by omega
              subst this; exact hgi
        rw [hgood] at ih'
        revert ih'
        cases hC l[i] <;> cases eY l[i].Id m <;> cases decide (aE l[i].Id (aK.mk 0 0 0 0 0) m = l[i]) <;> intro ih' <;> first | rfl | (simpa using ih' rfl)
      · simp [gX, qC]

/-- What is valid. -/
structure VL (f : aT) (l : List aK) : Prop where
  fd : qM f = true
  len : l.length ≤ 60
  nt : ∀ x ∈ l, hC x = true
  id : ∀ x ∈ l, ∀ y ∈ l, x.Id = y.Id → x = y
theorem nO {f : aT} {l : List aK} : rW f l = 0 ↔ VL f l := by
  unfold rW
  constructor
  · intro h
    cases h1 : qM f with
    | false => rw [h1] at h; simp at h
    | true =>
      rw [h1] at h
      simp only [Bool.not_true, cond_false] at h
      cases h2 : decide (60 < (l.length : Int)) with
      | true => rw [h2] at h; simp at h
      | false =>
        rw [h2] at h
        simp only [cond_false] at h
        cases h3 : (List.range l.length).all (oI l) with
        | false => rw [h3] at h; simp at h
        | true =>
          simp only [List.all_eq_true, List.mem_range] at h3
          have hg : ∀ i (hi : i < l.length), hC l[i] = true ∧ ∀ y ∈ l.take i, y.Id = l[i].Id → y = l[i] := fun i hi => by
            have := h3 i hi
            rw [rF hi] at this
            simp only [Bool.and_eq_true, List.all_eq_true, Bool.or_eq_true, Bool.not_eq_true', decide_eq_false_iff_not, decide_eq_true_eq] at this
            exact ⟨this.1, fun y hy he => (this.2 y hy).resolve_left fun h => h he⟩
          refine ⟨h1, by simp at h2; omega, fun x hx => ?_, fun x hx y hy he => ?_⟩
          · obtain ⟨i, hi, rfl⟩ := List.getElem_of_mem hx
            exact (hg i hi).1
          · obtain ⟨i, hi, rfl⟩ := List.getElem_of_mem hx
            obtain ⟨j, hj, rfl⟩ := List.getElem_of_mem hy
            rcases Nat.lt_trichotomy i j with h | h | h
            · exact (hg j hj).2 _ (List.mem_take_iff_getElem.2 ⟨i, by omega, rfl⟩) he
            · subst h; rfl
            · exact ((hg i hi).2 _ (List.mem_take_iff_getElem.2 ⟨j, by omega, rfl⟩) he.symm).symm
  · rintro ⟨h1, h2, h3, h4⟩
    rw [h1]
    have : decide (60 < (l.length : Int)) = false := by simp; omega
    rw [this]
    have h5 : (List.range l.length).all (oI l) = true := by
      simp only [List.all_eq_true, List.mem_range]
      intro i hi
      rw [rF hi]
      simp only [Bool.and_eq_true, List.all_eq_true, Bool.or_eq_true, Bool.not_eq_true', decide_eq_false_iff_not, decide_eq_true_eq]
      refine ⟨h3 _ (List.getElem_mem hi), fun y hy => ?_⟩
      by_cases he : y.Id = l[i].Id
      · exact .inr (h4 _ (List.mem_of_mem_take hy) _ (List.getElem_mem hi) he)
      · exact .inl he
    rw [h5]
    rfl
end Go.Am

end
section
namespace Go.Am

/-- The order in which notices are taken. -/
def gH (x : aK) : Int := x.Hour * 1000 + x.Id
section
variable {α : Type}
theorem qI {A : List α} {x : α} {B : List α} {p : Int} (h : p = (A.length : Int)) : idx (A ++ x :: B) p = some x := by
  subst h; rw [fC (by simp)]; simp
theorem aKi {A : List α} {x y : α} {B : List α} {p : Nat} (h : p = A.length) : (A ++ x :: B).set p y = A ++ y :: B := by
  subst h; simp
theorem uY {A : List α} {x y : α} {B : List α} {p : Int} (h : p = ((A.length + 1 : Nat) : Int)) : idx (A ++ x :: y :: B) p = some y := by
  have : A ++ x :: y :: B = (A ++ [x]) ++ y :: B := by simp
  rw [this, qI (by simp [h])]
end
/-- What is left of a row when equal neighbours are one. -/
def mV (p : aK) : List aK → List aK
  | [] => []
  | y :: t => if y = p then mV p t else y :: mV y t
def nC : List aK → List aK
  | [] => []
  | x :: t => x :: mV x t
theorem aFn (again : Int → List aK → Option (List aK)) {k0 : Nat} : ∀ (t : List aK) (p : aK) (W X : List aK) (k2 k : Nat), 1 ≤ k2 → W.length + X.length + 1 = k0 + k2 → k0 ≤ W.length → (W ++ X ++ p :: t).length < 4611686018427387904 → t.length < k →
    cQ again (k0 : Nat) k (W.length : Nat) (k2 : Nat) (W ++ X ++ p :: t) = some (W ++ mV p t) := by
  intro t
  induction t with
  | nil =>
    intro p W X k2 k h1 h2 h3 hb hk
    obtain ⟨k, rfl⟩ : ∃ q, k = q + 1 := ⟨k - 1, by omega⟩
    simp only [List.length_append, List.length_cons, List.length_nil] at hb
    have t0 : ((k0 : Nat) : Int).toNat = k0 := rfl
    have t1 : ((W.length : Nat) : Int).toNat = W.length := rfl
    have hlt : decide ((k2 : Int) < (((W ++ X ++ [p]).drop k0).length : Int)) = false := decide_eq_false (by simp; omega)
    have c1 : (decide ((0 : Int) ≤ (W.length : Int)) && decide ((W.length : Int) ≤ ((W ++ X ++ [p]).length : Int))) = true := by simp; omega
    have c2 : decide (W.length ≤ (W ++ X ++ [p]).length) = true := by simp
    have c3 : decide ((0 : Int) ≤ (W.length : Int)) = true := by simp
    simp only [cQ, t0, hlt, cond_false, iY]
    rw [c1, t1, c2, c3]
    simp [chk, mV]
  | cons y t ih =>
    intro p W X k2 k h1 h2 h3 hb hk
    obtain ⟨k, rfl⟩ : ∃ q, k = q + 1 := ⟨k - 1, by omega⟩
    simp only [List.length_append, List.length_cons] at hb hk
    have t0 : ((k0 : Nat) : Int).toNat = k0 := rfl
    have t1 : ((W.length : Nat) : Int).toNat = W.length := rfl
    have hlt : decide ((k2 : Int) < (((W ++ X ++ p :: y :: t).drop k0).length : Int)) = true := decide_eq_true (by simp; omega)
    have ed : (W ++ X ++ p :: y :: t).drop k0 = (W ++ X).drop k0 ++ p :: y :: t := by rw [List.drop_append_of_le_length (by simp; omega)]
    have hdl : ((W ++ X).drop k0).length = k2 - 1 := by simp; omega
    have i1 : idx ((W ++ X ++ p :: y :: t).drop k0) (k2 : Nat) = some y := by rw [ed]; exact uY (by rw [hdl]; omega)
    have i2 : idx ((W ++ X ++ p :: y :: t).drop k0) (w64 ((k2 : Int) - 1)) = some p := by rw [aEe (by omega) (by omega), ed]; exact qI (by rw [hdl])
    simp only [cQ, t0, hlt, cond_true, i1, i2, Option.bind_some, dV (show k2 < 9223372036854775807 by omega)]
    by_cases hyp : y = p
    · subst hyp
      have := ih y W (X ++ [y]) (k2 + 1) k (by omega) (by simp; omega) h3 (by simp only [List.length_append, List.length_cons, List.length_nil]; omega) (by omega)
      have e1 : W ++ (X ++ [y]) ++ y :: t = W ++ X ++ y :: y :: t := by simp
      rw [e1] at this
      rw [decide_eq_true rfl, Bool.not_true, cond_false, this]
      simp [mV]
    · have hd : (!decide (y = p)) = true := by rw [decide_eq_false hyp]; rfl
      have i3 : ∃ z, idx (W ++ X ++ p :: y :: t) (W.length : Nat) = some z := ⟨_, fC (by simp; omega)⟩
      obtain ⟨z, i3⟩ := i3
      rw [hd, cond_true, i3, Option.bind_some, t1, dV (by omega)]
      obtain ⟨X', e2⟩ : ∃ X', (W ++ X ++ p :: y :: t).set W.length y = (W ++ [y]) ++ X' ++ y :: t ∧ X'.length = X.length := by
        cases X with
        | nil => exact ⟨[], by simp, rfl⟩
        | cons x X => exact ⟨X ++ [p], by simp, by simp⟩
      rw [e2.1]
      have := ih y (W ++ [y]) X' (k2 + 1) k (by omega) (by rw [List.length_append, e2.2]; simp; omega) (by simp; omega) (by simp only [List.length_append, List.length_cons, List.length_nil, e2.2]; omega) (by omega)
      have e3 : (W ++ [y]).length = W.length + 1 := by simp
      rw [e3] at this
      rw [this]
      simp [mV, hyp]
theorem aCn (s : List aK) (hb : s.length < 4611686018427387904) : eO s = some (nC s) := by
  have main : ∀ (t A : List aK) (p : aK) (k : Nat), t.length < k → (A ++ p :: t).length < 4611686018427387904 → cF k ((A.length + 1 : Nat) : Int) (A ++ p :: t) = some (A ++ p :: mV p t) := by
    intro t
    induction t with
    | nil =>
      intro A p k hk hb
      obtain ⟨k, rfl⟩ : ∃ q, k = q + 1 := ⟨k - 1, by omega⟩
      have hlt : decide (((A.length + 1 : Nat) : Int) < ((A ++ [p]).length : Int)) = false := decide_eq_false (by simp)
      simp only [cF, hlt, cond_false, iW, mV]
    | cons y t ih =>
      intro A p k hk hb
      obtain ⟨k, rfl⟩ : ∃ q, k = q + 1 := ⟨k - 1, by omega⟩
      simp only [List.length_append, List.length_cons] at hb hk
      have hlt : decide (((A.length + 1 : Nat) : Int) < ((A ++ p :: y :: t).length : Int)) = true := decide_eq_true (by simp; omega)
      have i2 : w64 (((A.length + 1 : Nat) : Int) - 1) = (A.length : Int) := by rw [gZ (by omega) (by omega)]; omega
      simp only [cF, hlt, cond_true, uY rfl, i2, qI rfl, Option.bind_some]
      by_cases hyp : y = p
      · subst hyp
        have c1 : (decide ((0 : Int) ≤ ((A.length + 1 : Nat) : Int)) && decide (((A.length + 1 : Nat) : Int) ≤ ((A ++ y :: y :: t).length : Int))) = true := by simp; omega
        rw [decide_eq_true rfl, cond_true, c1]
        simp only [chk, cond_true, Option.bind_some]
        have := aFn (cF k) (k0 := A.length + 1) t y (A ++ [y]) [] 1 BIG (Nat.le_refl _) (by simp) (by simp) (by simp only [List.length_append, List.length_cons, List.length_nil]; omega) (gO (by omega))
        have e3 : (A ++ [y]).length = A.length + 1 := by simp
        have e4 : A ++ [y] ++ [] ++ y :: t = A ++ y :: y :: t := by simp
        rw [e3, e4] at this
        have e5 : ((1 : Nat) : Int) = 1 := rfl
        rw [e5] at this
        rw [this]
        simp [mV]
      · rw [decide_eq_false hyp, cond_false]
        unfold iX
        rw [dV (by omega)]
        have := ih (A ++ [p]) y k (by omega) (by simp only [List.length_append, List.length_cons, List.length_nil]; omega)
        have e3 : (A ++ [p]).length = A.length + 1 := by simp
        have e4 : A ++ [p] ++ y :: t = A ++ p :: y :: t := by simp
        rw [e3, e4] at this
        rw [this]
        simp [mV, hyp]
  unfold eO
  match s, hb with
  | [], _ => simp [nC]
  | x :: t, hb =>
    by_cases ht : t = []
    · subst ht; simp [nC, mV]
    · have hl : 0 < t.length := List.length_pos_iff.2 ht
      have hd : decide (((x :: t).length : Int) < 2) = false := decide_eq_false (by simp; omega)
      rw [hd, cond_false]
      have := main t [] x BIG (gO (by simp at hb; omega)) (by simpa using hb)
      simp only [List.length_nil, List.nil_append, Nat.zero_add] at this
      have e5 : ((1 : Nat) : Int) = 1 := rfl
      rw [e5] at this
      rw [this]; rfl
theorem aIk (p x : aK) (t : List aK) : (x = p ∨ x ∈ mV p t) ↔ (x = p ∨ x ∈ t) := by
  induction t generalizing p with
  | nil => rfl
  | cons y t ih =>
    simp only [mV, List.mem_cons]
    by_cases h : y = p
    · subst h
      rw [if_pos rfl]
      have := ih y
      constructor
      · rintro (h | h)
        · exact .inl h
        · rcases this.1 (.inr h) with h | h
          · exact .inl h
          · exact .inr (.inr h)
      · rintro (h | h | h)
        · exact .inl h
        · exact .inl h
        · exact this.2 (.inr h)
    · rw [if_neg h, List.mem_cons]
      have := ih y
      constructor
      · rintro (h | h)
        · exact .inl h
        · exact .inr (this.1 h)
      · rintro (h | h)
        · exact .inl h
        · exact .inr (this.2 h)
theorem aEh (x : aK) (s : List aK) : x ∈ nC s ↔ x ∈ s := by
  cases s with
  | nil => rfl
  | cons p t => simp only [nC, List.mem_cons]; exact aIk p x t
theorem aIl (p : aK) (t : List aK) : (mV p t).Sublist t := by
  induction t generalizing p with
  | nil => exact .slnil
  | cons y t ih =>
    simp only [mV]
    split
    · exact (ih p).cons _
    · exact (ih y).cons_cons _
/-- In a weakly ordered row without a clash, what is left is strictly ordered. -/
theorem aEj (p : aK) (t : List aK) (hs : (p :: t).Pairwise fun x y => gH x ≤ gH y) (hcl : ∀ x ∈ p :: t, ∀ y ∈ p :: t, gH x = gH y → x = y) : (p :: mV p t).Pairwise fun x y => gH x < gH y := by
  induction t generalizing p with
  | nil => exact List.pairwise_singleton _ _
  | cons y t ih =>
    have h1 := List.pairwise_cons.1 hs
    have h2 := List.pairwise_cons.1 h1.2
    simp only [mV]
    by_cases h : y = p
    · subst h
      rw [if_pos rfl]
      exact ih y h1.2 (fun a ha b hb => hcl a (List.mem_cons_of_mem _ ha) b (List.mem_cons_of_mem _ hb))
    · rw [if_neg h]
      have h3 := ih y h1.2 (fun a ha b hb => hcl a (List.mem_cons_of_mem _ ha) b (List.mem_cons_of_mem _ hb))
      refine List.pairwise_cons.2 ⟨fun z hz => ?_, h3⟩
      have hpy : gH p < gH y := by
        have := h1.1 y (by simp)
        rcases Int.lt_or_eq_of_le this with h4 | h4
        · exact h4
        · exact absurd (hcl p (by simp) y (by simp) h4).symm h
      rcases List.mem_cons.1 hz with rfl | hz
      · exact hpy
      · exact Int.lt_trans hpy ((List.pairwise_cons.1 h3).1 z hz)
theorem mM {α : Type} {key : α → Int} : ∀ {xs ys : List α}, xs.Pairwise (fun x y => key x < key y) → ys.Pairwise (fun x y => key x < key y) → (∀ x, x ∈ xs ↔ x ∈ ys) → xs = ys
  | [], [], _, _, _ => rfl
  | [], y :: ys, _, _, h => by have := (h y).2 (by simp); simp at this
  | x :: xs, [], _, _, h => by have := (h x).1 (by simp); simp at this
  | x :: xs, y :: ys, h1, h2, h => by
    have a1 := List.pairwise_cons.1 h1
    have a2 := List.pairwise_cons.1 h2
    have hxy : x = y := by
      rcases List.mem_cons.1 ((h x).1 (by simp)) with e | e
      · exact e
      · rcases List.mem_cons.1 ((h y).2 (by simp)) with e2 | e2
        · exact e2.symm
        · have := a2.1 x e; have := a1.1 y e2; omega
    subst hxy
    have := mM a1.2 a2.2 fun z => by
      have hz := h z
      simp only [List.mem_cons] at hz
      constructor
      · intro hm
        rcases hz.1 (.inr hm) with e | e
        · have := a1.1 z hm; rw [e] at this; omega
        · exact e
      · intro hm
        rcases hz.2 (.inr hm) with e | e
        · have := a2.1 z hm; rw [e] at this; omega
        · exact e
    rw [this]


theorem aFm (l : List aK) (hb : l.length ≤ 60) : fR l = some l := by
  have key := nQ (cB (fun (s3 : List aK) x4 => (app 40 s3 ([x4])).bind fun x6 => some (x6, true)) l (l.length : Int)) l.length (fun i s => some (s ++ l.drop i, true)) (fun i s => s.length = i) (fun k i s hi hI ih => ?_) (fun k s hI => ?_) BIG [] (gO (by omega)) rfl
  · unfold fR gL eD
    rw [key]
    simp
  · simp only [cB, show decide ((i : Int) < (l.length : Int)) = true by simpa using hi, cond_true, fC hi, Option.bind_some]
    rw [qY (by simp; omega)]
    simp only [Option.bind_some, Bool.not_true, cond_false]
    rw [dV (by omega), ih _ (by simp; omega)]
    rw [List.append_assoc, List.singleton_append, ← List.drop_eq_getElem_cons hi]
  · simp [cB, fJ]
theorem or2 (a b : Int) : kZ [a, b] = some (if a ≠ 0 then a else b) := by
  unfold kZ
  obtain ⟨k, hk⟩ : ∃ k, BIG = k + 1 + 1 + 1 := ⟨BIG - 3, by unfold BIG; omega⟩
  rw [show ((([a, b] : List Int).length : Nat) : Int) = 2 from rfl, hk]
  simp only [kY, oG, show decide ((0 : Int) < 2) = true from rfl, cond_true, show idx [a, b] 0 = some a from rfl, Option.bind_some, show w64 (0 + 1) = 1 from rfl, show decide ((1 : Int) < 2) = true from rfl, show idx [a, b] 1 = some b from rfl, show w64 (1 + 1) = 2 from rfl, show decide ((2 : Int) < 2) = false from rfl, cond_false]
  by_cases h : a = 0
  · subst h
    by_cases h2 : b = 0
    · subst h2; simp
    · simp [h2]
  · simp [h]
/-- Whose number and hour are within their bounds. -/
def bN (x : aK) : Prop := 0 ≤ x.Id ∧ x.Id ≤ 999 ∧ 0 ≤ x.Hour ∧ x.Hour ≤ 9999
theorem aFk {x : aK} (h : hC x = true) : bN x := by
  unfold hC at h
  simp only [Bool.and_eq_true, zS] at h
  exact ⟨h.1.1.1.1, h.1.1.1.2, h.1.2.1, h.1.2.2⟩
theorem aKv {x y : aK} (hx : bN x) (hy : bN y) : ∃ r, dJ x y = some r ∧ (r < 0 ↔ gH x < gH y) := by
  obtain ⟨a1, a2, a3, a4⟩ := hx
  obtain ⟨b1, b2, b3, b4⟩ := hy
  unfold dJ
  rw [gZ (by omega) (by omega), gZ (by omega) (by omega), or2]
  refine ⟨_, rfl, ?_⟩
  unfold gH
  split <;> constructor <;> intro h <;> omega
theorem ltN {x y : aK} (hx : bN x) (hy : bN y) : ltO (fun a b => dJ a b) x y = decide (gH x < gH y) := by
  obtain ⟨r, h1, h2⟩ := aKv hx hy
  unfold ltO
  simp only [h1]
  rw [Bool.eq_iff_iff]
  simpa using h2
theorem aDc {x y : aK} (hx : bN x) (hy : bN y) (h : gH x = gH y) : x.Id = y.Id := by
  obtain ⟨a1, a2, a3, a4⟩ := hx
  obtain ⟨b1, b2, b3, b4⟩ := hy
  unfold gH at h
  omega
theorem aFa {l : List aK} (hb : ∀ x ∈ l, bN x) (hid : ∀ x ∈ l, ∀ y ∈ l, x.Id = y.Id → x = y) : oK l (fun a b => dJ a b) = true := by
  unfold oK
  simp only [List.all_eq_true, Bool.and_eq_true, Bool.or_eq_true, Bool.not_eq_true', decide_eq_true_eq]
  intro x hx
  refine ⟨by rw [ltN (hb x hx) (hb x hx)]; simp, fun y hy => ⟨⟨?_, ?_⟩, fun z hz => ⟨?_, ?_⟩⟩⟩
  · obtain ⟨r, h1, _⟩ := aKv (hb x hx) (hb y hy)
    simp [h1]
  · rw [ltN (hb x hx) (hb y hy), ltN (hb y hy) (hb x hx)]
    simp only [decide_eq_true_eq]
    rcases Int.lt_trichotomy (gH x) (gH y) with h | h | h
    · exact .inl (.inr h)
    · exact .inl (.inl (hid x hx y hy (aDc (hb x hx) (hb y hy) h)))
    · exact .inr h
  · rw [ltN (hb x hx) (hb y hy), ltN (hb y hy) (hb z hz), ltN (hb x hx) (hb z hz)]
    simp only [Bool.and_eq_false_iff, decide_eq_false_iff_not, decide_eq_true_eq]
    omega
  · rw [ltN (hb x hx) (hb y hy), ltN (hb y hy) (hb z hz), ltN (hb x hx) (hb z hz)]
    simp only [decide_eq_false_iff_not, decide_eq_true_eq]
    omega
def fA (l : List aK) : List aK := nC (dB (fun a b => dJ a b) l)
theorem aKw {l : List aK} (hlen : l.length ≤ 60) (hb : ∀ x ∈ l, bN x) (hid : ∀ x ∈ l, ∀ y ∈ l, x.Id = y.Id → x = y) :
    eV l (fun y5 y6 => dJ y5 y6) = some (dB (fun a b => dJ a b) l) ∧ eO (dB (fun a b => dJ a b) l) = some (fA l) := by
  have hl : (dB (fun a b => dJ a b) l).length = l.length := (gR _ l).length_eq
  refine ⟨?_, aCn _ (by omega)⟩
  unfold eV jT
  rw [aFm l hlen]
  simp only [Option.bind_some]
  unfold oM
  rw [if_pos ⟨aFa hb hid, by omega⟩]
  rfl
theorem mE {l : List aK} (x : aK) : x ∈ fA l ↔ x ∈ l := by
  unfold fA
  rw [aEh]
  exact (gR _ l).mem_iff
theorem vN {l : List aK} (hb : ∀ x ∈ l, bN x) (hid : ∀ x ∈ l, ∀ y ∈ l, x.Id = y.Id → x = y) : (fA l).Pairwise fun x y => gH x < gH y := by
  have hs := oL (aFa hb hid)
  have hm : ∀ x, x ∈ dB (fun a b => dJ a b) l ↔ x ∈ l := fun x => (gR _ l).mem_iff
  unfold fA
  generalize hz : dB (fun a b => dJ a b) l = z at hs hm
  have hs' : z.Pairwise fun x y => gH x ≤ gH y := by
    refine List.Pairwise.imp_of_mem (fun {x y} hx hy h => ?_) hs
    rw [ltN (hb y ((hm y).1 hy)) (hb x ((hm x).1 hx))] at h
    simp at h
    omega
  cases z with
  | nil => exact .nil
  | cons p t => exact aEj p t hs' fun x hx y hy h => hid x ((hm x).1 hx) y ((hm y).1 hy) (aDc (hb x ((hm x).1 hx)) (hb y ((hm y).1 hy)) h)
end Go.Am

end
section
namespace Go.Am

section lists
variable {α : Type}
end lists

end Go.Am

end
section
namespace Go.Am

def gT {α : Type} (p : α → Bool) (l : List α) : Int := if l.findIdx p < l.length then (l.findIdx p : Int) else -1
theorem aBa {α : Type} (F : Nat → Int → Option Int) (l : List α) (p : α → Bool) (h1 : ∀ k i (hi : i < l.length), F (k + 1) (i : Nat) = bif p l[i] then some (i : Int) else F k ((i + 1 : Nat) : Int)) (h2 : ∀ k, F (k + 1) (l.length : Nat) = some (-1)) :
    ∀ k, l.length < k → F k 0 = some (gT p l) := by
  have main : ∀ d i k, l.length - i = d → d < k → i ≤ l.length → (∀ j (hj : j < l.length), j < i → p l[j] = false) → F k (i : Nat) = some (gT p l) := by
    intro d
    induction d with
    | zero =>
      intro i k hd hk hi hno
      obtain ⟨k, rfl⟩ : ∃ q, k = q + 1 := ⟨k - 1, by omega⟩
      have : i = l.length := by omega
      subst this
      have he : ¬ l.findIdx p < l.length := fun h => by
        have := hno _ h h
        rw [List.findIdx_getElem (w := h)] at this
        cases this
      rw [h2, gT, if_neg he]
    | succ d ih =>
      intro i k hd hk hi hno
      obtain ⟨k, rfl⟩ : ∃ q, k = q + 1 := ⟨k - 1, by omega⟩
      have hil : i < l.length := by omega
      rw [h1 k i hil]
      cases hp : p l[i] with
      | true =>
        have he : l.findIdx p = i := by
          rw [List.findIdx_eq hil]
          exact ⟨hp, fun j hj => hno j (by omega) hj⟩
        rw [cond_true, gT, he, if_pos hil]
      | false =>
        rw [cond_false]
        exact ih (i + 1) k (by omega) (by omega) (by omega) fun j hj hji => by
          rcases Nat.lt_or_eq_of_le (Nat.le_of_lt_succ hji) with h | h
          · exact hno j hj h
          · subst h; exact hp
  intro k hk
  exact main _ 0 k rfl (by omega) (Nat.zero_le _) fun j _ h => by omega

section del
theorem aCz (l : List Int) (f : Int → Option Bool) (p : Int → Bool) (h : ∀ x ∈ l, f x = some (p x)) (hb : l.length ≤ 1000000) : fI l f = some (gT p l) := by
  unfold fI
  refine aBa (fun k i => eF l f (l.length : Int) k i) l p (fun k i hi => ?_) (fun k => ?_) BIG (gO (by omega))
  · have hlt : decide ((i : Int) < (l.length : Int)) = true := decide_eq_true (by omega)
    simp only [eF, hlt, cond_true, fC hi, Option.bind_some, h _ (List.getElem_mem hi), dV (show i < 9223372036854775807 by omega)]
  · have hlt : decide ((l.length : Int) < (l.length : Int)) = false := decide_eq_false (by omega)
    simp only [eF, hlt, cond_false, kW]
theorem aEi (f : Int → Option Bool) (p : Int → Bool) : ∀ (t W X : List Int) (k : Nat), (∀ x ∈ t, f x = some (p x)) → 0 < X.length → (W ++ X ++ t).length ≤ 1000000 → t.length < k →
    dN f k (W.length : Nat) ((W.length + X.length : Nat) : Int) (W ++ X ++ t) = some (W ++ t.filter fun x => !p x) := by
  intro t
  induction t with
  | nil =>
    intro W X k hf hX hb hk
    obtain ⟨k, rfl⟩ : ∃ q, k = q + 1 := ⟨k - 1, by omega⟩
    simp only [List.length_append, List.length_nil] at hb
    have hlt : decide (((W.length + X.length : Nat) : Int) < ((W ++ X ++ []).length : Int)) = false := decide_eq_false (by simp)
    have t1 : ((W.length : Nat) : Int).toNat = W.length := rfl
    have c1 : (decide ((0 : Int) ≤ (W.length : Int)) && decide ((W.length : Int) ≤ ((W ++ X ++ []).length : Int))) = true := by simp; omega
    have c2 : decide (W.length ≤ (W ++ X ++ []).length) = true := by simp
    have c3 : decide ((0 : Int) ≤ (W.length : Int)) = true := by simp
    simp only [dN, hlt, cond_false, kR]
    rw [c1, t1, c2, c3]
    simp [chk]
  | cons y t ih =>
    intro W X k hf hX hb hk
    obtain ⟨k, rfl⟩ : ∃ q, k = q + 1 := ⟨k - 1, by omega⟩
    simp only [List.length_append, List.length_cons] at hb hk
    have hlt : decide (((W.length + X.length : Nat) : Int) < ((W ++ X ++ y :: t).length : Int)) = true := decide_eq_true (by simp; omega)
    have i1 : idx (W ++ X ++ y :: t) ((W.length + X.length : Nat) : Int) = some y := qI (by simp)
    have hf1 := hf y (by simp)
    have hf2 : ∀ x ∈ t, f x = some (p x) := fun x hx => hf x (List.mem_cons_of_mem _ hx)
    have t1 : ((W.length : Nat) : Int).toNat = W.length := rfl
    simp only [dN, hlt, cond_true, i1, hf1, Option.bind_some, dV (show W.length + X.length < 9223372036854775807 by omega)]
    cases hp : p y with
    | true =>
      simp only [Bool.not_true, cond_false]
      have := ih W (X ++ [y]) k hf2 (by simp) (by simp; omega) (by omega)
      have e1 : W ++ (X ++ [y]) ++ t = W ++ X ++ y :: t := by simp
      have e2 : W.length + (X ++ [y]).length = W.length + X.length + 1 := by simp; omega
      rw [e1, e2] at this
      rw [this]; simp [hp]
    | false =>
      simp only [Bool.not_false, cond_true]
      match X, hX with
      | x :: X, _ =>
        have i2 : idx (W ++ (x :: X) ++ y :: t) (W.length : Nat) = some x := by
          have : W ++ (x :: X) ++ y :: t = W ++ x :: (X ++ y :: t) := by simp
          rw [this]; exact qI rfl
        have e3 : (W ++ (x :: X) ++ y :: t).set W.length y = (W ++ [y]) ++ (X ++ [y]) ++ t := by
          have : W ++ (x :: X) ++ y :: t = W ++ x :: (X ++ y :: t) := by simp
          rw [this, aKi rfl]; simp
        rw [i2, Option.bind_some, t1, e3, dV (by omega)]
        have := ih (W ++ [y]) (X ++ [y]) k hf2 (by simp) (by simp at hb ⊢; omega) (by omega)
        have e4 : (W ++ [y]).length = W.length + 1 := by simp
        have e5 : (W ++ [y]).length + (X ++ [y]).length = W.length + (x :: X).length + 1 := by simp; omega
        rw [e5, e4] at this
        rw [this]; simp [hp]
theorem yI (s : List Int) (f : Int → Option Bool) (p : Int → Bool) (h : ∀ x ∈ s, f x = some (p x)) (hb : s.length ≤ 1000000) : bY s f = some (s.filter fun x => !p x) := by
  unfold bY
  rw [aCz s f p h hb, Option.bind_some]
  unfold gT
  by_cases hl : s.findIdx p < s.length
  · rw [if_pos hl, decide_eq_false (by omega), cond_false]
    obtain ⟨i, hi⟩ : ∃ i, i = s.findIdx p := ⟨_, rfl⟩
    rw [← hi] at hl ⊢
    have hno : ∀ x ∈ s.take i, (!p x) = true := fun x hx => by
      obtain ⟨j, hj, rfl⟩ := List.getElem_of_mem hx
      simp only [List.length_take] at hj
      rw [List.getElem_take]
      have := List.not_of_lt_findIdx (p := p) (xs := s) (i := j) (by omega)
      simpa using this
    have hyes : p s[i] = true := by
      have := List.findIdx_getElem (p := p) (xs := s) (w := hi ▸ hl)
      simpa [← hi] using this
    have es : s = s.take i ++ [s[i]] ++ s.drop (i + 1) := by
      rw [List.append_assoc, List.singleton_append, ← List.drop_eq_getElem_cons hl, List.take_append_drop]
    have hloop := aEi f p (s.drop (i + 1)) (s.take i) [s[i]] BIG (fun x hx => h x (List.mem_of_mem_drop hx)) (by simp) (by rw [← es]; omega) (gO (by simp; omega))
    have e1 : (s.take i).length = i := by simp; omega
    rw [e1, ← es] at hloop
    rw [dV (by omega)]
    have e2 : i + [s[i]].length = i + 1 := rfl
    rw [e2] at hloop
    rw [hloop]
    congr 1
    conv => rhs; rw [es]
    rw [List.filter_append, List.filter_append, List.filter_eq_self.2 hno]
    simp [hyes]
  · rw [if_neg hl, decide_eq_true rfl, cond_true]
    congr 1
    symm
    refine List.filter_eq_self.2 fun x hx => ?_
    cases hp : p x with
    | false => rfl
    | true => exact absurd (List.findIdx_lt_length_of_exists ⟨x, hx, hp⟩) hl
end del

theorem aCf (l : List Int) (hl : l.length ≤ 9223372036854775807) (v : Int) : fV l v = some (match l.findIdx? (fun x => decide (v = x)) with | some i => (i : Int) | none => -1) := by
  unfold fV
  rw [nQ (S := Unit) (fun k i _ => dP l v l.length k i) l.length (fun i _ => some (match (l.drop i).findIdx? (fun x => decide (v = x)) with | some j => ((i + j : Nat) : Int) | none => -1)) (fun _ _ => True) ?_ ?_ BIG () (gO hl) trivial]
  · simp
  · intro k i _ hi _ ih
    have := ih () trivial
    simp only [dP, fC hi, Option.bind_some, dV (show i < 9223372036854775807 by omega), Int.ofNat_lt, hi, decide_true, cond_true, this]
    rw [List.drop_eq_getElem_cons hi, List.findIdx?_cons]
    by_cases h : v = l[i]
    · simp [h]
    · simp only [h, decide_false, cond_false, Bool.false_eq_true, if_false]
      cases List.findIdx? (fun x => decide (v = x)) (List.drop (i + 1) l) with
      | none => rfl
      | some j => simp; omega
  · intro k _ _
    simp [dP, kV]
theorem tH (l : List Int) (hl : l.length ≤ 9223372036854775807) (v : Int) : gN l v = some (decide (v ∈ l)) := by
  unfold gN
  rw [aCf l hl v]
  cases h : List.findIdx? (fun x => decide (v = x)) l with
  | none =>
    simp at h
    have : v ∉ l := fun hm => h v hm rfl
    simp [this]
  | some j =>
    have : v ∈ l := by
      obtain ⟨h1, h2, _⟩ := List.findIdx?_eq_some_iff_getElem.1 h
      simp at h2
      rw [h2]; exact List.getElem_mem h1
    simp [this]


theorem aDq (out : List Int) (p : Int) (hb : out.length ≤ 1000000) : fV out p = some (gT (fun x => decide (p = x)) out) := by
  unfold fV
  refine aBa (fun k i => dP out p (out.length : Int) k i) out (fun x => decide (p = x)) (fun k i hi => ?_) (fun k => ?_) BIG (gO (by omega))
  · have hlt : decide ((i : Int) < (out.length : Int)) = true := decide_eq_true (by omega)
    simp only [dP, hlt, cond_true, fC hi, Option.bind_some, dV (show i < 9223372036854775807 by omega)]
  · have hlt : decide ((out.length : Int) < (out.length : Int)) = false := decide_eq_false (by omega)
    simp only [dP, hlt, cond_false, kV]
theorem aGn (a b : List Int) (ha : a.length ≤ 100000) (hb : b.length ≤ 100000) : jW [a, b] = some (a ++ b) := by
  have e1 : ∀ k s, eN [a, b] 2 (k + 3) 0 s = (app 8 s a).bind fun x => (app 8 x b).bind fun y => some y := by
    intro k s
    have w1 : w64 (0 + 1) = 1 := rfl
    have w2 : w64 (1 + 1) = 2 := rfl
    have i0 : idx [a, b] 0 = some a := rfl
    have i1 : idx [a, b] 1 = some b := rfl
    have c0 : decide ((0 : Int) < 2) = true := rfl
    have c1 : decide ((1 : Int) < 2) = true := rfl
    have c2 : decide ((2 : Int) < 2) = false := rfl
    rw [eN, c0, cond_true, i0, Option.bind_some, w1]
    refine congrArg _ (funext fun x => ?_)
    rw [eN, c1, cond_true, i1, Option.bind_some, w2]
    refine congrArg _ (funext fun y => ?_)
    rw [eN, c2, cond_false]; rfl
  have hB : BIG = (18446744073709551616 - 3) + 3 := rfl
  have hL : (([a, b] : List (List Int)).length : Int) = 2 := rfl
  have g1 : w64 (0 + (a.length : Int)) = a.length := by rw [gZ (by omega) (by omega)]; omega
  have g2 : w64 ((a.length : Int) + (b.length : Int)) = ((a.length + b.length : Nat) : Int) := by rw [gZ (by omega) (by omega)]; omega
  have hgrow : lF ((a.length + b.length : Nat) : Int) = some [] := by
    unfold lF
    have w0 : w64 (0 - 0) = 0 := rfl
    rw [decide_eq_false (by omega), cond_false, w0, Int.sub_zero, gZ (by omega) (by omega)]
    by_cases h0 : (0 : Int) < ((a.length + b.length : Nat) : Int)
    · have c1 : decide (((a.length + b.length : Nat) : Int) * ((8 : Nat) : Int) ≤ 140737488355328) = true := decide_eq_true (by omega)
      rw [decide_eq_true h0, cond_true, c1]; rfl
    · rw [decide_eq_false h0, cond_false]
  unfold jW
  rw [hB, hL]
  have w1 : w64 (0 + 1) = 1 := rfl
  have w2 : w64 (1 + 1) = 2 := rfl
  have i0 : idx [a, b] 0 = some a := rfl
  have i1 : idx [a, b] 1 = some b := rfl
  have c0 : decide ((0 : Int) < 2) = true := rfl
  have c1 : decide ((1 : Int) < 2) = true := rfl
  have c2 : decide ((2 : Int) < 2) = false := rfl
  rw [fH, c0, cond_true, i0, Option.bind_some, g1, decide_eq_false (by omega), cond_false, w1, fH, c1, cond_true, i1, Option.bind_some, g2, decide_eq_false (by omega), cond_false, w2, fH, c2, cond_false]
  unfold mD
  rw [hgrow, Option.bind_some, hB, hL, e1, qY (by simp; omega), Option.bind_some, List.nil_append, qY (by omega), Option.bind_some]

end Go.Am

end
section
namespace Go.Am

abbrev zP : aA := aA.mk false false 0 0 false false false false
/-- What is known of a player. -/
def pl (l : aJ) (n : Int) : aA := aE n zP l.players

/-- What holds of the lists that the program makes. -/
structure WF (l : aJ) : Prop where
  fd : qM l.Field = true
  keys : (l.players.map Prod.fst).Nodup
  cnt : l.players.length ≤ 60
  ent : 0 ≤ l.entered ∧ l.entered ≤ 60
  mr : 0 ≤ l.more ∧ l.more ≤ 60
  turn : ∀ n, (pl l n).entered = true → 1 ≤ (pl l n).turn ∧ (pl l n).turn ≤ l.entered ∧ 0 ≤ (pl l n).rank ∧ (pl l n).rank ≤ 9999
  inj : ∀ n m, (pl l n).entered = true → (pl l m).entered = true → (pl l n).turn = (pl l m).turn → n = m

theorem zD {α β : Type} [DecidableEq α] {n : α} {z : β} : ∀ {m : List (α × β)}, n ∉ m.map Prod.fst → aE n z m = z
  | [], _ => rfl
  | (b, v) :: m, h => by
    simp only [List.map_cons, List.mem_cons, not_or] at h
    simp only [aE, h.1, decide_false, cond_false]
    exact zD h.2
theorem aAf {l : aJ} {n : Int} (h : (pl l n).entered = true) : n ∈ l.players.map Prod.fst := by
  refine Classical.byContradiction fun hn => ?_
  unfold pl at h
  rw [zD hn] at h
  cases h
theorem yY (l : aJ) (n : Int) : isE l.players n = ((pl l n).entered && !(pl l n).quit && !(pl l n).had) := rfl

/-- The order of the entries. -/
def iF (l : aJ) (n : Int) : Int := (if (pl l n).rank = 0 then 10000 else (pl l n).rank) * 100 + (pl l n).turn
theorem or3 (a b c : Int) : kZ [a, b, c] = some (if a ≠ 0 then a else if b ≠ 0 then b else c) := by
  obtain ⟨k, hk⟩ : ∃ k, BIG = k + 1 + 1 + 1 + 1 := ⟨BIG - 4, by unfold BIG; omega⟩
  unfold kZ
  rw [show ((([a, b, c] : List Int).length : Nat) : Int) = 3 from rfl, hk]
  simp only [kY, oG, show decide ((0 : Int) < 3) = true from rfl, cond_true, show idx [a, b, c] 0 = some a from rfl, Option.bind_some, show w64 (0 + 1) = 1 from rfl, show decide ((1 : Int) < 3) = true from rfl, show idx [a, b, c] 1 = some b from rfl, show w64 (1 + 1) = 2 from rfl, show decide ((2 : Int) < 3) = true from rfl, show idx [a, b, c] 2 = some c from rfl, show w64 (2 + 1) = 3 from rfl, show decide ((3 : Int) < 3) = false from rfl, cond_false]
  by_cases h : a = 0
  · subst h
    by_cases h2 : b = 0
    · subst h2
      by_cases h3 : c = 0
      · subst h3; simp
      · simp [h3]
    · simp [h2]
  · simp [h]
theorem aKc (p : aA) : fO p = some (if p.rank = 0 then 1 else 0) := by
  unfold fO
  by_cases h : p.rank = 0 <;> simp [h]
theorem aKu {l : aJ} (h : WF l) {a b : Int} (ha : (pl l a).entered = true) (hb : (pl l b).entered = true) : ∃ r, dK a b l = some r ∧ (r < 0 ↔ iF l a < iF l b) := by
  obtain ⟨a1, a2, a3, a4⟩ := h.turn a ha
  obtain ⟨b1, b2, b3, b4⟩ := h.turn b hb
  have he := h.ent.2
  unfold dK
  rw [show (aE a (aA.mk false false 0 0 false false false false) l.players) = pl l a from rfl, show (aE b (aA.mk false false 0 0 false false false false) l.players) = pl l b from rfl]
  simp only [aKc, Option.bind_some]
  rw [gZ (by split <;> split <;> omega) (by split <;> split <;> omega), gZ (by omega) (by omega), gZ (by omega) (by omega), or3]
  refine ⟨_, rfl, ?_⟩
  unfold iF
  by_cases h1 : (pl l a).rank = 0 <;> by_cases h2 : (pl l b).rank = 0 <;> simp only [h1, h2, if_true, if_false] <;> (repeat' split) <;> constructor <;> intro h3 <;> omega
theorem ltE {l : aJ} (h : WF l) {a b : Int} (ha : (pl l a).entered = true) (hb : (pl l b).entered = true) : ltO (fun a b => dK a b l) a b = decide (iF l a < iF l b) := by
  obtain ⟨r, h1, h2⟩ := aKu h ha hb
  unfold ltO
  simp only [h1]
  rw [Bool.eq_iff_iff]
  simpa using h2
theorem xZ {l : aJ} (h : WF l) {a b : Int} (ha : (pl l a).entered = true) (hb : (pl l b).entered = true) (he : iF l a = iF l b) : a = b := by
  obtain ⟨a1, a2, a3, a4⟩ := h.turn a ha
  obtain ⟨b1, b2, b3, b4⟩ := h.turn b hb
  have he2 := h.ent.2
  refine h.inj a b ha hb ?_
  unfold iF at he
  split at he <;> split at he <;> omega

/-- All entries, as they lie in the map. -/
def nV (l : aJ) : List Int := (l.players.filter fun p => isE l.players p.1).map Prod.fst
def fT (l : aJ) : List Int := dB (fun a b => dK a b l) (nV l)
theorem vB {l : aJ} {n : Int} : n ∈ nV l ↔ isE l.players n = true := by
  unfold nV
  constructor
  · intro h
    obtain ⟨p, hp, rfl⟩ := List.mem_map.1 h
    exact (List.mem_filter.1 hp).2
  · intro h
    have he : (pl l n).entered = true := by
      rw [yY] at h
      simp only [Bool.and_eq_true] at h
      exact h.1.1
    obtain ⟨p, hp, rfl⟩ := List.mem_map.1 (aAf he)
    exact List.mem_map.2 ⟨p, List.mem_filter.2 ⟨hp, h⟩, rfl⟩
theorem sZ {l : aJ} {n : Int} (h : n ∈ nV l) : (pl l n).entered = true := by
  have := vB.1 h
  rw [yY] at this
  simp only [Bool.and_eq_true] at this
  exact this.1.1
theorem aFc {l : aJ} (h : WF l) : oK (nV l) (fun a b => dK a b l) = true := by
  unfold oK
  simp only [List.all_eq_true, Bool.and_eq_true, Bool.or_eq_true, Bool.not_eq_true', decide_eq_true_eq]
  intro x hx
  have ex := sZ hx
  refine ⟨by rw [ltE h ex ex]; simp, fun y hy => ?_⟩
  have ey := sZ hy
  refine ⟨⟨?_, ?_⟩, fun z hz => ?_⟩
  · obtain ⟨r, h1, _⟩ := aKu h ex ey
    simp [h1]
  · rw [ltE h ex ey, ltE h ey ex]
    simp only [decide_eq_true_eq]
    rcases Int.lt_trichotomy (iF l x) (iF l y) with h1 | h1 | h1
    · exact .inl (.inr h1)
    · exact .inl (.inl (xZ h ex ey h1))
    · exact .inr h1
  · have ez := sZ hz
    rw [ltE h ex ey, ltE h ey ez, ltE h ex ez]
    simp only [Bool.and_eq_false_iff, decide_eq_false_iff_not, decide_eq_true_eq]
    omega
theorem rX {l : aJ} (h : WF l) : dY l = some (fT l) := by
  have e1 : (fun p : Int × aA => (eL l.players p.1).getD false) = fun p => isE l.players p.1 := by
    funext p
    rw [rY]; rfl
  have hc := h.cnt
  have hl : (nV l).length ≤ 60 := by
    unfold nV
    rw [List.length_map]
    exact Nat.le_trans (List.length_filter_le _ _) hc
  unfold dY
  rw [if_pos (by omega), e1]
  unfold oM
  rw [if_pos ⟨aFc h, by show (nV l).length < _; omega⟩]
  rfl
theorem qB {l : aJ} {n : Int} : n ∈ fT l ↔ isE l.players n = true := by
  unfold fT
  rw [(gR _ _).mem_iff]
  exact vB
theorem oO {l : aJ} (h : WF l) : (fT l).length ≤ 60 := by
  unfold fT
  rw [(gR _ _).length_eq]
  unfold nV
  rw [List.length_map]
  exact Nat.le_trans (List.length_filter_le _ _) h.cnt
theorem aCp {l : aJ} {n : Int} (h : n ∈ fT l) : (pl l n).entered = true := sZ (vB.2 (qB.1 h))
theorem tT {l : aJ} (h : WF l) : (fT l).Pairwise fun a b => iF l a < iF l b := by
  have hs := oL (aFc h)
  have hn : (fT l).Nodup := by
    refine (gR _ _).nodup_iff.2 ?_
    unfold nV
    refine List.Nodup.sublist ?_ h.keys
    exact (List.filter_sublist).map _
  refine List.Pairwise.imp_of_mem (fun {a b} ha hb hab => ?_) (hs.and hn)
  have ea := aCp (l := l) ha
  have eb := aCp (l := l) hb
  rw [ltE h eb ea] at hab
  have h1 := hab.1
  simp at h1
  rcases Int.lt_or_eq_of_le h1 with h2 | h2
  · exact h2
  · exact absurd (xZ h ea eb h2) hab.2
/-- How many of some players are protected. -/
def gd (l : aJ) (xs : List Int) : Nat := (xs.filter fun n => (pl l n).guard).length
theorem aBh (l : aJ) (xs : List Int) (hb : xs.length ≤ 1000) : gE l xs = some ((gd l xs : Nat) : Int) := by
  have key := nQ (S := Int) (fun k i s => eK l xs (xs.length : Int) k s i) xs.length (fun i s => some (s + ((gd l (xs.drop i) : Nat) : Int))) (fun i s => 0 ≤ s ∧ s ≤ i) (fun k i s hi hI ih => ?_) (fun k s hI => ?_) BIG 0 (gO (by omega)) ⟨Int.le_refl _, Int.le_refl _⟩
  · unfold gE
    rw [key]
    simp
  · have hlt : decide ((i : Int) < (xs.length : Int)) = true := decide_eq_true (by omega)
    simp only [eK, hlt, cond_true, fC hi, Option.bind_some, dV (show i < 9223372036854775807 by omega)]
    rw [show (aE xs[i] (aA.mk false false 0 0 false false false false) l.players) = pl l xs[i] from rfl]
    have hd : gd l (xs.drop i) = (if (pl l xs[i]).guard then 1 else 0) + gd l (xs.drop (i + 1)) := by
      unfold gd
      rw [List.drop_eq_getElem_cons hi, List.filter_cons]
      split <;> simp <;> omega
    rw [hd]
    cases (pl l xs[i]).guard with
    | true =>
      simp only [cond_true, if_true]
      rw [gZ (by omega) (by omega), ih _ ⟨by omega, by omega⟩]
      congr 1
      omega
    | false =>
      simp only [cond_false, Bool.false_eq_true, if_false]
      rw [ih _ ⟨by omega, by omega⟩]
      congr 1
      omega
  · simp [eK, lW, gd]

def plc (l : aJ) : Int := l.Field.Places + l.more
theorem tN {l : aJ} (h : WF l) : dR l = some (plc l) := by
  have hf := h.fd
  unfold qM at hf
  simp only [Bool.and_eq_true, zS] at hf
  have hm := h.mr
  unfold dR plc
  rw [gZ (by omega) (by omega)]
/-- Who gets the places, one after the other. -/
def qK (l : aJ) (acc : List Int) : List Int → List Int
  | [] => acc
  | n :: t => qK l (bif decide ((acc.length : Int) < plc l) && (!(pl l n).guard || decide (((gd l acc : Nat) : Int) < l.Field.Guards)) then acc ++ [n] else acc) t
theorem yA (l : aJ) : ∀ (t acc : List Int), (qK l acc t).length ≤ acc.length + t.length
  | [], acc => by simp [qK]
  | n :: t, acc => by
    refine Nat.le_trans (yA l t _) ?_
    cases decide ((acc.length : Int) < plc l) && (!(pl l n).guard || decide (((gd l acc : Nat) : Int) < l.Field.Guards)) <;> simp <;> omega
def kI (l : aJ) : List Int := qK l [] (fT l)
theorem aBk {l : aJ} (h : WF l) : iM l = some (kI l) := by
  have hl := oO h
  unfold iM kI
  rw [rX h]
  simp only [Option.bind_some]
  have key := nQ (eM l (fT l) ((fT l).length : Int)) (fT l).length (fun i acc => some (qK l acc ((fT l).drop i))) (fun i acc => acc.length ≤ i) (fun k i acc hi hI ih => ?_) (fun k acc hI => ?_) BIG [] (gO (by omega)) (Nat.le_refl _)
  · rw [key]; simp
  · have hlt : decide ((i : Int) < ((fT l).length : Int)) = true := decide_eq_true (by omega)
    simp only [eM, hlt, cond_true, fC hi, Option.bind_some, tN h, dV (show i < 9223372036854775807 by omega)]
    rw [show (aE (fT l)[i] (aA.mk false false 0 0 false false false false) l.players) = pl l (fT l)[i] from rfl, aBh l acc (by omega)]
    simp only [Option.bind_some, sG, sK]
    rw [List.drop_eq_getElem_cons hi, qK]
    cases hc : decide ((acc.length : Int) < plc l) && (!(pl l (fT l)[i]).guard || decide (((gd l acc : Nat) : Int) < l.Field.Guards)) with
    | true =>
      simp only [cond_true]
      rw [qY (by simp; omega), Option.bind_some, ih _ (by simp; omega)]
    | false =>
      simp only [cond_false]
      rw [ih _ (by omega)]
  · simp [eM, lX, qK]
def cS (l : aJ) : List Int := bif l.frozen then l.first ++ l.late else kI l
theorem aAg {l : aJ} (h : WF l) (hf : l.first.length ≤ 1000) (hl : l.late.length ≤ 1000) : dH l = some (cS l) := by
  unfold dH cS
  cases l.frozen with
  | true =>
    simp only [Bool.not_true, cond_false, cond_true]
    rw [aGn _ _ (by omega) (by omega)]; rfl
  | false =>
    simp only [Bool.not_false, cond_true, cond_false]
    rw [aBk h]; rfl
def eH (l : aJ) : aJ := bif l.frozen then l else { l with frozen := true, first := kI l }
theorem aBg {l : aJ} (h : WF l) : iL l = some (eH l) := by
  unfold iL eH
  cases hz : l.frozen with
  | true => simp
  | false =>
    simp only [Bool.not_false, cond_true, cond_false]
    rw [aBk h]; rfl
end Go.Am

end
section
namespace Go.Am

theorem aHi (l : aJ) (n : Int) : aE n (aA.mk false false 0 0 false false false false) l.players = pl l n := rfl
def cC (l : aJ) (x : aK) : aJ :=
  let p := pl l x.Player
  bif decide (x.Kind = 1) || decide (x.Kind = 2) then
    bif decide (x.Hour ≤ l.Field.Close) && !p.entered then
      aJ.mk l.Field (bX x.Player (aA.mk true (decide (x.Kind = 2)) x.Rank (l.entered + 1) p.quit p.signed p.wild p.had) l.players) l.wilds l.frozen l.first l.late l.more (l.entered + 1)
    else aJ.mk l.Field (bX x.Player p l.players) l.wilds l.frozen l.first l.late l.more l.entered
  else bif decide (x.Kind = 3) then
    bif ((decide (x.Hour ≤ l.Field.Freeze) && !p.wild) && !p.quit) && decide ((l.wilds.length : Int) < l.Field.Wilds) then
      aJ.mk l.Field (bX x.Player (aA.mk p.entered p.guard p.rank p.turn p.quit p.signed true true) l.players) (l.wilds ++ [x.Player]) l.frozen l.first l.late l.more l.entered
    else aJ.mk l.Field (bX x.Player p l.players) l.wilds l.frozen l.first l.late l.more l.entered
  else bif decide (x.Kind = 4) then
    aJ.mk l.Field (bX x.Player (aA.mk p.entered p.guard p.rank p.turn true p.signed false p.had) l.players) (l.wilds.filter fun m => !decide (m = x.Player)) l.frozen l.first l.late
      (bif p.wild && decide (l.Field.Freeze < x.Hour) then l.more + 1 else l.more) l.entered
  else bif decide (x.Kind = 5) then
    aJ.mk l.Field (bX x.Player (aA.mk p.entered p.guard p.rank p.turn p.quit true p.wild p.had) l.players) l.wilds l.frozen l.first l.late l.more l.entered
  else aJ.mk l.Field (bX x.Player p l.players) l.wilds l.frozen l.first l.late l.more l.entered
theorem aKl (l : aJ) (x : aK) (he : 0 ≤ l.entered ∧ l.entered ≤ 60) (hm : 0 ≤ l.more ∧ l.more ≤ 60) (hw : l.wilds.length ≤ 1000) : iD l x = some (cC l x) := by
  have hd : bY l.wilds (fun y => dS y x) = some (l.wilds.filter fun m => !decide (m = x.Player)) := yI l.wilds _ (fun m => decide (m = x.Player)) (fun m _ => rfl) (by omega)
  have ha : app 8 l.wilds [x.Player] = some (l.wilds ++ [x.Player]) := qY (by simp; omega)
  have w1 : w64 (l.entered + 1) = l.entered + 1 := gZ (by omega) (by omega)
  have w2 : w64 (l.more + 1) = l.more + 1 := gZ (by omega) (by omega)
  unfold iD cC
  simp only [aHi, sK, Option.bind_some, hd, ha, w1, w2]
  by_cases h1 : x.Kind = 1
  · simp only [h1, decide_true, cond_true, Bool.true_or]
    cases decide (x.Hour ≤ l.Field.Close) && !(pl l x.Player).entered <;> rfl
  · by_cases h2 : x.Kind = 2
    · simp only [h2, decide_true, cond_true, Bool.or_true, show decide ((2 : Int) = 1) = false from rfl, cond_false]
      cases decide (x.Hour ≤ l.Field.Close) && !(pl l x.Player).entered <;> rfl
    · have e1 : decide (x.Kind = 1) = false := decide_eq_false h1
      have e2 : decide (x.Kind = 2) = false := decide_eq_false h2
      simp only [e1, e2, cond_false, Bool.or_self]
      cases decide (x.Kind = 3) with
      | true =>
        simp only [cond_true]
        cases ((decide (x.Hour ≤ l.Field.Freeze) && !(pl l x.Player).wild) && !(pl l x.Player).quit) && decide ((l.wilds.length : Int) < l.Field.Wilds) <;> rfl
      | false =>
        simp only [cond_false]
        cases decide (x.Kind = 4) with
        | true =>
          simp only [cond_true]
          cases (pl l x.Player).wild && decide (l.Field.Freeze < x.Hour) <;> rfl
        | false =>
          simp only [cond_false]
          cases decide (x.Kind = 5) <;> rfl

theorem wH {α β : Type} [DecidableEq α] (a : α) (v : β) : ∀ m : List (α × β), (bX a v m).map Prod.fst = if a ∈ m.map Prod.fst then m.map Prod.fst else m.map Prod.fst ++ [a]
  | [] => rfl
  | (b, u) :: m => by
    simp only [bX]
    by_cases h : a = b
    · subst h; simp
    · simp only [h, decide_false, cond_false, List.map_cons, wH a v m, List.mem_cons, false_or]
      split <;> simp
theorem aFw {α β : Type} [DecidableEq α] {a : α} {v : β} {m : List (α × β)} (h : (m.map Prod.fst).Nodup) : ((bX a v m).map Prod.fst).Nodup := by
  rw [wH]
  split
  · exact h
  · rename_i hn
    rw [List.nodup_append]
    exact ⟨h, by simp, fun x hx y hy => by simp at hy; subst hy; exact fun e => hn (e ▸ hx)⟩
theorem aIn {α β : Type} [DecidableEq α] (a : α) (v : β) (m : List (α × β)) : (bX a v m).length ≤ m.length + 1 := by
  have := congrArg List.length (wH a v m)
  rw [List.length_map] at this
  rw [this]
  split <;> simp
/-- The counts, after so many notices. -/
structure Cn (l : aJ) (i : Nat) : Prop where
  pls : l.players.length ≤ i
  ent : l.entered ≤ i
  mr : l.more ≤ i
  wl : l.wilds.length ≤ i
/-- What a notice does to what is known of players. -/
def upP (l : aJ) (x : aK) : aA :=
  let p := pl l x.Player
  bif decide (x.Kind = 1) || decide (x.Kind = 2) then
    bif decide (x.Hour ≤ l.Field.Close) && !p.entered then aA.mk true (decide (x.Kind = 2)) x.Rank (l.entered + 1) p.quit p.signed p.wild p.had else p
  else bif decide (x.Kind = 3) then
    bif ((decide (x.Hour ≤ l.Field.Freeze) && !p.wild) && !p.quit) && decide ((l.wilds.length : Int) < l.Field.Wilds) then aA.mk p.entered p.guard p.rank p.turn p.quit p.signed true true else p
  else bif decide (x.Kind = 4) then aA.mk p.entered p.guard p.rank p.turn true p.signed false p.had
  else bif decide (x.Kind = 5) then aA.mk p.entered p.guard p.rank p.turn p.quit true p.wild p.had
  else p
theorem nM (l : aJ) (x : aK) : (cC l x).players = bX x.Player (upP l x) l.players := by
  unfold cC upP
  cases decide (x.Kind = 1) || decide (x.Kind = 2) with
  | true => simp only [cond_true]; cases decide (x.Hour ≤ l.Field.Close) && !(pl l x.Player).entered <;> rfl
  | false =>
    simp only [cond_false]
    cases decide (x.Kind = 3) with
    | true => simp only [cond_true]; cases ((decide (x.Hour ≤ l.Field.Freeze) && !(pl l x.Player).wild) && !(pl l x.Player).quit) && decide ((l.wilds.length : Int) < l.Field.Wilds) <;> rfl
    | false =>
      simp only [cond_false]
      cases decide (x.Kind = 4) with
      | true => rfl
      | false => simp only [cond_false]; cases decide (x.Kind = 5) <;> rfl
theorem qS (l : aJ) (x : aK) (n : Int) : pl (cC l x) n = bif decide (n = x.Player) then upP l x else pl l n := by
  unfold pl
  rw [nM, wG]
theorem vF (l : aJ) (x : aK) : (cC l x).Field = l.Field ∧ (cC l x).frozen = l.frozen ∧ (cC l x).first = l.first ∧ (cC l x).late = l.late := by
  unfold cC
  cases decide (x.Kind = 1) || decide (x.Kind = 2) with
  | true => simp only [cond_true]; cases decide (x.Hour ≤ l.Field.Close) && !(pl l x.Player).entered <;> exact ⟨rfl, rfl, rfl, rfl⟩
  | false =>
    simp only [cond_false]
    cases decide (x.Kind = 3) with
    | true => simp only [cond_true]; cases ((decide (x.Hour ≤ l.Field.Freeze) && !(pl l x.Player).wild) && !(pl l x.Player).quit) && decide ((l.wilds.length : Int) < l.Field.Wilds) <;> exact ⟨rfl, rfl, rfl, rfl⟩
    | false =>
      simp only [cond_false]
      cases decide (x.Kind = 4) with
      | true => exact ⟨rfl, rfl, rfl, rfl⟩
      | false => simp only [cond_false]; cases decide (x.Kind = 5) <;> exact ⟨rfl, rfl, rfl, rfl⟩
/-- Whether a notice enters its player. -/
def nY (l : aJ) (x : aK) : Bool := (decide (x.Kind = 1) || decide (x.Kind = 2)) && (decide (x.Hour ≤ l.Field.Close) && !(pl l x.Player).entered)
theorem aEa (l : aJ) (x : aK) : (cC l x).entered = (bif nY l x then l.entered + 1 else l.entered) ∧
    (nY l x = true → (upP l x).entered = true ∧ (upP l x).turn = l.entered + 1 ∧ (upP l x).rank = x.Rank ∧ (pl l x.Player).entered = false) ∧
    (nY l x = false → (upP l x).entered = (pl l x.Player).entered ∧ (upP l x).turn = (pl l x.Player).turn ∧ (upP l x).rank = (pl l x.Player).rank) := by
  unfold cC upP nY
  cases decide (x.Kind = 1) || decide (x.Kind = 2) with
  | true =>
    simp only [cond_true, Bool.true_and]
    cases h : decide (x.Hour ≤ l.Field.Close) && !(pl l x.Player).entered with
    | true =>
      simp only [Bool.and_eq_true, Bool.not_eq_true'] at h
      exact ⟨rfl, fun _ => ⟨rfl, rfl, rfl, h.2⟩, fun h => by cases h⟩
    | false => exact ⟨rfl, (fun h => by cases h), fun _ => ⟨rfl, rfl, rfl⟩⟩
  | false =>
    simp only [cond_false, Bool.false_and]
    cases decide (x.Kind = 3) with
    | true => simp only [cond_true]; cases ((decide (x.Hour ≤ l.Field.Freeze) && !(pl l x.Player).wild) && !(pl l x.Player).quit) && decide ((l.wilds.length : Int) < l.Field.Wilds) <;> exact ⟨rfl, (fun h => by cases h), fun _ => ⟨rfl, rfl, rfl⟩⟩
    | false =>
      simp only [cond_false]
      cases decide (x.Kind = 4) with
      | true => exact ⟨rfl, (fun h => by cases h), fun _ => ⟨rfl, rfl, rfl⟩⟩
      | false => simp only [cond_false]; cases decide (x.Kind = 5) <;> exact ⟨rfl, (fun h => by cases h), fun _ => ⟨rfl, rfl, rfl⟩⟩
theorem aBs (l : aJ) (x : aK) : (l.more ≤ (cC l x).more ∧ (cC l x).more ≤ l.more + 1) ∧ (cC l x).wilds.length ≤ l.wilds.length + 1 := by
  have hf : (l.wilds.filter fun m => !decide (m = x.Player)).length ≤ l.wilds.length := List.length_filter_le _ _
  unfold cC
  cases decide (x.Kind = 1) || decide (x.Kind = 2) with
  | true => simp only [cond_true]; cases decide (x.Hour ≤ l.Field.Close) && !(pl l x.Player).entered <;> simp <;> omega
  | false =>
    simp only [cond_false]
    cases decide (x.Kind = 3) with
    | true => simp only [cond_true]; cases ((decide (x.Hour ≤ l.Field.Freeze) && !(pl l x.Player).wild) && !(pl l x.Player).quit) && decide ((l.wilds.length : Int) < l.Field.Wilds) <;> simp <;> omega
    | false =>
      simp only [cond_false]
      cases decide (x.Kind = 4) with
      | true => simp only [cond_true]; cases (pl l x.Player).wild && decide (l.Field.Freeze < x.Hour) <;> simp only [cond_true, cond_false] <;> omega
      | false => simp only [cond_false]; cases decide (x.Kind = 5) <;> simp <;> omega
theorem aKm {l : aJ} {x : aK} {i : Nat} (h : WF l) (hc : Cn l i) (hi : i < 60) (hx : hC x = true) : WF (cC l x) ∧ Cn (cC l x) (i + 1) := by
  obtain ⟨hF, _, _, _⟩ := vF l x
  obtain ⟨t1, t2, t3⟩ := aEa l x
  obtain ⟨m1, m2⟩ := aBs l x
  have hent := h.ent
  have hmr := h.mr
  obtain ⟨c1, c2, c3, c4⟩ := hc
  have hpl : (cC l x).players.length ≤ i + 1 := by rw [nM]; have := aIn x.Player (upP l x) l.players; omega
  have hE : 0 ≤ (cC l x).entered ∧ (cC l x).entered ≤ (i : Int) + 1 ∧ l.entered ≤ (cC l x).entered := by rw [t1]; cases nY l x <;> simp only [cond_true, cond_false] <;> omega
  have hrank : nY l x = true → 0 ≤ x.Rank ∧ x.Rank ≤ 9999 := fun he => by
    unfold nY at he
    simp only [Bool.and_eq_true, Bool.or_eq_true, decide_eq_true_eq] at he
    unfold hC at hx
    simp only [Bool.and_eq_true] at hx
    rcases he.1 with h1 | h1
    · have := hx.2
      rw [h1] at this
      simpa [wi] using this
    · have := hx.2
      rw [h1] at this
      simp only [show decide ((2 : Int) = 1) = false from rfl, cond_false, decide_true, cond_true, zS] at this
      omega
  refine ⟨⟨by rw [hF]; exact h.fd, by rw [nM]; exact aFw h.keys, by omega, ⟨hE.1, by omega⟩, ⟨by omega, by omega⟩, fun n hn => ?_, fun n m hn hm he => ?_⟩, ⟨hpl, by omega, by omega, by omega⟩⟩
  · rw [qS] at hn ⊢
    by_cases hnx : n = x.Player
    · subst hnx
      simp only [decide_true, cond_true] at hn ⊢
      cases he : nY l x with
      | true =>
        obtain ⟨_, e2, e3, _⟩ := t2 he
        have := hrank he
        rw [t1, he, e2, e3]
        simp only [cond_true]
        omega
      | false =>
        obtain ⟨e1, e2, e3⟩ := t3 he
        rw [e1] at hn
        have := h.turn _ hn
        rw [e2, e3]
        omega
    · simp only [hnx, decide_false, cond_false] at hn ⊢
      have := h.turn _ hn
      omega
  · rw [qS] at hn hm
    rw [qS, qS] at he
    by_cases hnx : n = x.Player <;> by_cases hmx : m = x.Player
    · rw [hnx, hmx]
    · subst hnx
      simp only [decide_true, cond_true, hmx, decide_false, cond_false] at hn hm he
      cases hen : nY l x with
      | true =>
        have := h.turn _ hm
        have := (t2 hen).2.1
        omega
      | false =>
        obtain ⟨e1, e2, _⟩ := t3 hen
        rw [e1] at hn
        rw [e2] at he
        exact h.inj _ _ hn hm he
    · subst hmx
      simp only [decide_true, cond_true, hnx, decide_false, cond_false] at hn hm he
      cases hen : nY l x with
      | true =>
        have := h.turn _ hn
        have := (t2 hen).2.1
        omega
      | false =>
        obtain ⟨e1, e2, _⟩ := t3 hen
        rw [e1] at hm
        rw [e2] at he
        exact h.inj _ _ hn hm he
    · simp only [hnx, hmx, decide_false, cond_false] at hn hm he
      exact h.inj _ _ hn hm he
end Go.Am

end
section
namespace Go.Am

def wl (l : aJ) (a b : List Int) : aJ := aJ.mk l.Field l.players l.wilds l.frozen a b l.more l.entered
theorem xF {l : aJ} (h : WF l) (a b : List Int) : WF (wl l a b) := ⟨h.fd, h.keys, h.cnt, h.ent, h.mr, h.turn, h.inj⟩
/-- Who may get an open place. -/
def oD (l : aJ) (inn : List Int) (n : Int) : Bool := ((pl l n).signed && !decide (n ∈ inn)) && (!(pl l n).guard || decide (((gd l inn : Nat) : Int) < l.Field.Guards))
theorem aIc (l : aJ) (inn : List Int) (n : Int) (hb : inn.length ≤ 1000) : iK n l inn = some (oD l inn n) := by
  unfold iK oD
  rw [aHi, aBh l inn hb, tH inn (by omega) n]
  simp only [Option.bind_some, sK, sG]
theorem aCu (l : aJ) (n : Int) : eB n l.players = some (!isE l.players n) := by
  unfold eB
  rw [rY]; rfl
def lE (l : aJ) (first : List Int) : Nat → List Int → List Int
  | 0, late => late
  | k + 1, late => bif decide (((first ++ late).length : Int) < plc l) then (match (fT l).find? (oD l (first ++ late)) with
    | none => late
    | some n => lE l first k (late ++ [n])) else late
theorem zK {l : aJ} (h : WF l) : 1 ≤ plc l ∧ plc l ≤ 92 := by
  have hf := h.fd
  unfold qM at hf
  simp only [Bool.and_eq_true, zS] at hf
  have hm := h.mr
  unfold plc
  omega
theorem aFq {α : Type} (p : α → Bool) (xs : List α) (hb : xs.length ≤ 1000) : (match xs.find? p with
    | none => gT p xs = -1
    | some n => 0 ≤ gT p xs ∧ idx xs (gT p xs) = some n) := by
  cases hf : xs.find? p with
  | none =>
    simp only
    unfold gT
    rw [if_neg]
    intro hl
    have h1 := List.findIdx_getElem (p := p) (w := hl)
    exact (List.find?_eq_none.1 hf) _ (List.getElem_mem hl) h1
  | some n =>
    simp only
    have hl : xs.findIdx p < xs.length := List.findIdx_lt_length_of_exists ⟨n, List.mem_of_find?_eq_some hf, List.find?_some hf⟩
    unfold gT
    rw [if_pos hl]
    refine ⟨by omega, ?_⟩
    rw [fC hl]
    rw [List.find?_eq_getElem?_findIdx, List.getElem?_eq_getElem hl] at hf
    exact hf
theorem aJz {l : aJ} (h : WF l) (hfz : l.frozen = true) (first : List Int) : ∀ (d : Nat) (late : List Int) (k K : Nat), (plc l - ((first ++ late).length : Int)).toNat ≤ d → d < K → d ≤ k → (first ++ late).length ≤ 500 →
    fU l.players l.wilds first K late l.Field l.frozen l.more l.entered (first ++ late) = some (wl l first (lE l first k late)) := by
  intro d
  induction d with
  | zero =>
    intro late k K hd hK hk hb
    obtain ⟨K, rfl⟩ : ∃ q, K = q + 1 := ⟨K - 1, by omega⟩
    have hlt : decide (((first ++ late).length : Int) < plc l) = false := decide_eq_false (by omega)
    have hp : dR (aJ.mk l.Field l.players l.wilds l.frozen first late l.more l.entered) = some (plc l) := tN (xF h first late)
    have hg : lE l first k late = late := by
      cases k with
      | zero => rfl
      | succ k => simp only [lE, hlt, cond_false]
    simp only [fU, hp, Option.bind_some, hlt, cond_false, lD, hg]
    rfl
  | succ d ih =>
    intro late k K hd hK hk hb
    obtain ⟨K, rfl⟩ : ∃ q, K = q + 1 := ⟨K - 1, by omega⟩
    obtain ⟨k, rfl⟩ : ∃ q, k = q + 1 := ⟨k - 1, by omega⟩
    have hp : dR (aJ.mk l.Field l.players l.wilds l.frozen first late l.more l.entered) = some (plc l) := tN (xF h first late)
    have hen : dY (aJ.mk l.Field l.players l.wilds l.frozen first late l.more l.entered) = some (fT l) := rX (xF h first late)
    have hix : fI (fT l) (fun y => iK y (aJ.mk l.Field l.players l.wilds l.frozen first late l.more l.entered) (first ++ late)) = some (gT (oD l (first ++ late)) (fT l)) :=
      aCz (fT l) _ (oD l (first ++ late)) (fun n _ => aIc (wl l first late) (first ++ late) n (by omega)) (by have := oO h; omega)
    have hfi := aFq (oD l (first ++ late)) (fT l) (by have := oO h; omega)
    simp only [fU, hp, Option.bind_some, lE]
    cases hlt : decide (((first ++ late).length : Int) < plc l) with
    | false =>
      simp only [cond_false, lD]
      rfl
    | true =>
      simp only [cond_true, hen, Option.bind_some, hix]
      have hlt' : ((first ++ late).length : Int) < plc l := by simpa using hlt
      have hp92 := zK h
      cases hf : (fT l).find? (oD l (first ++ late)) with
      | none =>
        rw [hf] at hfi
        simp only at hfi
        rw [hfi]
        rfl
      | some n =>
        rw [hf] at hfi
        simp only at hfi
        rw [decide_eq_false (by omega), cond_false, hfi.2]
        simp only [Option.bind_some]
        have hbl : late.length ≤ 500 := by simp at hb; omega
        rw [qY (by simp; omega)]
        simp only [Option.bind_some]
        have hm : dH (aJ.mk l.Field l.players l.wilds l.frozen first (late ++ [n]) l.more l.entered) = some (first ++ (late ++ [n])) := by
          have := aAg (xF h first (late ++ [n])) (show first.length ≤ 1000 by simp at hb; omega) (show (late ++ [n]).length ≤ 1000 by simp; omega)
          rw [show (aJ.mk l.Field l.players l.wilds l.frozen first (late ++ [n]) l.more l.entered) = wl l first (late ++ [n]) from rfl, this]
          unfold cS
          rw [show (wl l first (late ++ [n])).frozen = l.frozen from rfl, hfz]
          rfl
        rw [hm]
        simp only [Option.bind_some]
        refine ih (late ++ [n]) k K ?_ (by omega) (by omega) ?_
        · simp only [List.length_append, List.length_cons, List.length_nil] at hd hlt' ⊢
          omega
        · simp only [List.length_append, List.length_cons, List.length_nil] at hb hlt' ⊢
          omega
def pM (l : aJ) : aJ := wl l (l.first.filter fun n => isE l.players n) (lE l (l.first.filter fun n => isE l.players n) 100 (l.late.filter fun n => isE l.players n))
theorem aKa {l : aJ} (h : WF l) (hfz : l.frozen = true) (hb : (l.first ++ l.late).length ≤ 200) : iC l = some (pM l) := by
  have hb' : l.first.length + l.late.length ≤ 200 := by simpa using hb
  have d1 : bY l.first (fun y => eB y l.players) = some (l.first.filter fun n => isE l.players n) := by
    rw [yI l.first _ (fun n => !isE l.players n) (fun n _ => aCu l n) (by omega)]
    simp
  have d2 : bY l.late (fun y => eB y l.players) = some (l.late.filter fun n => isE l.players n) := by
    rw [yI l.late _ (fun n => !isE l.players n) (fun n _ => aCu l n) (by omega)]
    simp
  have f1 : (l.first.filter fun n => isE l.players n).length ≤ l.first.length := List.length_filter_le _ _
  have f2 : (l.late.filter fun n => isE l.players n).length ≤ l.late.length := List.length_filter_le _ _
  have hm := aAg (xF h (l.first.filter fun n => isE l.players n) (l.late.filter fun n => isE l.players n)) (show (l.first.filter fun n => isE l.players n).length ≤ 1000 by omega) (show (l.late.filter fun n => isE l.players n).length ≤ 1000 by omega)
  unfold iC pM
  rw [d1, Option.bind_some, d2, Option.bind_some]
  rw [show (aJ.mk l.Field l.players l.wilds l.frozen (l.first.filter fun n => isE l.players n) (l.late.filter fun n => isE l.players n) l.more l.entered) = wl l (l.first.filter fun n => isE l.players n) (l.late.filter fun n => isE l.players n) from rfl, hm, Option.bind_some]
  unfold cS
  rw [show (wl l (l.first.filter fun n => isE l.players n) (l.late.filter fun n => isE l.players n)).frozen = l.frozen from rfl]
  rw [show (bif l.frozen then (wl l (l.first.filter fun n => isE l.players n) (l.late.filter fun n => isE l.players n)).first ++ (wl l (l.first.filter fun n => isE l.players n) (l.late.filter fun n => isE l.players n)).late else kI (wl l (l.first.filter fun n => isE l.players n) (l.late.filter fun n => isE l.players n))) = (l.first.filter fun n => isE l.players n) ++ (l.late.filter fun n => isE l.players n) by rw [hfz]; rfl]
  have hp := zK h
  exact aJz h hfz _ 100 _ 100 BIG (by omega) (gO (by omega)) (Nat.le_refl _) (by simp only [List.length_append]; omega)
theorem aAx {l : aJ} (h : WF l) (first : List Int) : ∀ (k : Nat) (late : List Int), (first ++ lE l first k late).length ≤ max (first ++ late).length 92
  | 0, late => by simp only [lE]; omega
  | k + 1, late => by
    have hp := zK h
    simp only [lE]
    cases hlt : decide (((first ++ late).length : Int) < plc l) with
    | false => simp only [cond_false]; omega
    | true =>
      simp only [cond_true]
      have hlt' : ((first ++ late).length : Int) < plc l := by simpa using hlt
      cases (fT l).find? (oD l (first ++ late)) with
      | none => simp only; omega
      | some n =>
        simp only
        have := aAx h first k (late ++ [n])
        simp only [List.length_append, List.length_cons, List.length_nil] at this hlt' ⊢
        omega

/-! ### After the notices of an hour -/
/-- One more notice. -/
def eX (l : aJ) (x : aK) : aJ :=
  let l2 := cC (bif decide (l.Field.Freeze < x.Hour) then eH l else l) x
  bif l2.frozen then pM l2 else l2
structure fX (f : aT) (l : aJ) (i : Nat) : Prop where
  wf : WF l
  cn : Cn l i
  fd : l.Field = f
  len : (l.first ++ l.late).length ≤ 92
  fz : l.frozen = false → l.first = [] ∧ l.late = []
theorem oC {f : aT} {l : aJ} {i : Nat} (h : fX f l i) : fX f (eH l) i := by
  unfold eH
  cases hz : l.frozen with
  | true => exact h
  | false =>
    obtain ⟨_, hlate⟩ := h.fz hz
    simp only [cond_false]
    refine ⟨⟨h.wf.fd, h.wf.keys, h.wf.cnt, h.wf.ent, h.wf.mr, h.wf.turn, h.wf.inj⟩, ⟨h.cn.pls, h.cn.ent, h.cn.mr, h.cn.wl⟩, h.fd, ?_, fun h => by cases h⟩
    show (kI l ++ l.late).length ≤ 92
    have h1 := yA l (fT l) []
    have h2 := oO h.wf
    rw [hlate]
    simp only [List.append_nil]
    unfold kI
    simp only [List.length_nil] at h1
    omega
theorem tQ {f : aT} {l : aJ} {x : aK} {i : Nat} (h : fX f l i) (hi : i < 60) (hx : hC x = true) : fX f (cC l x) (i + 1) := by
  obtain ⟨h1, h2⟩ := aKm h.wf h.cn hi hx
  obtain ⟨g1, g2, g3, g4⟩ := vF l x
  exact ⟨h1, h2, by rw [g1]; exact h.fd, by rw [g3, g4]; exact h.len, fun hz => by rw [g2] at hz; rw [g3, g4]; exact h.fz hz⟩
theorem aAy {f : aT} {l : aJ} {i : Nat} (h : fX f l i) (hz : l.frozen = true) : fX f (pM l) i := by
  have hl : l.first.length + l.late.length ≤ 92 := by have := h.len; simpa using this
  have f1 : (l.first.filter fun n => isE l.players n).length ≤ l.first.length := List.length_filter_le _ _
  have f2 : (l.late.filter fun n => isE l.players n).length ≤ l.late.length := List.length_filter_le _ _
  refine ⟨xF h.wf _ _, ⟨h.cn.pls, h.cn.ent, h.cn.mr, h.cn.wl⟩, h.fd, ?_, fun hf => ?_⟩
  · have := aAx h.wf (l.first.filter fun n => isE l.players n) 100 (l.late.filter fun n => isE l.players n)
    simp only [List.length_append] at this
    show ((l.first.filter fun n => isE l.players n) ++ lE l (l.first.filter fun n => isE l.players n) 100 (l.late.filter fun n => isE l.players n)).length ≤ 92
    simp only [List.length_append]
    omega
  · have : l.frozen = false := hf
    rw [hz] at this; cases this
theorem oZ {f : aT} {l : aJ} {x : aK} {i : Nat} (h : fX f l i) (hi : i < 60) (hx : hC x = true) : fX f (eX l x) (i + 1) := by
  unfold eX
  have h1 : fX f (bif decide (l.Field.Freeze < x.Hour) then eH l else l) i := by
    cases decide (l.Field.Freeze < x.Hour) with
    | true => exact oC h
    | false => exact h
  have h2 := tQ h1 hi hx
  simp only
  cases hz : (cC (bif decide (l.Field.Freeze < x.Hour) then eH l else l) x).frozen with
  | true => exact aAy h2 hz
  | false => exact h2
def gI (f : aT) : aJ := aJ.mk f [] [] false [] [] 0 0
theorem oW {f : aT} (hf : qM f = true) : fX f (gI f) 0 :=
  ⟨⟨hf, .nil, by simp [gI], ⟨Int.le_refl _, by simp [gI]⟩, ⟨Int.le_refl _, by simp [gI]⟩, fun n h => by simp [pl, gI, aE] at h, fun n m h => by simp [pl, gI, aE] at h⟩, ⟨by simp [gI], by simp [gI], by simp [gI], by simp [gI]⟩, rfl, by simp [gI], fun _ => ⟨rfl, rfl⟩⟩
/-- The notices of an hour and before. -/
def oT (hour : Int) (l : aJ) : List aK → aJ
  | [] => l
  | x :: t => bif decide (hour < x.Hour) then l else oT hour (eX l x) t
def sM (hour : Int) (l : aJ) : aJ := bif decide (l.Field.Freeze < hour) then eH l else l
theorem vC {f : aT} (hour : Int) : ∀ (t : List aK) (l : aJ) (i : Nat), fX f l i → i + t.length ≤ 60 → (∀ x ∈ t, hC x = true) → ∃ j, j ≤ 60 ∧ fX f (oT hour l t) j
  | [], l, i, h, hi, _ => ⟨i, by simpa using hi, h⟩
  | x :: t, l, i, h, hi, hx => by
    simp only [oT]
    cases decide (hour < x.Hour) with
    | true => exact ⟨i, by simp at hi; omega, h⟩
    | false =>
      simp only [List.length_cons] at hi
      exact vC hour t _ (i + 1) (oZ h (by omega) (hx x (by simp))) (by omega) fun y hy => hx y (by simp [hy])
def cP (f : aT) (l : List aK) (hour : Int) : aJ := sM hour (oT hour (gI f) (fA l))
theorem aHv {f : aT} (T : List aK) (hT : ∀ x ∈ T, hC x = true) (hl : T.length ≤ 60) (hour : Int) : ∀ (d i k : Nat) (l : aJ), T.length - i = d → d < k → i ≤ T.length → fX f l i →
    eG hour (T.length : Int) f T k (i : Int) l.players l.wilds l.first l.late l.Field l.frozen l.more l.entered = some (some (sM hour (oT hour l (T.drop i)))) := by
  have hend : ∀ {l : aJ} {i : Nat}, fX f l i → kH hour f l.players l.wilds l.first l.late l.Field l.frozen l.more l.entered = some (some (sM hour l)) := by
    intro l i h
    unfold kH sM
    rw [h.fd]
    cases decide (f.Freeze < hour) with
    | true =>
      simp only [cond_true]
      have := aBg h.wf
      rw [show (aJ.mk f l.players l.wilds l.frozen l.first l.late l.more l.entered) = l by rw [← h.fd], this]
      rfl
    | false =>
      simp only [cond_false]
      rw [show (aJ.mk f l.players l.wilds l.frozen l.first l.late l.more l.entered) = l by rw [← h.fd]]
  intro d
  induction d with
  | zero =>
    intro i k l hd hk hi h
    obtain ⟨k, rfl⟩ : ∃ q, k = q + 1 := ⟨k - 1, by omega⟩
    have : i = T.length := by omega
    subst this
    simp only [eG, Int.lt_irrefl, decide_false, cond_false, List.drop_length, oT]
    exact hend h
  | succ d ih =>
    intro i k l hd hk hi h
    obtain ⟨k, rfl⟩ : ∃ q, k = q + 1 := ⟨k - 1, by omega⟩
    have hil : i < T.length := by omega
    have hlt : decide ((i : Int) < (T.length : Int)) = true := decide_eq_true (by omega)
    have hw : w64 ((i : Int) + 1) = ((i + 1 : Nat) : Int) := dV (by omega)
    have hx : hC T[i] = true := hT _ (List.getElem_mem hil)
    rw [List.drop_eq_getElem_cons hil, oT]
    simp only [eG, hlt, cond_true, fC hil, Option.bind_some, hw]
    cases decide (hour < T[i].Hour) with
    | true => simp only [cond_true]; exact hend h
    | false =>
      simp only [cond_false]
      have hmk : (aJ.mk l.Field l.players l.wilds l.frozen l.first l.late l.more l.entered) = l := rfl
      have goon : ∀ (l1 : aJ), fX f l1 i → ((iD l1 T[i]).bind fun r25 =>
          bif r25.frozen then ((iC r25).bind fun r31 =>
          (eG hour (T.length : Int) f T k) ((i + 1 : Nat) : Int) r31.players r31.wilds r31.first r31.late r31.Field r31.frozen r31.more r31.entered)
          else ((eG hour (T.length : Int) f T k) ((i + 1 : Nat) : Int) r25.players r25.wilds r25.first r25.late r25.Field r25.frozen r25.more r25.entered)) =
          some (some (sM hour (oT hour (bif (cC l1 T[i]).frozen then pM (cC l1 T[i]) else cC l1 T[i]) (T.drop (i + 1))))) := by
        intro l1 h1
        have hwl := h1.cn.wl
        rw [aKl l1 T[i] h1.wf.ent h1.wf.mr (by omega)]
        simp only [Option.bind_some]
        have h2 := tQ h1 (by omega) hx
        cases hz : (cC l1 T[i]).frozen with
        | true =>
          simp only [cond_true]
          rw [aKa h2.wf hz (by have := h2.len; omega)]
          simp only [Option.bind_some]
          exact ih (i + 1) k _ (by omega) (by omega) (by omega) (aAy h2 hz)
        | false =>
          simp only [cond_false]
          have := ih (i + 1) k _ (by omega) (by omega) (by omega) h2
          rw [hz] at this
          exact this
      unfold eX
      rw [h.fd]
      cases decide (f.Freeze < T[i].Hour) with
      | true =>
        simp only [cond_true]
        have hfz := aBg h.wf
        rw [show (aJ.mk f l.players l.wilds l.frozen l.first l.late l.more l.entered) = l by rw [← h.fd], hfz]
        simp only [Option.bind_some]
        exact goon (eH l) (oC h)
      | false =>
        simp only [cond_false]
        rw [show (aJ.mk f l.players l.wilds l.frozen l.first l.late l.more l.entered) = l by rw [← h.fd]]
        exact goon l h
theorem vG (l : List aK) : (fA l).length ≤ l.length := by
  unfold fA
  have h1 := (gR (fun a b => dJ a b) l).length_eq
  rw [← h1]
  cases dB (fun a b => dJ a b) l with
  | nil => simp [nC]
  | cons p t => simp only [nC, List.length_cons]; have := (aIl p t).length_le; omega
theorem aCi {f : aT} {l : List aK} (h : VL f l) (hour : Int) : mN f l hour = some (some (cP f l hour)) := by
  have hb : ∀ x ∈ l, bN x := fun x hx => aFk (h.nt x hx)
  obtain ⟨e1, e2⟩ := aKw h.len hb h.id
  have hT := vG l
  have hlen := h.len
  unfold mN iH
  rw [Option.bind_some, e1, Option.bind_some, e2, Option.bind_some]
  exact aHv (fA l) (fun x hx => h.nt x ((mE x).1 hx)) (by omega) hour _ 0 BIG (gI f) rfl (gO (by omega)) (Nat.zero_le _) (oW h.fd)
theorem pD {f : aT} {l : List aK} (h : VL f l) (hour : Int) : ∃ j, j ≤ 60 ∧ fX f (cP f l hour) j := by
  have hT := vG l
  have hlen := h.len
  obtain ⟨j, hj, hg⟩ := vC hour (fA l) (gI f) 0 (oW h.fd) (by omega) fun x hx => h.nt x ((mE x).1 hx)
  refine ⟨j, hj, ?_⟩
  unfold cP sM
  cases decide ((oT hour (gI f) (fA l)).Field.Freeze < hour) with
  | true => exact oC hg
  | false => exact hg
end Go.Am

end
section
namespace Go.Am

theorem aDg (l : aJ) : ∀ (t acc : List Int) {n : Int}, n ∈ qK l acc t → n ∈ acc ∨ n ∈ t
  | [], acc, n, h => .inl h
  | m :: t, acc, n, h => by
    rcases aDg l t _ h with h1 | h1
    · cases hc : decide ((acc.length : Int) < plc l) && (!(pl l m).guard || decide (((gd l acc : Nat) : Int) < l.Field.Guards)) with
      | true =>
        rw [hc] at h1
        simp only [cond_true, List.mem_append, List.mem_singleton] at h1
        rcases h1 with h1 | h1
        · exact .inl h1
        · exact .inr (by simp [h1])
      | false =>
        rw [hc] at h1
        exact .inl h1
    · exact .inr (by simp [h1])
theorem rG {f : aT} {l : aJ} {i : Nat} (h : fX f l i) : (cS l).length ≤ 92 := by
  unfold cS
  cases l.frozen with
  | true => exact h.len
  | false =>
    simp only [cond_false]
    have h1 := yA l (fT l) []
    have h2 := oO h.wf
    unfold kI
    simp only [List.length_nil] at h1
    omega
theorem yC {f : aT} {l : aJ} {i : Nat} (h : fX f l i) : dH l = some (cS l) := by
  have := h.len
  simp only [List.length_append] at this
  exact aAg h.wf (by omega) (by omega)
/-- The alternates. -/
def yD (l : aJ) : List Int := (fT l).filter fun n => !decide (n ∈ cS l)
theorem aHg {f : aT} {l : aJ} {i : Nat} (h : fX f l i) : fZ l = some (yD l) := by
  have hm := rG h
  unfold fZ yD
  rw [yC h, Option.bind_some, rX h.wf, Option.bind_some]
  rw [yI (fT l) _ (fun n => decide (n ∈ cS l)) (fun n _ => by unfold iU; rw [tH _ (by omega)]; rfl) (by have := oO h.wf; omega)]
  rfl
theorem aAl (f : aT) (l : List aK) (hour player : Int) : lZ f l hour player = some (bif !decide (rW f l = 0) then (none, rW f l) else bif !wi hour 0 9999 || !wi player 0 999 then (none, 1) else (some (cP f l hour), 0)) := by
  unfold lZ
  rw [aGr, Option.bind_some]
  cases hc : decide (rW f l = 0) with
  | false => rfl
  | true =>
    simp only [Bool.not_true, cond_false, aAd, Option.bind_some, sG]
    cases !wi hour 0 9999 || !wi player 0 999 with
    | true => rfl
    | false =>
      simp only [cond_false]
      rw [aCi (nO.1 (by simpa using hc)) hour]
      rfl
/-- What List answers. -/
def nA (f : aT) (l : List aK) (hour : Int) : dE :=
  dE.mk (cS (cP f l hour)) (cP f l hour).wilds (yD (cP f l hour)) (plc (cP f l hour) - ((cS (cP f l hour)).length : Int))
theorem zT {f : aT} {l : List aK} (h : VL f l) {hour : Int} (hh : wi hour 0 9999 = true) : lB f l hour = some (nA f l hour, 0) := by
  obtain ⟨i, hi, hg⟩ := pD h hour
  have hm := rG hg
  have hp := zK hg.wf
  unfold lB nA
  rw [aAl, nO.2 h, hh]
  simp only [decide_true, Bool.not_true, cond_false, show wi 0 0 999 = true from rfl, Bool.or_self, Option.bind_some]
  rw [yC hg, Option.bind_some, aHg hg, Option.bind_some, tN hg.wf, Option.bind_some, gZ (by omega) (by omega)]

/-! ### The order of the notices does not matter. -/
end Go.Am

end
section
namespace Go.Am

def pV (a b c : List Int) (p : Int) : Int × Int :=
  bif decide (0 ≤ gT (fun x => decide (p = x)) a) then (1, gT (fun x => decide (p = x)) a + 1)
  else bif decide (0 ≤ gT (fun x => decide (p = x)) b) then (2, gT (fun x => decide (p = x)) b + 1)
  else bif decide (0 ≤ gT (fun x => decide (p = x)) c) then (3, gT (fun x => decide (p = x)) c + 1)
  else (0, 0)
theorem tW {α : Type} (p : α → Bool) (xs : List α) : -1 ≤ gT p xs ∧ gT p xs ≤ xs.length := by
  unfold gT
  split <;> omega
theorem aIy (a b c : List Int) (p : Int) (ha : a.length ≤ 1000) (hb : b.length ≤ 1000) (hc : c.length ≤ 1000) : gM p [a, b, c] 3 BIG 0 = some (pV a b c p) := by
  obtain ⟨k, hk⟩ : ∃ k, BIG = k + 1 + 1 + 1 + 1 := ⟨BIG - 4, by unfold BIG; omega⟩
  have i1 := aDq a p (by omega)
  have i2 := aDq b p (by omega)
  have i3 := aDq c p (by omega)
  have r1 := tW (fun x => decide (p = x)) a
  have r2 := tW (fun x => decide (p = x)) b
  have r3 := tW (fun x => decide (p = x)) c
  rw [hk]
  unfold pV
  simp only [gM, mU, show decide ((0 : Int) < 3) = true from rfl, cond_true, show idx [a, b, c] 0 = some a from rfl, Option.bind_some, show w64 (0 + 1) = 1 from rfl, show decide ((1 : Int) < 3) = true from rfl, show idx [a, b, c] 1 = some b from rfl, show w64 (1 + 1) = 2 from rfl, show decide ((2 : Int) < 3) = true from rfl, show idx [a, b, c] 2 = some c from rfl, show w64 (2 + 1) = 3 from rfl, show decide ((3 : Int) < 3) = false from rfl, cond_false, i1, i2, i3]
  rw [gZ (by omega) (by omega), gZ (by omega) (by omega), gZ (by omega) (by omega)]
  cases decide (0 ≤ gT (fun x => decide (p = x)) a) <;> cases decide (0 ≤ gT (fun x => decide (p = x)) b) <;> cases decide (0 ≤ gT (fun x => decide (p = x)) c) <;> rfl
def rL (l : aJ) (p : Int) : Int × Int := pV (cS l) l.wilds (yD l) p
theorem aIo {l : aJ} (h : WF l) : (yD l).length ≤ 60 := Nat.le_trans (List.length_filter_le _ _) (oO h)
theorem aDy {f : aT} {l : aJ} {i : Nat} (h : fX f l i) (hi : i ≤ 60) (p : Int) : iV l p = some (rL l p) := by
  have hm := rG h
  have ho := aIo h.wf
  have hw := h.cn.wl
  unfold iV rL
  rw [yC h, Option.bind_some, aHg h, Option.bind_some]
  exact aIy _ _ _ p (by omega) (by omega) (by omega)
/-! ### The entries by an insertion sort. -/
def uZ (l : aJ) (n : Int) : List Int → List Int
  | [] => [n]
  | m :: t => bif decide (iF l n < iF l m) then n :: m :: t else m :: uZ l n t
theorem wE (l : aJ) (n : Int) : ∀ t : List Int, (uZ l n t).Perm (n :: t)
  | [] => .refl _
  | m :: t => by
    simp only [uZ]
    cases decide (iF l n < iF l m) with
    | true => exact .refl _
    | false => exact ((wE l n t).cons m).trans (.swap _ _ _)
theorem xM (l : aJ) (n : Int) : ∀ t : List Int, t.Pairwise (fun a b => iF l a < iF l b) → (∀ m ∈ t, iF l m ≠ iF l n) → (uZ l n t).Pairwise fun a b => iF l a < iF l b
  | [], _, _ => List.pairwise_singleton _ _
  | m :: t, hs, hne => by
    have h1 := List.pairwise_cons.1 hs
    simp only [uZ]
    cases hc : decide (iF l n < iF l m) with
    | true =>
      simp only [decide_eq_true_eq] at hc
      refine List.pairwise_cons.2 ⟨fun b hb => ?_, hs⟩
      rcases List.mem_cons.1 hb with rfl | hb
      · exact hc
      · exact Int.lt_trans hc (h1.1 b hb)
    | false =>
      simp only [decide_eq_false_iff_not] at hc
      refine List.pairwise_cons.2 ⟨fun b hb => ?_, xM l n t h1.2 fun x hx => hne x (by simp [hx])⟩
      rcases List.mem_cons.1 ((wE l n t).mem_iff.1 hb) with rfl | hb
      · have := hne m (by simp); omega
      · exact h1.1 b hb
def aFo (l : aJ) : List Int := (nV l).foldr (uZ l) []
theorem vX (l : aJ) : ∀ t : List Int, (t.foldr (uZ l) []).Perm t
  | [] => .refl _
  | n :: t => (wE l n _).trans ((vX l t).cons n)
theorem tJ {l : aJ} (h : WF l) : fT l = aFo l := by
  have hn : (nV l).Nodup := by
    unfold nV
    exact h.keys.sublist ((List.filter_sublist).map _)
  have hs : ∀ t : List Int, t.Nodup → (∀ n ∈ t, (pl l n).entered = true) → (t.foldr (uZ l) []).Pairwise fun a b => iF l a < iF l b := by
    intro t
    induction t with
    | nil => intro _ _; exact .nil
    | cons n t ih =>
      intro hn he
      have h1 := List.nodup_cons.1 hn
      refine xM l n _ (ih h1.2 fun m hm => he m (by simp [hm])) fun m hm e => ?_
      have hmt := (vX l t).mem_iff.1 hm
      have := xZ h (he m (by simp [hmt])) (he n (by simp)) e
      subst this
      exact h1.1 hmt
  refine mM (key := iF l) (tT h) (hs (nV l) hn fun n hm => sZ hm) fun n => ?_
  rw [qB]
  show isE l.players n = true ↔ n ∈ (nV l).foldr (uZ l) []
  rw [(vX l (nV l)).mem_iff, vB]
def wX (l : aJ) : List Int := qK l [] (aFo l)
theorem zB {l : aJ} (h : WF l) : kI l = wX l := by
  unfold kI wX
  rw [tJ h]
def rZ (l : aJ) : List Int := bif l.frozen then l.first ++ l.late else wX l
theorem yB {l : aJ} (h : WF l) : cS l = rZ l := by
  unfold cS rZ
  rw [zB h]
def wK (l : aJ) : List Int := (aFo l).filter fun n => !decide (n ∈ rZ l)
theorem aFb {l : aJ} (h : WF l) : yD l = wK l := by
  unfold yD wK
  rw [yB h, tJ h]
def uH (l : aJ) : aJ := bif l.frozen then l else { l with frozen := true, first := wX l }
theorem yT {l : aJ} (h : WF l) : eH l = uH l := by
  unfold eH uH
  rw [zB h]
def yP (l : aJ) (es : List Int) (first : List Int) : Nat → List Int → List Int
  | 0, late => late
  | k + 1, late => bif decide (((first ++ late).length : Int) < plc l) then (match es.find? (oD l (first ++ late)) with
    | none => late
    | some n => yP l es first k (late ++ [n])) else late
theorem aAu {l : aJ} (first : List Int) : ∀ (k : Nat) (late : List Int), lE l first k late = yP l (fT l) first k late
  | 0, _ => rfl
  | k + 1, late => by
    simp only [lE, yP]
    cases (fT l).find? (oD l (first ++ late)) with
    | none => rfl
    | some n => simp only; rw [aAu first k (late ++ [n])]
def aFp (l : aJ) : aJ := wl l (l.first.filter fun n => isE l.players n) (yP l (aFo l) (l.first.filter fun n => isE l.players n) 100 (l.late.filter fun n => isE l.players n))
theorem aId {l : aJ} (h : WF l) : pM l = aFp l := by
  unfold pM aFp
  rw [aAu, tJ h]
def aGg (l : aJ) (x : aK) : aJ :=
  let l2 := cC (bif decide (l.Field.Freeze < x.Hour) then uH l else l) x
  bif l2.frozen then aFp l2 else l2
theorem aJb {f : aT} {l : aJ} {x : aK} {i : Nat} (h : fX f l i) (hi : i < 60) (hx : hC x = true) : eX l x = aGg l x := by
  have h1 : fX f (bif decide (l.Field.Freeze < x.Hour) then eH l else l) i := by
    cases decide (l.Field.Freeze < x.Hour) with
    | true => exact oC h
    | false => exact h
  have h2 := tQ h1 hi hx
  have e1 : (bif decide (l.Field.Freeze < x.Hour) then eH l else l) = bif decide (l.Field.Freeze < x.Hour) then uH l else l := by rw [yT h.wf]
  unfold eX aGg
  simp only
  rw [e1] at h2 ⊢
  rw [aId h2.wf]
def aDs (hour : Int) (l : aJ) : List aK → aJ
  | [] => l
  | x :: t => bif decide (hour < x.Hour) then l else aDs hour (aGg l x) t
theorem aFd {f : aT} (hour : Int) : ∀ (t : List aK) (l : aJ) (i : Nat), fX f l i → i + t.length ≤ 60 → (∀ x ∈ t, hC x = true) → oT hour l t = aDs hour l t
  | [], _, _, _, _, _ => rfl
  | x :: t, l, i, h, hi, hx => by
    simp only [List.length_cons] at hi
    simp only [oT, aDs]
    rw [← aJb h (by omega) (hx x (by simp)), aFd hour t _ (i + 1) (oZ h (by omega) (hx x (by simp))) (by omega) fun y hy => hx y (by simp [hy])]
def aHy (hour : Int) (l : aJ) : aJ := bif decide (l.Field.Freeze < hour) then uH l else l
theorem aGj {f : aT} {l : List aK} (h : VL f l) (hs : l.Pairwise fun x y => gH x < gH y) (hour : Int) : cP f l hour = aHy hour (aDs hour (gI f) l) := by
  have hb : ∀ x ∈ l, bN x := fun x hx => aFk (h.nt x hx)
  have ht : fA l = l := mM (vN hb h.id) hs fun x => mE x
  have hlen := h.len
  obtain ⟨j, hj, hg⟩ := vC hour l (gI f) 0 (oW h.fd) (by omega) h.nt
  unfold cP sM aHy
  rw [ht, yT hg.wf, aFd hour l (gI f) 0 (oW h.fd) (by omega) h.nt]
end Go.Am

end
section
namespace Go.Am

/-- What is left of a row when equal neighbours are one. -/
def mZ (p : Int) : List Int → List Int
  | [] => []
  | y :: t => if y = p then mZ p t else y :: mZ y t
def nD : List Int → List Int
  | [] => []
  | x :: t => x :: mZ x t
theorem aEg (again : Int → List Int → Option (List Int)) {k0 : Nat} : ∀ (t : List Int) (p : Int) (W X : List Int) (k2 k : Nat), 1 ≤ k2 → W.length + X.length + 1 = k0 + k2 → k0 ≤ W.length → (W ++ X ++ p :: t).length < 4611686018427387904 → t.length < k →
    eA again (k0 : Nat) k (W.length : Nat) (k2 : Nat) (W ++ X ++ p :: t) = some (W ++ mZ p t) := by
  intro t
  induction t with
  | nil =>
    intro p W X k2 k h1 h2 h3 hb hk
    obtain ⟨k, rfl⟩ : ∃ q, k = q + 1 := ⟨k - 1, by omega⟩
    simp only [List.length_append, List.length_cons, List.length_nil] at hb
    have t0 : ((k0 : Nat) : Int).toNat = k0 := rfl
    have t1 : ((W.length : Nat) : Int).toNat = W.length := rfl
    have hlt : decide ((k2 : Int) < (((W ++ X ++ [p]).drop k0).length : Int)) = false := decide_eq_false (by simp; omega)
    have c1 : (decide ((0 : Int) ≤ (W.length : Int)) && decide ((W.length : Int) ≤ ((W ++ X ++ [p]).length : Int))) = true := by simp; omega
    have c2 : decide (W.length ≤ (W ++ X ++ [p]).length) = true := by simp
    have c3 : decide ((0 : Int) ≤ (W.length : Int)) = true := by simp
    simp only [eA, t0, hlt, cond_false, lO]
    rw [c1, t1, c2, c3]
    simp [chk, mZ]
  | cons y t ih =>
    intro p W X k2 k h1 h2 h3 hb hk
    obtain ⟨k, rfl⟩ : ∃ q, k = q + 1 := ⟨k - 1, by omega⟩
    simp only [List.length_append, List.length_cons] at hb hk
    have t0 : ((k0 : Nat) : Int).toNat = k0 := rfl
    have t1 : ((W.length : Nat) : Int).toNat = W.length := rfl
    have hlt : decide ((k2 : Int) < (((W ++ X ++ p :: y :: t).drop k0).length : Int)) = true := decide_eq_true (by simp; omega)
    have ed : (W ++ X ++ p :: y :: t).drop k0 = (W ++ X).drop k0 ++ p :: y :: t := by rw [List.drop_append_of_le_length (by simp; omega)]
    have hdl : ((W ++ X).drop k0).length = k2 - 1 := by simp; omega
    have i1 : idx ((W ++ X ++ p :: y :: t).drop k0) (k2 : Nat) = some y := by rw [ed]; exact uY (by rw [hdl]; omega)
    have i2 : idx ((W ++ X ++ p :: y :: t).drop k0) (w64 ((k2 : Int) - 1)) = some p := by rw [aEe (by omega) (by omega), ed]; exact qI (by rw [hdl])
    simp only [eA, t0, hlt, cond_true, i1, i2, Option.bind_some, dV (show k2 < 9223372036854775807 by omega)]
    by_cases hyp : y = p
    · subst hyp
      have := ih y W (X ++ [y]) (k2 + 1) k (by omega) (by simp; omega) h3 (by simp only [List.length_append, List.length_cons, List.length_nil]; omega) (by omega)
      have e1 : W ++ (X ++ [y]) ++ y :: t = W ++ X ++ y :: y :: t := by simp
      rw [e1] at this
      rw [decide_eq_true rfl, Bool.not_true, cond_false, this]
      simp [mZ]
    · have hd : (!decide (y = p)) = true := by rw [decide_eq_false hyp]; rfl
      have i3 : ∃ z, idx (W ++ X ++ p :: y :: t) (W.length : Nat) = some z := ⟨_, fC (by simp; omega)⟩
      obtain ⟨z, i3⟩ := i3
      rw [hd, cond_true, i3, Option.bind_some, t1, dV (by omega)]
      obtain ⟨X', e2⟩ : ∃ X', (W ++ X ++ p :: y :: t).set W.length y = (W ++ [y]) ++ X' ++ y :: t ∧ X'.length = X.length := by
        cases X with
        | nil => exact ⟨[], by simp, rfl⟩
        | cons x X => exact ⟨X ++ [p], by simp, by simp⟩
      rw [e2.1]
      have := ih y (W ++ [y]) X' (k2 + 1) k (by omega) (by rw [List.length_append, e2.2]; simp; omega) (by simp; omega) (by simp only [List.length_append, List.length_cons, List.length_nil, e2.2]; omega) (by omega)
      have e3 : (W ++ [y]).length = W.length + 1 := by simp
      rw [e3] at this
      rw [this]
      simp [mZ, hyp]
theorem aBt (s : List Int) (hb : s.length < 4611686018427387904) : jH s = some (nD s) := by
  have main : ∀ (t A : List Int) (p : Int) (k : Nat), t.length < k → (A ++ p :: t).length < 4611686018427387904 → dD k ((A.length + 1 : Nat) : Int) (A ++ p :: t) = some (A ++ p :: mZ p t) := by
    intro t
    induction t with
    | nil =>
      intro A p k hk hb
      obtain ⟨k, rfl⟩ : ∃ q, k = q + 1 := ⟨k - 1, by omega⟩
      have hlt : decide (((A.length + 1 : Nat) : Int) < ((A ++ [p]).length : Int)) = false := decide_eq_false (by simp)
      simp only [dD, hlt, cond_false, lM, mZ]
    | cons y t ih =>
      intro A p k hk hb
      obtain ⟨k, rfl⟩ : ∃ q, k = q + 1 := ⟨k - 1, by omega⟩
      simp only [List.length_append, List.length_cons] at hb hk
      have hlt : decide (((A.length + 1 : Nat) : Int) < ((A ++ p :: y :: t).length : Int)) = true := decide_eq_true (by simp; omega)
      have i2 : w64 (((A.length + 1 : Nat) : Int) - 1) = (A.length : Int) := by rw [gZ (by omega) (by omega)]; omega
      simp only [dD, hlt, cond_true, uY rfl, i2, qI rfl, Option.bind_some]
      by_cases hyp : y = p
      · subst hyp
        have c1 : (decide ((0 : Int) ≤ ((A.length + 1 : Nat) : Int)) && decide (((A.length + 1 : Nat) : Int) ≤ ((A ++ y :: y :: t).length : Int))) = true := by simp; omega
        rw [decide_eq_true rfl, cond_true, c1]
        simp only [chk, cond_true, Option.bind_some]
        have := aEg (dD k) (k0 := A.length + 1) t y (A ++ [y]) [] 1 BIG (Nat.le_refl _) (by simp) (by simp) (by simp only [List.length_append, List.length_cons, List.length_nil]; omega) (gO (by omega))
        have e3 : (A ++ [y]).length = A.length + 1 := by simp
        have e4 : A ++ [y] ++ [] ++ y :: t = A ++ y :: y :: t := by simp
        rw [e3, e4] at this
        have e5 : ((1 : Nat) : Int) = 1 := rfl
        rw [e5] at this
        rw [this]
        simp [mZ]
      · rw [decide_eq_false hyp, cond_false]
        unfold lN
        rw [dV (by omega)]
        have := ih (A ++ [p]) y k (by omega) (by simp only [List.length_append, List.length_cons, List.length_nil]; omega)
        have e3 : (A ++ [p]).length = A.length + 1 := by simp
        have e4 : A ++ [p] ++ y :: t = A ++ p :: y :: t := by simp
        rw [e3, e4] at this
        rw [this]
        simp [mZ, hyp]
  unfold jH
  match s, hb with
  | [], _ => simp [nD]
  | x :: t, hb =>
    by_cases ht : t = []
    · subst ht; simp [nD, mZ]
    · have hl : 0 < t.length := List.length_pos_iff.2 ht
      have hd : decide (((x :: t).length : Int) < 2) = false := decide_eq_false (by simp; omega)
      rw [hd, cond_false]
      have := main t [] x BIG (gO (by simp at hb; omega)) (by simpa using hb)
      simp only [List.length_nil, List.nil_append, Nat.zero_add] at this
      have e5 : ((1 : Nat) : Int) = 1 := rfl
      rw [e5] at this
      rw [this]; rfl
theorem aGy (p : Int) (t : List Int) : (mZ p t).Sublist t := by
  induction t generalizing p with
  | nil => exact .slnil
  | cons y t ih =>
    simp only [mZ]
    split
    · exact (ih p).cons _
    · exact (ih y).cons_cons _
theorem aBr (l : List Int) : (oN l).length = l.length := (List.mergeSort_perm l _).length_eq
/-- The hours that are asked, one after the other. -/
def uI (l : List aK) : List Int := nD (oN (l.map fun x => x.Hour))
def aAe (f : aT) (l : List aK) (p h : Int) : Bool := decide ((rL (cP f l h) p).1 = 1) || decide ((rL (cP f l h) p).1 = 2)
theorem aKs {f : aT} {l : List aK} (h : VL f l) (p : Int) (T : List Int) (hT : T.length ≤ 1000) : ∀ (d i k : Nat), T.length - i = d → d < k → i ≤ T.length →
    jR l p (T.length : Int) f T k (i : Int) = some (match (T.drop i).find? (aAe f l p) with | some x => (x, 0) | none => (0, 3)) := by
  intro d
  induction d with
  | zero =>
    intro i k hd hk hi
    obtain ⟨k, rfl⟩ : ∃ q, k = q + 1 := ⟨k - 1, by omega⟩
    have : i = T.length := by omega
    subst this
    simp [jR, rO]
  | succ d ih =>
    intro i k hd hk hi
    obtain ⟨k, rfl⟩ : ∃ q, k = q + 1 := ⟨k - 1, by omega⟩
    have hil : i < T.length := by omega
    have hlt : decide ((i : Int) < (T.length : Int)) = true := decide_eq_true (by omega)
    obtain ⟨j, hj, hg⟩ := pD h T[i]
    simp only [jR, hlt, cond_true, fC hil, Option.bind_some, aCi h, aDy hg hj, sG]
    rw [List.drop_eq_getElem_cons hil, List.find?_cons]
    rw [show (decide ((rL (cP f l T[i]) p).1 = 1) || decide ((rL (cP f l T[i]) p).1 = 2)) = aAe f l p T[i] from rfl]
    cases aAe f l p T[i] with
    | true => rfl
    | false =>
      simp only [cond_false]
      rw [dV (by omega)]
      exact ih (i + 1) k (by omega) (by omega) (by omega)
theorem aJq {f : aT} {l : List aK} (h : VL f l) {p : Int} (hp : wi p 0 999 = true) : nP f l p = some (match (uI l).find? (aAe f l p) with | some x => (x, 0) | none => (0, 3)) := by
  have hlen := h.len
  have hH : (uI l).length ≤ 60 := by
    unfold uI
    have h1 := aBr (l.map fun x => x.Hour)
    rw [List.length_map] at h1
    cases hs : oN (l.map fun x => x.Hour) with
    | nil => simp [nD]
    | cons q t =>
      rw [hs] at h1
      simp only [List.length_cons] at h1
      have := (aGy q t).length_le
      simp only [nD, List.length_cons]
      omega
  have key := nQ (jQ l p l (l.length : Int) f) l.length (fun i s => oH l p f (s ++ (l.drop i).map fun x => x.Hour)) (fun i s => s.length = i) (fun k i s hi hI ih => ?_) (fun k s hI => ?_) BIG [] (gO (by omega)) rfl
  · unfold nP
    rw [aAl, nO.2 h, hp]
    simp only [decide_true, Bool.not_true, cond_false, show wi 0 0 9999 = true from rfl, Bool.or_self, Option.bind_some]
    rw [key]
    simp only [List.drop_zero, List.nil_append]
    unfold oH slices_Sort_int
    rw [if_pos (by rw [List.length_map]; omega), Option.bind_some, aBt _ (by rw [aBr, List.length_map]; omega), Option.bind_some]
    exact aKs h p (uI l) (by omega) _ 0 BIG rfl (gO (by omega)) (Nat.zero_le _)
  · simp only [jQ, show decide ((i : Int) < (l.length : Int)) = true by simpa using hi, cond_true, fC hi, Option.bind_some]
    rw [qY (by simp; omega)]
    simp only [Option.bind_some]
    rw [dV (by omega), ih _ (by simp; omega), List.append_assoc, List.singleton_append, ← List.map_cons (f := fun x : aK => x.Hour), ← List.drop_eq_getElem_cons hi]
  · simp [jQ]
end Go.Am

end
section
namespace Go.Am

def exF : aT := ((gW).getD (⟨0, 0, 0, 0, 0⟩, [])).1
def exL : List aK := ((gW).getD (⟨0, 0, 0, 0, 0⟩, [])).2
theorem aLk : gW = some (exF, exL) := by kernel_rfl
theorem yN : VL exF exL := nO.1 (by kernel_rfl)
theorem aGv : exL.Pairwise fun x y => gH x < gH y := of_decide_eq_true (by kernel_rfl)
def exA (h : Int) : aJ := aHy h (aDs h (gI exF) exL)
theorem uT (h : Int) : cP exF exL h = exA h := aGj yN aGv h
theorem aEz (h : Int) : ∃ j, j ≤ 60 ∧ fX exF (exA h) j := by
  rw [← uT]
  exact pD yN h
theorem wW (h : Int) : WF (exA h) := by
  obtain ⟨j, _, hg⟩ := aEz h
  exact hg.wf
theorem aJx : lB exF exL 12 = some (⟨[9, 8, 5], [7], [6, 4], 0⟩, 0) := by
  rw [zT yN (by rfl)]
  unfold nA
  rw [uT, aFb (wW 12), yB (wW 12)]
  kernel_rfl
theorem aCt (h p : Int) : rL (exA h) p = pV (rZ (exA h)) (exA h).wilds (wK (exA h)) p := by
  unfold rL
  rw [aFb (wW h), yB (wW h)]
theorem aGu : jU (exA 10) 4 = some 2 := by
  unfold jU
  rw [rX (wW 10), tJ (wW 10)]
  kernel_rfl
theorem aIa : oA exF exL 10 4 = some (2, 0) := by
  obtain ⟨j, hj, hg⟩ := aEz 10
  unfold oA
  rw [aAl, nO.2 yN, uT]
  simp only [decide_true, Bool.not_true, cond_false, show wi 10 0 9999 = true from rfl, show wi 4 0 999 = true from rfl, Bool.or_self, Option.bind_some]
  rw [aDy hg hj, aCt, aGu, show pV (rZ (exA 10)) (exA 10).wilds (wK (exA 10)) 4 = (3, 3) by kernel_rfl, show (exA 10).frozen = false by kernel_rfl]
  rfl
theorem aHz : uI exL = [1, 2, 3, 4, 5, 6, 11, 12, 15, 21, 22] := by
  have h : oN (exL.map fun x => x.Hour) = exL.map fun x => x.Hour := by
    have hs := List.pairwise_mergeSort (le := fun x y : Int => decide (x ≤ y)) (by intro a b c; simp only [decide_eq_true_eq]; omega) (by intro a b; simp only [Bool.or_eq_true, decide_eq_true_eq]; omega) (exL.map fun x => x.Hour)
    refine qO (R := fun x y : Int => x ≤ y) (List.mergeSort_perm _ _) (hs.imp fun {x y} h => by simpa using h) (of_decide_eq_true (by kernel_rfl)) fun a _ b _ h1 h2 => Int.le_antisymm h1 h2
  unfold uI
  rw [h]
  have : nD (exL.map fun x => x.Hour) = [1, 2, 3, 4, 5, 6, 11, 12, 15, 21, 22] := by kernel_rfl
  exact this
theorem aJy : nP exF exL 4 = some (15, 0) := by
  have hf : aAe exF exL 4 = fun h => decide ((pV (rZ (exA h)) (exA h).wilds (wK (exA h)) 4).1 = 1) || decide ((pV (rZ (exA h)) (exA h).wilds (wK (exA h)) 4).1 = 2) := by
    funext h
    unfold aAe
    rw [uT, aCt]
  rw [aJq yN (by rfl), hf, aHz]
  have : [1, 2, 3, 4, 5, 6, 11, 12, 15, 21, 22].find? (fun h => decide ((pV (rZ (exA h)) (exA h).wilds (wK (exA h)) 4).1 = 1) || decide ((pV (rZ (exA h)) (exA h).wilds (wK (exA h)) 4).1 = 2)) = some 15 := by kernel_rfl
  rw [this]
theorem wU : iT = some true := by
  unfold iT
  rw [aLk, Option.bind_some, aJx, Option.bind_some, aIa, Option.bind_some, aJy, Option.bind_some]
  kernel_rfl
end Go.Am

end
