/- Entry, plainly: what is valid. -/
import Derived.Test.YtfdappeickbpeaaGreatEnDet
namespace Go.Am

def wi (n lo hi : Int) : Bool := decide (lo ≤ n) && decide (n ≤ hi)
theorem zK {n lo hi : Int} : wi n lo hi = true ↔ lo ≤ n ∧ n ≤ hi := by simp [wi]
theorem zS (n lo hi : Int) : bR n lo hi = some (wi n lo hi) := by
  unfold bR wi
  cases decide (lo ≤ n) <;> rfl
theorem aEf (n lo hi : Int) : bW n lo hi = some (wi n lo hi) := by
  unfold bW wi
  cases decide (lo ≤ n) <;> rfl

def qD (f : aU) : Bool := wi f.Places 1 32 && wi f.Wilds 0 32 && wi f.Guards 0 32 && wi f.Close 0 9999 && wi f.Freeze f.Close 9999
def kV (n : aJ) : Bool := wi n.Id 0 999 && wi n.Player 0 999 && wi n.Hour 0 9999 &&
  (bif decide (n.Kind = 1) then wi n.Rank 0 9999 else bif decide (n.Kind = 2) then wi n.Rank 1 9999 else bif (decide (n.Kind = 3) || decide (n.Kind = 4) || decide (n.Kind = 5)) then decide (n.Rank = 0) else false)
theorem aFa (f : aU) : mF f = some (qD f) := by
  unfold mF qD
  simp only [zS, Option.bind_some]
  cases wi f.Places 1 32 <;> cases wi f.Wilds 0 32 <;> cases wi f.Guards 0 32 <;> cases wi f.Close 0 9999 <;> cases wi f.Freeze f.Close 9999 <;> rfl
theorem aJt (n : Int) : wi n 0 0 = decide (n = 0) := by
  unfold wi
  by_cases h : n = 0
  · subst h; rfl
  · have : ¬ (0 ≤ n ∧ n ≤ 0) := by omega
    cases h1 : decide (0 ≤ n) <;> cases h2 : decide (n ≤ 0) <;> simp_all <;> omega
theorem aFc (n : aJ) : lL n = some (kV n) := by
  unfold lL kV
  simp only [zS, Option.bind_some, aJt]
  by_cases h1 : n.Kind = 1
  · simp only [h1, decide_true, cond_true]
    cases wi n.Id 0 999 <;> cases wi n.Player 0 999 <;> cases wi n.Hour 0 9999 <;> cases wi n.Rank 0 9999 <;> rfl
  · by_cases h2 : n.Kind = 2
    · simp only [h2, decide_true, cond_true, show decide ((2 : Int) = 1) = false from rfl, cond_false]
      cases wi n.Id 0 999 <;> cases wi n.Player 0 999 <;> cases wi n.Hour 0 9999 <;> cases wi n.Rank 1 9999 <;> rfl
    · cases wi n.Id 0 999 <;> cases wi n.Player 0 999 <;> cases wi n.Hour 0 9999 <;> cases decide (n.Rank = 0) <;> cases decide (n.Kind = 3) <;> cases decide (n.Kind = 4) <;> cases decide (n.Kind = 5) <;> simp [h1, h2]
theorem aFb (n : aJ) : iQ n = some (kV n) := by
  unfold iQ kV
  simp only [aEf, Option.bind_some]
  by_cases h1 : n.Kind = 1
  · simp only [h1, decide_true, cond_true]
    cases wi n.Id 0 999 <;> cases wi n.Player 0 999 <;> cases wi n.Hour 0 9999 <;> cases wi n.Rank 0 9999 <;> rfl
  · by_cases h2 : n.Kind = 2
    · simp only [h2, decide_true, cond_true, show decide ((2 : Int) = 1) = false from rfl, cond_false]
      cases wi n.Id 0 999 <;> cases wi n.Player 0 999 <;> cases wi n.Hour 0 9999 <;> cases wi n.Rank 1 9999 <;> rfl
    · cases wi n.Id 0 999 <;> cases wi n.Player 0 999 <;> cases wi n.Hour 0 9999 <;> cases decide (n.Rank = 0) <;> cases decide (n.Kind = 3) <;> cases decide (n.Kind = 4) <;> cases decide (n.Kind = 5) <;> simp [h1, h2]

/-- A notice is valid, and those before it with its number are the same. -/
def oG (l : List aJ) (i : Nat) : Bool := match l[i]? with
  | some x => kV x && (l.take i).all fun y => !decide (y.Id = x.Id) || decide (y = x)
  | none => false
def rN (f : aU) (l : List aJ) : Int := bif !qD f then 50 else bif decide (60 < (l.length : Int)) then 51 else bif (List.range l.length).all (oG l) then 0 else 51

theorem qV {l : List aJ} {i : Nat} (h : i < l.length) : oG l i = (kV l[i] && (l.take i).all fun y => !decide (y.Id = l[i].Id) || decide (y = l[i])) := by
  unfold oG
  rw [List.getElem?_eq_getElem h]
theorem aFv (l : List aJ) (hl : l.length ≤ 60) (i : Nat) (hi : i < l.length) (again : Int → Option Int) : ∀ k, i < k → eT again l (i : Int) k 0 =
    bif (List.range i).all (fun j => match l[j]? with | some y => !decide (y.Id = l[i].Id) || decide (y = l[i]) | none => false) then again (w64 ((i : Int) + 1)) else some 51 := by
  refine aCm (eT again l (i : Int)) i _ _ _ (fun k j hj => ?_) fun k => ?_
  · have hj2 : j < l.length := by omega
    simp only [eT, show decide ((j : Int) < (i : Int)) = true by simpa using hj, cond_true, eP hj2, eP hi, Option.bind_some, List.getElem?_eq_getElem hj2, dV (i := j) (by omega)]
    cases h1 : decide (l[j].Id = l[i].Id) <;> cases h2 : decide (l[j] = l[i]) <;> simp
  · simp [eT, mS, mR]
theorem aHg (l : List aJ) (p : aJ → Bool) (i : Nat) (hi : i ≤ l.length) : (List.range i).all (fun j => match l[j]? with | some y => p y | none => false) = (l.take i).all p := by
  rw [Bool.eq_iff_iff]
  simp only [List.all_eq_true, List.mem_range]
  constructor
  · intro h y hy
    obtain ⟨j, hj, rfl⟩ := List.getElem_of_mem hy
    simp only [List.length_take] at hj
    have := h j (by omega)
    rw [List.getElem?_eq_getElem (by omega)] at this
    simpa using this
  · intro h j hj
    rw [List.getElem?_eq_getElem (by omega)]
    refine h _ (List.mem_take_iff_getElem.2 ⟨j, by omega, rfl⟩)
theorem aFw (f : aU) (l : List aJ) : kJ f l = some (rN f l) := by
  have hF : ∀ {b : Option Int}, ((bW f.Places 1 32).bind fun r2 =>
    (bif !r2 then (some true) else ((bW f.Wilds 0 32).bind fun r3 => some (!r3))).bind fun b4 =>
    (bif b4 then (some true) else ((bW f.Guards 0 32).bind fun r5 => some (!r5))).bind fun b6 =>
    (bif b6 then (some true) else ((bW f.Close 0 9999).bind fun r7 => some (!r7))).bind fun b8 =>
    (bif b8 then (some true) else ((bW f.Freeze f.Close 9999).bind fun r9 => some (!r9))).bind fun b10 =>
    bif b10 then (some 50) else b) = bif !qD f then some 50 else b := by
    intro b
    simp only [aEf, Option.bind_some]
    unfold qD
    cases wi f.Places 1 32 <;> cases wi f.Wilds 0 32 <;> cases wi f.Guards 0 32 <;> cases wi f.Close 0 9999 <;> cases wi f.Freeze f.Close 9999 <;> rfl
  unfold kJ rN
  rw [hF]
  cases qD f with
  | false => rfl
  | true =>
    simp only [Bool.not_true, cond_false]
    cases hl : decide (60 < (l.length : Int)) with
    | true => rfl
    | false =>
      simp only [cond_false]
      have hl' : l.length ≤ 60 := by simp at hl; omega
      have := aCm (eS l) l.length (oG l) (some 51) (some 0) (fun k i hi => ?_) (fun k => ?_) BIG (gG (by omega))
      · rw [this]
        cases (List.range l.length).all (oG l) <;> rfl
      · simp only [eS, show decide ((i : Int) < (l.length : Int)) = true by simpa using hi, cond_true, eP hi, Option.bind_some, aFb]
        rw [qV hi, aFv l hl' i hi _ BIG (gG (by omega)), aHg l (fun y => !decide (y.Id = l[i].Id) || decide (y = l[i])) i (by omega), dV (by omega)]
        cases kV l[i] <;> cases (l.take i).all (fun y => !decide (y.Id = l[i].Id) || decide (y = l[i])) <;> rfl
      · simp [eS, mQ]

theorem aAu {α β : Type} [DecidableEq α] (a b : α) (v : β) : ∀ m : List (α × β), fC a (bX b v m) = (decide (a = b) || fC a m)
  | [] => by simp [bX, fC]
  | (c, u) :: m => by
    simp only [bX]
    by_cases hbc : b = c
    · subst hbc
      simp [fC]
    · simp only [hbc, decide_false, cond_false, fC, aAu a b v m]
      by_cases h1 : a = c <;> by_cases h2 : a = b <;> simp [h1, h2]
theorem vX {α β : Type} [DecidableEq α] (a b : α) (v z : β) : ∀ m : List (α × β), aE a z (bX b v m) = bif decide (a = b) then v else aE a z m
  | [] => by simp [bX, aE]
  | (c, u) :: m => by
    simp only [bX]
    by_cases hbc : b = c
    · subst hbc
      by_cases h : a = b <;> simp [aE, h]
    · simp only [hbc, decide_false, cond_false, aE, vX a b v z m]
      by_cases h1 : a = c
      · subst h1
        simp [Ne.symm hbc, Ne.symm (a := a) (b := b) (fun e => hbc e.symm)]
      · simp [h1]
/-- What is known after some notices. -/
def aKi (l : List aJ) (m : List (Int × aJ)) : Prop := ∀ id, (fC id m = true → aE id (aJ.mk 0 0 0 0 0) m ∈ l ∧ (aE id (aJ.mk 0 0 0 0 0) m).Id = id) ∧ (∀ y ∈ l, y.Id = id → fC id m = true)
theorem aFy (f : aU) (l : List aJ) : nX f l = some (rN f l) := by
  unfold nX rN
  rw [aFa]
  simp only [Option.bind_some]
  cases qD f with
  | false => rfl
  | true =>
    simp only [Bool.not_true, cond_false]
    cases hl : decide (60 < (l.length : Int)) with
    | true => rfl
    | false =>
      simp only [cond_false]
      have hl' : l.length ≤ 60 := by simp at hl; omega
      have key := oT (hC l (l.length : Int)) l.length (fun i _ => some (bif (List.range' i (l.length - i)).all (oG l) then (0 : Int) else 51))
        (fun i m => aKi (l.take i) m ∧ ∀ j, j < i → oG l j = true) (fun k i m hi hI ih => ?_) (fun k m hI => ?_) BIG [] (gG (by omega)) ⟨fun id => ⟨fun h => by simp [fC] at h, fun y hy => by simp at hy⟩, fun j hj => by omega⟩
      · rw [key]
        simp [List.range_eq_range']
      · obtain ⟨hK, hg⟩ := hI
        have hrest : List.range' i (l.length - i) = i :: List.range' (i + 1) (l.length - (i + 1)) := by
          rw [show l.length - i = (l.length - (i + 1)) + 1 by omega, List.range'_succ]
        have hgood : oG l i = (kV l[i] && !(fC l[i].Id m && !decide (aE l[i].Id (aJ.mk 0 0 0 0 0) m = l[i]))) := by
          rw [qV hi]
          congr 1
          rw [Bool.eq_iff_iff]
          simp only [List.all_eq_true, Bool.or_eq_true, Bool.not_eq_true', decide_eq_false_iff_not, decide_eq_true_eq, Bool.and_eq_false_iff, Bool.not_eq_false']
          constructor
          · intro h
            cases hm : fC l[i].Id m with
            | false => exact .inl rfl
            | true =>
              right
              obtain ⟨h1, h2⟩ := (hK l[i].Id).1 hm
              rcases h _ h1 with h3 | h3
              · exact absurd h2 h3
              · exact h3
          · intro h y hy
            by_cases hid : y.Id = l[i].Id
            · right
              have hm := (hK l[i].Id).2 y hy hid
              rcases h with h | h
              · rw [hm] at h; cases h
              · obtain ⟨h1, h2⟩ := (hK l[i].Id).1 hm
                -- both lie before, and are good
                obtain ⟨a, ha, hya⟩ := List.getElem_of_mem hy
                obtain ⟨b, hb, hmb⟩ := List.getElem_of_mem h1
                simp only [List.length_take] at ha hb
                simp only [List.getElem_take] at hya hmb
                have same : ∀ p q : Nat, p < q → q < i → ∀ (hp : p < l.length) (hq : q < l.length), l[p].Id = l[q].Id → l[p] = l[q] := by
                  intro p q hpq hqi hp hq he
                  have := hg q hqi
                  rw [qV hq] at this
                  simp only [Bool.and_eq_true, List.all_eq_true, Bool.or_eq_true, Bool.not_eq_true', decide_eq_false_iff_not, decide_eq_true_eq] at this
                  rcases this.2 l[p] (List.mem_take_iff_getElem.2 ⟨p, by omega, rfl⟩) with h | h
                  · exact absurd he h
                  · exact h
                rw [← h]
                rcases Nat.lt_trichotomy a b with hab | hab | hab
                · rw [← hya, ← hmb]
                  exact same a b hab (by omega) (by omega) (by omega) (by rw [hya, hmb, hid, h2])
                · subst hab
                  rw [← hya, ← hmb]
                · rw [← hya, ← hmb]
                  exact (same b a hab (by omega) (by omega) (by omega) (by rw [hya, hmb, hid, h2])).symm
            · exact .inl hid
        simp only [hC, show decide ((i : Int) < (l.length : Int)) = true by simpa using hi, cond_true, eP hi, Option.bind_some, aFc, dV (i := i) (by omega)]
        rw [hrest, List.all_cons, hgood]
        have ih' : oG l i = true → hC l (l.length : Int) k ((i + 1 : Nat) : Int) (bX l[i].Id l[i] m) = some (bif (List.range' (i + 1) (l.length - (i + 1))).all (oG l) then (0 : Int) else 51) := fun hgi => by
          refine ih _ ⟨fun id => ?_, fun j hj => ?_⟩
          · have htk : l.take (i + 1) = l.take i ++ [l[i]] := by rw [List.take_add_one, List.getElem?_eq_getElem hi]; rfl
            rw [htk, aAu, vX]
            constructor
            · intro h
              by_cases hid : id = l[i].Id
              · subst hid
                simp only [decide_true, cond_true]
                exact ⟨List.mem_append.2 (.inr (List.mem_singleton.2 rfl)), trivial⟩
              · simp only [hid, decide_false, Bool.false_or, cond_false] at h ⊢
                obtain ⟨h1, h2⟩ := (hK id).1 h
                exact ⟨List.mem_append.2 (.inl h1), h2⟩
            · intro y hy he
              rcases List.mem_append.1 hy with hy | hy
              · rw [(hK id).2 y hy he]; simp
              · simp at hy; subst hy; simp [he]
          · rcases Nat.lt_or_ge j i with h | h
            · exact hg j h
            · have : j = i := by omega
              subst this; exact hgi
        rw [hgood] at ih'
        revert ih'
        cases kV l[i] <;> cases fC l[i].Id m <;> cases decide (aE l[i].Id (aJ.mk 0 0 0 0 0) m = l[i]) <;> intro ih' <;> first | rfl | (simpa using ih' rfl)
      · simp [hC, pU]

/-- What is valid. -/
structure VL (f : aU) (l : List aJ) : Prop where
  fd : qD f = true
  len : l.length ≤ 60
  nt : ∀ x ∈ l, kV x = true
  id : ∀ x ∈ l, ∀ y ∈ l, x.Id = y.Id → x = y
theorem nQ {f : aU} {l : List aJ} : rN f l = 0 ↔ VL f l := by
  unfold rN
  constructor
  · intro h
    cases h1 : qD f with
    | false => rw [h1] at h; simp at h
    | true =>
      rw [h1] at h
      simp only [Bool.not_true, cond_false] at h
      cases h2 : decide (60 < (l.length : Int)) with
      | true => rw [h2] at h; simp at h
      | false =>
        rw [h2] at h
        simp only [cond_false] at h
        cases h3 : (List.range l.length).all (oG l) with
        | false => rw [h3] at h; simp at h
        | true =>
          simp only [List.all_eq_true, List.mem_range] at h3
          have hg : ∀ i (hi : i < l.length), kV l[i] = true ∧ ∀ y ∈ l.take i, y.Id = l[i].Id → y = l[i] := fun i hi => by
            have := h3 i hi
            rw [qV hi] at this
            simp only [Bool.and_eq_true, List.all_eq_true, Bool.or_eq_true, Bool.not_eq_true', decide_eq_false_iff_not, decide_eq_true_eq] at this
            exact ⟨this.1, fun y hy he => (this.2 y hy).resolve_left fun h => h he⟩
          refine ⟨h1, by simp at h2; omega, fun x hx => ?_, fun x hx y hy he => ?_⟩
          · obtain ⟨i, hi, rfl⟩ := List.getElem_of_mem hx
            exact (hg i hi).1
          · obtain ⟨i, hi, rfl⟩ := List.getElem_of_mem hx
            obtain ⟨j, hj, rfl⟩ := List.getElem_of_mem hy
            rcases Nat.lt_trichotomy i j with h | h | h
            · exact (hg j hj).2 _ (List.mem_take_iff_getElem.2 ⟨i, by omega, rfl⟩) he
            · subst h; rfl
            · exact ((hg i hi).2 _ (List.mem_take_iff_getElem.2 ⟨j, by omega, rfl⟩) he.symm).symm
  · rintro ⟨h1, h2, h3, h4⟩
    rw [h1]
    have : decide (60 < (l.length : Int)) = false := by simp; omega
    rw [this]
    have h5 : (List.range l.length).all (oG l) = true := by
      simp only [List.all_eq_true, List.mem_range]
      intro i hi
      rw [qV hi]
      simp only [Bool.and_eq_true, List.all_eq_true, Bool.or_eq_true, Bool.not_eq_true', decide_eq_false_iff_not, decide_eq_true_eq]
      refine ⟨h3 _ (List.getElem_mem hi), fun y hy => ?_⟩
      by_cases he : y.Id = l[i].Id
      · exact .inr (h4 _ (List.mem_of_mem_take hy) _ (List.getElem_mem hi) he)
      · exact .inl he
    rw [h5]
    rfl
end Go.Am
