/- Plain laws, one behind the other. -/
import Derived.Test.YtfdappeickbpeaaGreatEnDet
import Derived.KernelRfl
section
namespace Go.Am

def wi (n lo hi : Int) : Bool := decide (lo ≤ n) && decide (n ≤ hi)
theorem tQ {n lo hi : Int} : wi n lo hi = true ↔ lo ≤ n ∧ n ≤ hi := by simp [wi]
theorem zI (n lo hi : Int) : bP n lo hi = some (wi n lo hi) := by
  unfold bP wi
  cases decide (lo ≤ n) <;> rfl
theorem aDr (n lo hi : Int) : bT n lo hi = some (wi n lo hi) := by
  unfold bT wi
  cases decide (lo ≤ n) <;> rfl

def pU (f : aT) : Bool := wi f.Places 1 32 && wi f.Wilds 0 32 && wi f.Guards 0 32 && wi f.Close 0 9999 && wi f.Freeze f.Close 9999
def kN (n : aK) : Bool := wi n.Id 0 999 && wi n.Player 0 999 && wi n.Hour 0 9999 &&
  (bif decide (n.Kind = 1) then wi n.Rank 0 9999 else bif decide (n.Kind = 2) then wi n.Rank 1 9999 else bif (decide (n.Kind = 3) || decide (n.Kind = 4) || decide (n.Kind = 5)) then decide (n.Rank = 0) else false)
theorem aEm (f : aT) : mC f = some (pU f) := by
  unfold mC pU
  simp only [zI, Option.bind_some]
  cases wi f.Places 1 32 <;> cases wi f.Wilds 0 32 <;> cases wi f.Guards 0 32 <;> cases wi f.Close 0 9999 <;> cases wi f.Freeze f.Close 9999 <;> rfl
theorem aJk (n : Int) : wi n 0 0 = decide (n = 0) := by
  unfold wi
  by_cases h : n = 0
  · subst h; rfl
  · have : ¬ (0 ≤ n ∧ n ≤ 0) := by omega
    cases h1 : decide (0 ≤ n) <;> cases h2 : decide (n ≤ 0) <;> simp_all <;> omega
theorem aEo (n : aK) : lF n = some (kN n) := by
  unfold lF kN
  simp only [zI, Option.bind_some, aJk]
  by_cases h1 : n.Kind = 1
  · simp only [h1, decide_true, cond_true]
    cases wi n.Id 0 999 <;> cases wi n.Player 0 999 <;> cases wi n.Hour 0 9999 <;> cases wi n.Rank 0 9999 <;> rfl
  · by_cases h2 : n.Kind = 2
    · simp only [h2, decide_true, cond_true, show decide ((2 : Int) = 1) = false from rfl, cond_false]
      cases wi n.Id 0 999 <;> cases wi n.Player 0 999 <;> cases wi n.Hour 0 9999 <;> cases wi n.Rank 1 9999 <;> rfl
    · cases wi n.Id 0 999 <;> cases wi n.Player 0 999 <;> cases wi n.Hour 0 9999 <;> cases decide (n.Rank = 0) <;> cases decide (n.Kind = 3) <;> cases decide (n.Kind = 4) <;> cases decide (n.Kind = 5) <;> simp [h1, h2]
theorem aEn (n : aK) : iK n = some (kN n) := by
  unfold iK kN
  simp only [aDr, Option.bind_some]
  by_cases h1 : n.Kind = 1
  · simp only [h1, decide_true, cond_true]
    cases wi n.Id 0 999 <;> cases wi n.Player 0 999 <;> cases wi n.Hour 0 9999 <;> cases wi n.Rank 0 9999 <;> rfl
  · by_cases h2 : n.Kind = 2
    · simp only [h2, decide_true, cond_true, show decide ((2 : Int) = 1) = false from rfl, cond_false]
      cases wi n.Id 0 999 <;> cases wi n.Player 0 999 <;> cases wi n.Hour 0 9999 <;> cases wi n.Rank 1 9999 <;> rfl
    · cases wi n.Id 0 999 <;> cases wi n.Player 0 999 <;> cases wi n.Hour 0 9999 <;> cases decide (n.Rank = 0) <;> cases decide (n.Kind = 3) <;> cases decide (n.Kind = 4) <;> cases decide (n.Kind = 5) <;> simp [h1, h2]

/-- A notice is valid, and those before it with its number are the same. -/
def nZ (l : List aK) (i : Nat) : Bool := match l[i]? with
  | some x => kN x && (l.take i).all fun y => !decide (y.Id = x.Id) || decide (y = x)
  | none => false
def rF (f : aT) (l : List aK) : Int := bif !pU f then 50 else bif decide (60 < (l.length : Int)) then 51 else bif (List.range l.length).all (nZ l) then 0 else 51

theorem qN {l : List aK} {i : Nat} (h : i < l.length) : nZ l i = (kN l[i] && (l.take i).all fun y => !decide (y.Id = l[i].Id) || decide (y = l[i])) := by
  unfold nZ
  rw [List.getElem?_eq_getElem h]
theorem aFj (l : List aK) (hl : l.length ≤ 60) (i : Nat) (hi : i < l.length) (again : Int → Option Int) : ∀ k, i < k → eL again l (i : Int) k 0 =
    bif (List.range i).all (fun j => match l[j]? with | some y => !decide (y.Id = l[i].Id) || decide (y = l[i]) | none => false) then again (w64 ((i : Int) + 1)) else some 51 := by
  refine aCb (eL again l (i : Int)) i _ _ _ (fun k j hj => ?_) fun k => ?_
  · have hj2 : j < l.length := by omega
    simp only [eL, show decide ((j : Int) < (i : Int)) = true by simpa using hj, cond_true, gG hj2, gG hi, Option.bind_some, List.getElem?_eq_getElem hj2, dZ (i := j) (by omega)]
    cases h1 : decide (l[j].Id = l[i].Id) <;> cases h2 : decide (l[j] = l[i]) <;> simp
  · simp [eL, mN, mM]
theorem aGs (l : List aK) (p : aK → Bool) (i : Nat) (hi : i ≤ l.length) : (List.range i).all (fun j => match l[j]? with | some y => p y | none => false) = (l.take i).all p := by
  rw [Bool.eq_iff_iff]
  simp only [List.all_eq_true, List.mem_range]
  constructor
  · intro h y hy
    obtain ⟨j, hj, rfl⟩ := List.getElem_of_mem hy
    simp only [List.length_take] at hj
    have := h j (by omega)
    rw [List.getElem?_eq_getElem (by omega)] at this
    simpa using this
  · intro h j hj
    rw [List.getElem?_eq_getElem (by omega)]
    refine h _ (List.mem_take_iff_getElem.2 ⟨j, by omega, rfl⟩)
theorem aFk (f : aT) (l : List aK) : kC f l = some (rF f l) := by
  have hF : ∀ {b : Option Int}, ((bT f.Places 1 32).bind fun r2 =>
    (bif !r2 then (some true) else ((bT f.Wilds 0 32).bind fun r3 => some (!r3))).bind fun b4 =>
    (bif b4 then (some true) else ((bT f.Guards 0 32).bind fun r5 => some (!r5))).bind fun b6 =>
    (bif b6 then (some true) else ((bT f.Close 0 9999).bind fun r7 => some (!r7))).bind fun b8 =>
    (bif b8 then (some true) else ((bT f.Freeze f.Close 9999).bind fun r9 => some (!r9))).bind fun b10 =>
    bif b10 then (some 50) else b) = bif !pU f then some 50 else b := by
    intro b
    simp only [aDr, Option.bind_some]
    unfold pU
    cases wi f.Places 1 32 <;> cases wi f.Wilds 0 32 <;> cases wi f.Guards 0 32 <;> cases wi f.Close 0 9999 <;> cases wi f.Freeze f.Close 9999 <;> rfl
  unfold kC rF
  rw [hF]
  cases pU f with
  | false => rfl
  | true =>
    simp only [Bool.not_true, cond_false]
    cases hl : decide (60 < (l.length : Int)) with
    | true => rfl
    | false =>
      simp only [cond_false]
      have hl' : l.length ≤ 60 := by simp at hl; omega
      have := aCb (eK l) l.length (nZ l) (some 51) (some 0) (fun k i hi => ?_) (fun k => ?_) BIG (gU (by omega))
      · rw [this]
        cases (List.range l.length).all (nZ l) <;> rfl
      · simp only [eK, show decide ((i : Int) < (l.length : Int)) = true by simpa using hi, cond_true, gG hi, Option.bind_some, aEn]
        rw [qN hi, aFj l hl' i hi _ BIG (gU (by omega)), aGs l (fun y => !decide (y.Id = l[i].Id) || decide (y = l[i])) i (by omega), dZ (by omega)]
        cases kN l[i] <;> cases (l.take i).all (fun y => !decide (y.Id = l[i].Id) || decide (y = l[i])) <;> rfl
      · simp [eK, mL]

theorem aAl {α β : Type} [DecidableEq α] (a b : α) (v : β) : ∀ m : List (α × β), eR a (bU b v m) = (decide (a = b) || eR a m)
  | [] => by simp [bU, eR]
  | (c, u) :: m => by
    simp only [bU]
    by_cases hbc : b = c
    · subst hbc
      simp [eR]
    · simp only [hbc, decide_false, cond_false, eR, aAl a b v m]
      by_cases h1 : a = c <;> by_cases h2 : a = b <;> simp [h1, h2]
theorem vQ {α β : Type} [DecidableEq α] (a b : α) (v z : β) : ∀ m : List (α × β), aE a z (bU b v m) = bif decide (a = b) then v else aE a z m
  | [] => by simp [bU, aE]
  | (c, u) :: m => by
    simp only [bU]
    by_cases hbc : b = c
    · subst hbc
      by_cases h : a = b <;> simp [aE, h]
    · simp only [hbc, decide_false, cond_false, aE, vQ a b v z m]
      by_cases h1 : a = c
      · subst h1
        simp [Ne.symm hbc, Ne.symm (a := a) (b := b) (fun e => hbc e.symm)]
      · simp [h1]
/-- What is known after some notices. -/
def aKa (l : List aK) (m : List (Int × aK)) : Prop := ∀ id, (eR id m = true → aE id (aK.mk 0 0 0 0 0) m ∈ l ∧ (aE id (aK.mk 0 0 0 0 0) m).Id = id) ∧ (∀ y ∈ l, y.Id = id → eR id m = true)
theorem aFm (f : aT) (l : List aK) : nQ f l = some (rF f l) := by
  unfold nQ rF
  rw [aEm]
  simp only [Option.bind_some]
  cases pU f with
  | false => rfl
  | true =>
    simp only [Bool.not_true, cond_false]
    cases hl : decide (60 < (l.length : Int)) with
    | true => rfl
    | false =>
      simp only [cond_false]
      have hl' : l.length ≤ 60 := by simp at hl; omega
      have key := pS (gR l (l.length : Int)) l.length (fun i _ => some (bif (List.range' i (l.length - i)).all (nZ l) then (0 : Int) else 51))
        (fun i m => aKa (l.take i) m ∧ ∀ j, j < i → nZ l j = true) (fun k i m hi hI ih => ?_) (fun k m hI => ?_) BIG [] (gU (by omega)) ⟨fun id => ⟨fun h => by simp [eR] at h, fun y hy => by simp at hy⟩, fun j hj => by omega⟩
      · rw [key]
        simp [List.range_eq_range']
      · obtain ⟨hK, hg⟩ := hI
        have hrest : List.range' i (l.length - i) = i :: List.range' (i + 1) (l.length - (i + 1)) := by
          rw [show l.length - i = (l.length - (i + 1)) + 1 by omega, List.range'_succ]
        have hgood : nZ l i = (kN l[i] && !(eR l[i].Id m && !decide (aE l[i].Id (aK.mk 0 0 0 0 0) m = l[i]))) := by
          rw [qN hi]
          congr 1
          rw [Bool.eq_iff_iff]
          simp only [List.all_eq_true, Bool.or_eq_true, Bool.not_eq_true', decide_eq_false_iff_not, decide_eq_true_eq, Bool.and_eq_false_iff, Bool.not_eq_false']
          constructor
          · intro h
            cases hm : eR l[i].Id m with
            | false => exact .inl rfl
            | true =>
              right
              obtain ⟨h1, h2⟩ := (hK l[i].Id).1 hm
              rcases h _ h1 with h3 | h3
              · exact absurd h2 h3
              · exact h3
          · intro h y hy
            by_cases hid : y.Id = l[i].Id
            · right
              have hm := (hK l[i].Id).2 y hy hid
              rcases h with h | h
              · rw [hm] at h; cases h
              · obtain ⟨h1, h2⟩ := (hK l[i].Id).1 hm
                -- both lie before, and are good
                obtain ⟨a, ha, hya⟩ := List.getElem_of_mem hy
                obtain ⟨b, hb, hmb⟩ := List.getElem_of_mem h1
                simp only [List.length_take] at ha hb
                simp only [List.getElem_take] at hya hmb
                have same : ∀ p q : Nat, p < q → q < i → ∀ (hp : p < l.length) (hq : q < l.length), l[p].Id = l[q].Id → l[p] = l[q] := by
                  intro p q hpq hqi hp hq he
                  have := hg q hqi
                  rw [qN hq] at this
                  simp only [Bool.and_eq_true, List.all_eq_true, Bool.or_eq_true, Bool.not_eq_true', decide_eq_false_iff_not, decide_eq_true_eq] at this
                  rcases this.2 l[p] (List.mem_take_iff_getElem.2 ⟨p, by omega, rfl⟩) with h | h
                  · exact absurd he h
                  · exact h
                rw [← h]
                rcases Nat.lt_trichotomy a b with hab | hab | hab
                · rw [← hya, ← hmb]
                  exact same a b hab (by omega) (by omega) (by omega) (by rw [hya, hmb, hid, h2])
                · subst hab
                  rw [← hya, ← hmb]
                · rw [← hya, ← hmb]
                  exact (same b a hab (by omega) (by omega) (by omega) (by rw [hya, hmb, hid, h2])).symm
            · exact .inl hid
        simp only [gR, show decide ((i : Int) < (l.length : Int)) = true by simpa using hi, cond_true, gG hi, Option.bind_some, aEo, dZ (i := i) (by omega)]
        rw [hrest, List.all_cons, hgood]
        have ih' : nZ l i = true → gR l (l.length : Int) k ((i + 1 : Nat) : Int) (bU l[i].Id l[i] m) = some (bif (List.range' (i + 1) (l.length - (i + 1))).all (nZ l) then (0 : Int) else 51) := fun hgi => by
          refine ih _ ⟨fun id => ?_, fun j hj => ?_⟩
          · have htk : l.take (i + 1) = l.take i ++ [l[i]] := by rw [List.take_add_one, List.getElem?_eq_getElem hi]; rfl
            rw [htk, aAl, vQ]
            constructor
            · intro h
              by_cases hid : id = l[i].Id
              · subst hid
                simp only [decide_true, cond_true]
                exact ⟨List.mem_append.2 (.inr (List.mem_singleton.2 rfl)), trivial⟩
              · simp only [hid, decide_false, Bool.false_or, cond_false] at h ⊢
                obtain ⟨h1, h2⟩ := (hK id).1 h
                exact ⟨List.mem_append.2 (.inl h1), h2⟩
            · intro y hy he
              rcases List.mem_append.1 hy with hy | hy
              · rw [(hK id).2 y hy he]; simp
              · simp at hy; subst hy; simp [he]
          · rcases Nat.lt_or_ge j i with h | h
            · exact hg j h
            · have : j = i := by omega
              subst this; exact hgi
        rw [hgood] at ih'
        revert ih'
        cases kN l[i] <;> cases eR l[i].Id m <;> cases decide (aE l[i].Id (aK.mk 0 0 0 0 0) m = l[i]) <;> intro ih' <;> first | rfl | (simpa using ih' rfl)
      · simp [gR, pK]

/-- What is valid. -/
structure VL (f : aT) (l : List aK) : Prop where
  fd : pU f = true
  len : l.length ≤ 60
  nt : ∀ x ∈ l, kN x = true
  id : ∀ x ∈ l, ∀ y ∈ l, x.Id = y.Id → x = y
theorem lN {f : aT} {l : List aK} : rF f l = 0 ↔ VL f l := by
  unfold rF
  constructor
  · intro h
    cases h1 : pU f with
    | false => rw [h1] at h; simp at h
    | true =>
      rw [h1] at h
      simp only [Bool.not_true, cond_false] at h
      cases h2 : decide (60 < (l.length : Int)) with
      | true => rw [h2] at h; simp at h
      | false =>
        rw [h2] at h
        simp only [cond_false] at h
        cases h3 : (List.range l.length).all (nZ l) with
        | false => rw [h3] at h; simp at h
        | true =>
          simp only [List.all_eq_true, List.mem_range] at h3
          have hg : ∀ i (hi : i < l.length), kN l[i] = true ∧ ∀ y ∈ l.take i, y.Id = l[i].Id → y = l[i] := fun i hi => by
            have := h3 i hi
            rw [qN hi] at this
            simp only [Bool.and_eq_true, List.all_eq_true, Bool.or_eq_true, Bool.not_eq_true', decide_eq_false_iff_not, decide_eq_true_eq] at this
            exact ⟨this.1, fun y hy he => (this.2 y hy).resolve_left fun h => h he⟩
          refine ⟨h1, by simp at h2; omega, fun x hx => ?_, fun x hx y hy he => ?_⟩
          · obtain ⟨i, hi, rfl⟩ := List.getElem_of_mem hx
            exact (hg i hi).1
          · obtain ⟨i, hi, rfl⟩ := List.getElem_of_mem hx
            obtain ⟨j, hj, rfl⟩ := List.getElem_of_mem hy
            rcases Nat.lt_trichotomy i j with h | h | h
            · exact (hg j hj).2 _ (List.mem_take_iff_getElem.2 ⟨i, by omega, rfl⟩) he
            · subst h; rfl
            · exact ((hg i hi).2 _ (List.mem_take_iff_getElem.2 ⟨j, by omega, rfl⟩) he.symm).symm
  · rintro ⟨h1, h2, h3, h4⟩
    rw [h1]
    have : decide (60 < (l.length : Int)) = false := by simp; omega
    rw [this]
    have h5 : (List.range l.length).all (nZ l) = true := by
      simp only [List.all_eq_true, List.mem_range]
      intro i hi
      rw [qN hi]
      simp only [Bool.and_eq_true, List.all_eq_true, Bool.or_eq_true, Bool.not_eq_true', decide_eq_false_iff_not, decide_eq_true_eq]
      refine ⟨h3 _ (List.getElem_mem hi), fun y hy => ?_⟩
      by_cases he : y.Id = l[i].Id
      · exact .inr (h4 _ (List.mem_of_mem_take hy) _ (List.getElem_mem hi) he)
      · exact .inl he
    rw [h5]
    rfl
end Go.Am

end
section
namespace Go.Am

/-- The order in which notices are taken. -/
def fS (x : aK) : Int := x.Hour * 1000 + x.Id
section
variable {α : Type}
theorem pQ {A : List α} {x : α} {B : List α} {p : Int} (h : p = (A.length : Int)) : idx (A ++ x :: B) p = some x := by
  subst h; rw [gG (by simp)]; simp
theorem aJa {A : List α} {x y : α} {B : List α} {p : Nat} (h : p = A.length) : (A ++ x :: B).set p y = A ++ y :: B := by
  subst h; simp
theorem uC {A : List α} {x y : α} {B : List α} {p : Int} (h : p = ((A.length + 1 : Nat) : Int)) : idx (A ++ x :: y :: B) p = some y := by
  have : A ++ x :: y :: B = (A ++ [x]) ++ y :: B := by simp
  rw [this, pQ (by simp [h])]
end
/-- What is left of a row when equal neighbours are one. -/
def mR (p : aK) : List aK → List aK
  | [] => []
  | y :: t => if y = p then mR p t else y :: mR y t
def mW : List aK → List aK
  | [] => []
  | x :: t => x :: mR x t
theorem aEi (again : Int → List aK → Option (List aK)) {k0 : Nat} : ∀ (t : List aK) (p : aK) (W X : List aK) (k2 k : Nat), 1 ≤ k2 → W.length + X.length + 1 = k0 + k2 → k0 ≤ W.length → (W ++ X ++ p :: t).length < 4611686018427387904 → t.length < k →
    cO again (k0 : Nat) k (W.length : Nat) (k2 : Nat) (W ++ X ++ p :: t) = some (W ++ mR p t) := by
  intro t
  induction t with
  | nil =>
    intro p W X k2 k h1 h2 h3 hb hk
    obtain ⟨k, rfl⟩ : ∃ q, k = q + 1 := ⟨k - 1, by omega⟩
    simp only [List.length_append, List.length_cons, List.length_nil] at hb
    have t0 : ((k0 : Nat) : Int).toNat = k0 := rfl
    have t1 : ((W.length : Nat) : Int).toNat = W.length := rfl
    have hlt : decide ((k2 : Int) < (((W ++ X ++ [p]).drop k0).length : Int)) = false := decide_eq_false (by simp; omega)
    have c1 : (decide ((0 : Int) ≤ (W.length : Int)) && decide ((W.length : Int) ≤ ((W ++ X ++ [p]).length : Int))) = true := by simp; omega
    have c2 : decide (W.length ≤ (W ++ X ++ [p]).length) = true := by simp
    have c3 : decide ((0 : Int) ≤ (W.length : Int)) = true := by simp
    simp only [cO, t0, hlt, cond_false, iP]
    rw [c1, t1, c2, c3]
    simp [chk, mR]
  | cons y t ih =>
    intro p W X k2 k h1 h2 h3 hb hk
    obtain ⟨k, rfl⟩ : ∃ q, k = q + 1 := ⟨k - 1, by omega⟩
    simp only [List.length_append, List.length_cons] at hb hk
    have t0 : ((k0 : Nat) : Int).toNat = k0 := rfl
    have t1 : ((W.length : Nat) : Int).toNat = W.length := rfl
    have hlt : decide ((k2 : Int) < (((W ++ X ++ p :: y :: t).drop k0).length : Int)) = true := decide_eq_true (by simp; omega)
    have ed : (W ++ X ++ p :: y :: t).drop k0 = (W ++ X).drop k0 ++ p :: y :: t := by rw [List.drop_append_of_le_length (by simp; omega)]
    have hdl : ((W ++ X).drop k0).length = k2 - 1 := by simp; omega
    have i1 : idx ((W ++ X ++ p :: y :: t).drop k0) (k2 : Nat) = some y := by rw [ed]; exact uC (by rw [hdl]; omega)
    have i2 : idx ((W ++ X ++ p :: y :: t).drop k0) (w64 ((k2 : Int) - 1)) = some p := by rw [aCz (by omega) (by omega), ed]; exact pQ (by rw [hdl])
    simp only [cO, t0, hlt, cond_true, i1, i2, Option.bind_some, dZ (show k2 < 9223372036854775807 by omega)]
    by_cases hyp : y = p
    · subst hyp
      have := ih y W (X ++ [y]) (k2 + 1) k (by omega) (by simp; omega) h3 (by simp only [List.length_append, List.length_cons, List.length_nil]; omega) (by omega)
      have e1 : W ++ (X ++ [y]) ++ y :: t = W ++ X ++ y :: y :: t := by simp
      rw [e1] at this
      rw [decide_eq_true rfl, Bool.not_true, cond_false, this]
      simp [mR]
    · have hd : (!decide (y = p)) = true := by rw [decide_eq_false hyp]; rfl
      have i3 : ∃ z, idx (W ++ X ++ p :: y :: t) (W.length : Nat) = some z := ⟨_, gG (by simp; omega)⟩
      obtain ⟨z, i3⟩ := i3
      rw [hd, cond_true, i3, Option.bind_some, t1, dZ (by omega)]
      obtain ⟨X', e2⟩ : ∃ X', (W ++ X ++ p :: y :: t).set W.length y = (W ++ [y]) ++ X' ++ y :: t ∧ X'.length = X.length := by
        cases X with
        | nil => exact ⟨[], by simp, rfl⟩
        | cons x X => exact ⟨X ++ [p], by simp, by simp⟩
      rw [e2.1]
      have := ih y (W ++ [y]) X' (k2 + 1) k (by omega) (by rw [List.length_append, e2.2]; simp; omega) (by simp; omega) (by simp only [List.length_append, List.length_cons, List.length_nil, e2.2]; omega) (by omega)
      have e3 : (W ++ [y]).length = W.length + 1 := by simp
      rw [e3] at this
      rw [this]
      simp [mR, hyp]
theorem aBn (s : List aK) (hb : s.length < 4611686018427387904) : eH s = some (mW s) := by
  have main : ∀ (t A : List aK) (p : aK) (k : Nat), t.length < k → (A ++ p :: t).length < 4611686018427387904 → cC k ((A.length + 1 : Nat) : Int) (A ++ p :: t) = some (A ++ p :: mR p t) := by
    intro t
    induction t with
    | nil =>
      intro A p k hk hb
      obtain ⟨k, rfl⟩ : ∃ q, k = q + 1 := ⟨k - 1, by omega⟩
      have hlt : decide (((A.length + 1 : Nat) : Int) < ((A ++ [p]).length : Int)) = false := decide_eq_false (by simp)
      simp only [cC, hlt, cond_false, iN, mR]
    | cons y t ih =>
      intro A p k hk hb
      obtain ⟨k, rfl⟩ : ∃ q, k = q + 1 := ⟨k - 1, by omega⟩
      simp only [List.length_append, List.length_cons] at hb hk
      have hlt : decide (((A.length + 1 : Nat) : Int) < ((A ++ p :: y :: t).length : Int)) = true := decide_eq_true (by simp; omega)
      have i2 : w64 (((A.length + 1 : Nat) : Int) - 1) = (A.length : Int) := by rw [gT (by omega) (by omega)]; omega
      simp only [cC, hlt, cond_true, uC rfl, i2, pQ rfl, Option.bind_some]
      by_cases hyp : y = p
      · subst hyp
        have c1 : (decide ((0 : Int) ≤ ((A.length + 1 : Nat) : Int)) && decide (((A.length + 1 : Nat) : Int) ≤ ((A ++ y :: y :: t).length : Int))) = true := by simp; omega
        rw [decide_eq_true rfl, cond_true, c1]
        simp only [chk, cond_true, Option.bind_some]
        have := aEi (cC k) (k0 := A.length + 1) t y (A ++ [y]) [] 1 BIG (Nat.le_refl _) (by simp) (by simp) (by simp only [List.length_append, List.length_cons, List.length_nil]; omega) (gU (by omega))
        have e3 : (A ++ [y]).length = A.length + 1 := by simp
        have e4 : A ++ [y] ++ [] ++ y :: t = A ++ y :: y :: t := by simp
        rw [e3, e4] at this
        have e5 : ((1 : Nat) : Int) = 1 := rfl
        rw [e5] at this
        rw [this]
        simp [mR]
      · rw [decide_eq_false hyp, cond_false]
        unfold iO
        rw [dZ (by omega)]
        have := ih (A ++ [p]) y k (by omega) (by simp only [List.length_append, List.length_cons, List.length_nil]; omega)
        have e3 : (A ++ [p]).length = A.length + 1 := by simp
        have e4 : A ++ [p] ++ y :: t = A ++ p :: y :: t := by simp
        rw [e3, e4] at this
        rw [this]
        simp [mR, hyp]
  unfold eH
  match s, hb with
  | [], _ => simp [mW]
  | x :: t, hb =>
    by_cases ht : t = []
    · subst ht; simp [mW, mR]
    · have hl : 0 < t.length := List.length_pos_iff.2 ht
      have hd : decide (((x :: t).length : Int) < 2) = false := decide_eq_false (by simp; omega)
      rw [hd, cond_false]
      have := main t [] x BIG (gU (by simp at hb; omega)) (by simpa using hb)
      simp only [List.length_nil, List.nil_append, Nat.zero_add] at this
      have e5 : ((1 : Nat) : Int) = 1 := rfl
      rw [e5] at this
      rw [this]; rfl
theorem aHj (p x : aK) (t : List aK) : (x = p ∨ x ∈ mR p t) ↔ (x = p ∨ x ∈ t) := by
  induction t generalizing p with
  | nil => rfl
  | cons y t ih =>
    simp only [mR, List.mem_cons]
    by_cases h : y = p
    · subst h
      rw [if_pos rfl]
      have := ih y
      constructor
      · rintro (h | h)
        · exact .inl h
        · rcases this.1 (.inr h) with h | h
          · exact .inl h
          · exact .inr (.inr h)
      · rintro (h | h | h)
        · exact .inl h
        · exact .inl h
        · exact this.2 (.inr h)
    · rw [if_neg h, List.mem_cons]
      have := ih y
      constructor
      · rintro (h | h)
        · exact .inl h
        · exact .inr (this.1 h)
      · rintro (h | h)
        · exact .inl h
        · exact .inr (this.2 h)
theorem aDc (x : aK) (s : List aK) : x ∈ mW s ↔ x ∈ s := by
  cases s with
  | nil => rfl
  | cons p t => simp only [mW, List.mem_cons]; exact aHj p x t
theorem aHk (p : aK) (t : List aK) : (mR p t).Sublist t := by
  induction t generalizing p with
  | nil => exact .slnil
  | cons y t ih =>
    simp only [mR]
    split
    · exact (ih p).cons _
    · exact (ih y).cons_cons _
/-- In a weakly ordered row without a clash, what is left is strictly ordered. -/
theorem aDf (p : aK) (t : List aK) (hs : (p :: t).Pairwise fun x y => fS x ≤ fS y) (hcl : ∀ x ∈ p :: t, ∀ y ∈ p :: t, fS x = fS y → x = y) : (p :: mR p t).Pairwise fun x y => fS x < fS y := by
  induction t generalizing p with
  | nil => exact List.pairwise_singleton _ _
  | cons y t ih =>
    have h1 := List.pairwise_cons.1 hs
    have h2 := List.pairwise_cons.1 h1.2
    simp only [mR]
    by_cases h : y = p
    · subst h
      rw [if_pos rfl]
      exact ih y h1.2 (fun a ha b hb => hcl a (List.mem_cons_of_mem _ ha) b (List.mem_cons_of_mem _ hb))
    · rw [if_neg h]
      have h3 := ih y h1.2 (fun a ha b hb => hcl a (List.mem_cons_of_mem _ ha) b (List.mem_cons_of_mem _ hb))
      refine List.pairwise_cons.2 ⟨fun z hz => ?_, h3⟩
      have hpy : fS p < fS y := by
        have := h1.1 y (by simp)
        rcases Int.lt_or_eq_of_le this with h4 | h4
        · exact h4
        · exact absurd (hcl p (by simp) y (by simp) h4).symm h
      rcases List.mem_cons.1 hz with rfl | hz
      · exact hpy
      · exact Int.lt_trans hpy ((List.pairwise_cons.1 h3).1 z hz)
theorem qY {α : Type} {key : α → Int} : ∀ {xs ys : List α}, xs.Pairwise (fun x y => key x < key y) → ys.Pairwise (fun x y => key x < key y) → (∀ x, x ∈ xs ↔ x ∈ ys) → xs = ys
  | [], [], _, _, _ => rfl
  | [], y :: ys, _, _, h => by have := (h y).2 (by simp); simp at this
  | x :: xs, [], _, _, h => by have := (h x).1 (by simp); simp at this
  | x :: xs, y :: ys, h1, h2, h => by
    have a1 := List.pairwise_cons.1 h1
    have a2 := List.pairwise_cons.1 h2
    have hxy : x = y := by
      rcases List.mem_cons.1 ((h x).1 (by simp)) with e | e
      · exact e
      · rcases List.mem_cons.1 ((h y).2 (by simp)) with e2 | e2
        · exact e2.symm
        · have := a2.1 x e; have := a1.1 y e2; omega
    subst hxy
    have := qY a1.2 a2.2 fun z => by
      have hz := h z
      simp only [List.mem_cons] at hz
      constructor
      · intro hm
        rcases hz.1 (.inr hm) with e | e
        · have := a1.1 z hm; rw [e] at this; omega
        · exact e
      · intro hm
        rcases hz.2 (.inr hm) with e | e
        · have := a2.1 z hm; rw [e] at this; omega
        · exact e
    rw [this]


theorem aEh (l : List aK) (hb : l.length ≤ 60) : fK l = some l := by
  have key := pS (bY (fun (s3 : List aK) x4 => (app 40 s3 ([x4])).bind fun x6 => some (x6, true)) l (l.length : Int)) l.length (fun i s => some (s ++ l.drop i, true)) (fun i s => s.length = i) (fun k i s hi hI ih => ?_) (fun k s hI => ?_) BIG [] (gU (by omega)) rfl
  · unfold fK gE dW
    rw [key]
    simp
  · simp only [bY, show decide ((i : Int) < (l.length : Int)) = true by simpa using hi, cond_true, gG hi, Option.bind_some]
    rw [qI (by simp; omega)]
    simp only [Option.bind_some, Bool.not_true, cond_false]
    rw [dZ (by omega), ih _ (by simp; omega)]
    rw [List.append_assoc, List.singleton_append, ← List.drop_eq_getElem_cons hi]
  · simp [bY, fA]
theorem or2 (a b : Int) : kR [a, b] = some (if a ≠ 0 then a else b) := by
  unfold kR
  obtain ⟨k, hk⟩ : ∃ k, BIG = k + 1 + 1 + 1 := ⟨BIG - 3, by unfold BIG; omega⟩
  rw [show ((([a, b] : List Int).length : Nat) : Int) = 2 from rfl, hk]
  simp only [kQ, nW, show decide ((0 : Int) < 2) = true from rfl, cond_true, show idx [a, b] 0 = some a from rfl, Option.bind_some, show w64 (0 + 1) = 1 from rfl, show decide ((1 : Int) < 2) = true from rfl, show idx [a, b] 1 = some b from rfl, show w64 (1 + 1) = 2 from rfl, show decide ((2 : Int) < 2) = false from rfl, cond_false]
  by_cases h : a = 0
  · subst h
    by_cases h2 : b = 0
    · subst h2; simp
    · simp [h2]
  · simp [h]
/-- Whose number and hour are within their bounds. -/
def bN (x : aK) : Prop := 0 ≤ x.Id ∧ x.Id ≤ 999 ∧ 0 ≤ x.Hour ∧ x.Hour ≤ 9999
theorem aAy {x : aK} (h : kN x = true) : bN x := by
  unfold kN at h
  simp only [Bool.and_eq_true, tQ] at h
  exact ⟨h.1.1.1.1, h.1.1.1.2, h.1.2.1, h.1.2.2⟩
theorem aJm {x y : aK} (hx : bN x) (hy : bN y) : ∃ r, dA x y = some r ∧ (r < 0 ↔ fS x < fS y) := by
  obtain ⟨a1, a2, a3, a4⟩ := hx
  obtain ⟨b1, b2, b3, b4⟩ := hy
  unfold dA
  rw [gT (by omega) (by omega), gT (by omega) (by omega), or2]
  refine ⟨_, rfl, ?_⟩
  unfold fS
  split <;> constructor <;> intro h <;> omega
theorem ltN {x y : aK} (hx : bN x) (hy : bN y) : ltO (fun a b => dA a b) x y = decide (fS x < fS y) := by
  obtain ⟨r, h1, h2⟩ := aJm hx hy
  unfold ltO
  simp only [h1]
  rw [Bool.eq_iff_iff]
  simpa using h2
theorem aBy {x y : aK} (hx : bN x) (hy : bN y) (h : fS x = fS y) : x.Id = y.Id := by
  obtain ⟨a1, a2, a3, a4⟩ := hx
  obtain ⟨b1, b2, b3, b4⟩ := hy
  unfold fS at h
  omega
theorem aDw {l : List aK} (hb : ∀ x ∈ l, bN x) (hid : ∀ x ∈ l, ∀ y ∈ l, x.Id = y.Id → x = y) : oB l (fun a b => dA a b) = true := by
  unfold oB
  simp only [List.all_eq_true, Bool.and_eq_true, Bool.or_eq_true, Bool.not_eq_true', decide_eq_true_eq]
  intro x hx
  refine ⟨by rw [ltN (hb x hx) (hb x hx)]; simp, fun y hy => ⟨⟨?_, ?_⟩, fun z hz => ⟨?_, ?_⟩⟩⟩
  · obtain ⟨r, h1, _⟩ := aJm (hb x hx) (hb y hy)
    simp [h1]
  · rw [ltN (hb x hx) (hb y hy), ltN (hb y hy) (hb x hx)]
    simp only [decide_eq_true_eq]
    rcases Int.lt_trichotomy (fS x) (fS y) with h | h | h
    · exact .inl (.inr h)
    · exact .inl (.inl (hid x hx y hy (aBy (hb x hx) (hb y hy) h)))
    · exact .inr h
  · rw [ltN (hb x hx) (hb y hy), ltN (hb y hy) (hb z hz), ltN (hb x hx) (hb z hz)]
    simp only [Bool.and_eq_false_iff, decide_eq_false_iff_not, decide_eq_true_eq]
    omega
  · rw [ltN (hb x hx) (hb y hy), ltN (hb y hy) (hb z hz), ltN (hb x hx) (hb z hz)]
    simp only [decide_eq_false_iff_not, decide_eq_true_eq]
    omega
def jQ (l : List aK) : List aK := mW (cT (fun a b => dA a b) l)
theorem aJn {l : List aK} (hlen : l.length ≤ 60) (hb : ∀ x ∈ l, bN x) (hid : ∀ x ∈ l, ∀ y ∈ l, x.Id = y.Id → x = y) :
    eP l (fun y5 y6 => dA y5 y6) = some (cT (fun a b => dA a b) l) ∧ eH (cT (fun a b => dA a b) l) = some (jQ l) := by
  have hl : (cT (fun a b => dA a b) l).length = l.length := (gK _ l).length_eq
  refine ⟨?_, aBn _ (by omega)⟩
  unfold eP jL
  rw [aEh l hlen]
  simp only [Option.bind_some]
  unfold oD
  rw [if_pos ⟨aDw hb hid, by omega⟩]
  rfl
theorem nJ {l : List aK} (x : aK) : x ∈ jQ l ↔ x ∈ l := by
  unfold jQ
  rw [aDc]
  exact (gK _ l).mem_iff
theorem uT {l : List aK} (hb : ∀ x ∈ l, bN x) (hid : ∀ x ∈ l, ∀ y ∈ l, x.Id = y.Id → x = y) : (jQ l).Pairwise fun x y => fS x < fS y := by
  have hs := oC (aDw hb hid)
  have hm : ∀ x, x ∈ cT (fun a b => dA a b) l ↔ x ∈ l := fun x => (gK _ l).mem_iff
  unfold jQ
  generalize hz : cT (fun a b => dA a b) l = z at hs hm
  have hs' : z.Pairwise fun x y => fS x ≤ fS y := by
    refine List.Pairwise.imp_of_mem (fun {x y} hx hy h => ?_) hs
    rw [ltN (hb y ((hm y).1 hy)) (hb x ((hm x).1 hx))] at h
    simp at h
    omega
  cases z with
  | nil => exact .nil
  | cons p t => exact aDf p t hs' fun x hx y hy h => hid x ((hm x).1 hx) y ((hm y).1 hy) (aBy (hb x ((hm x).1 hx)) (hb y ((hm y).1 hy)) h)
end Go.Am

end
section
namespace Go.Am

section lists
variable {α : Type}
end lists

end Go.Am

end
section
namespace Go.Am

def fL {α : Type} (p : α → Bool) (l : List α) : Int := if l.findIdx p < l.length then (l.findIdx p : Int) else -1
theorem aAc {α : Type} (F : Nat → Int → Option Int) (l : List α) (p : α → Bool) (h1 : ∀ k i (hi : i < l.length), F (k + 1) (i : Nat) = bif p l[i] then some (i : Int) else F k ((i + 1 : Nat) : Int)) (h2 : ∀ k, F (k + 1) (l.length : Nat) = some (-1)) :
    ∀ k, l.length < k → F k 0 = some (fL p l) := by
  have main : ∀ d i k, l.length - i = d → d < k → i ≤ l.length → (∀ j (hj : j < l.length), j < i → p l[j] = false) → F k (i : Nat) = some (fL p l) := by
    intro d
    induction d with
    | zero =>
      intro i k hd hk hi hno
      obtain ⟨k, rfl⟩ : ∃ q, k = q + 1 := ⟨k - 1, by omega⟩
      have : i = l.length := by omega
      subst this
      have he : ¬ l.findIdx p < l.length := fun h => by
        have := hno _ h h
        rw [List.findIdx_getElem (w := h)] at this
        cases this
      rw [h2, fL, if_neg he]
    | succ d ih =>
      intro i k hd hk hi hno
      obtain ⟨k, rfl⟩ : ∃ q, k = q + 1 := ⟨k - 1, by omega⟩
      have hil : i < l.length := by omega
      rw [h1 k i hil]
      cases hp : p l[i] with
      | true =>
        have he : l.findIdx p = i := by
          rw [List.findIdx_eq hil]
          exact ⟨hp, fun j hj => hno j (by omega) hj⟩
        rw [cond_true, fL, he, if_pos hil]
      | false =>
        rw [cond_false]
        exact ih (i + 1) k (by omega) (by omega) (by omega) fun j hj hji => by
          rcases Nat.lt_or_eq_of_le (Nat.le_of_lt_succ hji) with h | h
          · exact hno j hj h
          · subst h; exact hp
  intro k hk
  exact main _ 0 k rfl (by omega) (Nat.zero_le _) fun j _ h => by omega

section del
theorem aBx (l : List Int) (f : Int → Option Bool) (p : Int → Bool) (h : ∀ x ∈ l, f x = some (p x)) (hb : l.length ≤ 1000000) : eZ l f = some (fL p l) := by
  unfold eZ
  refine aAc (fun k i => dY l f (l.length : Int) k i) l p (fun k i hi => ?_) (fun k => ?_) BIG (gU (by omega))
  · have hlt : decide ((i : Int) < (l.length : Int)) = true := decide_eq_true (by omega)
    simp only [dY, hlt, cond_true, gG hi, Option.bind_some, h _ (List.getElem_mem hi), dZ (show i < 9223372036854775807 by omega)]
  · have hlt : decide ((l.length : Int) < (l.length : Int)) = false := decide_eq_false (by omega)
    simp only [dY, hlt, cond_false, kO]
theorem aDd (f : Int → Option Bool) (p : Int → Bool) : ∀ (t W X : List Int) (k : Nat), (∀ x ∈ t, f x = some (p x)) → 0 < X.length → (W ++ X ++ t).length ≤ 1000000 → t.length < k →
    dE f k (W.length : Nat) ((W.length + X.length : Nat) : Int) (W ++ X ++ t) = some (W ++ t.filter fun x => !p x) := by
  intro t
  induction t with
  | nil =>
    intro W X k hf hX hb hk
    obtain ⟨k, rfl⟩ : ∃ q, k = q + 1 := ⟨k - 1, by omega⟩
    simp only [List.length_append, List.length_nil] at hb
    have hlt : decide (((W.length + X.length : Nat) : Int) < ((W ++ X ++ []).length : Int)) = false := decide_eq_false (by simp)
    have t1 : ((W.length : Nat) : Int).toNat = W.length := rfl
    have c1 : (decide ((0 : Int) ≤ (W.length : Int)) && decide ((W.length : Int) ≤ ((W ++ X ++ []).length : Int))) = true := by simp; omega
    have c2 : decide (W.length ≤ (W ++ X ++ []).length) = true := by simp
    have c3 : decide ((0 : Int) ≤ (W.length : Int)) = true := by simp
    simp only [dE, hlt, cond_false, kI]
    rw [c1, t1, c2, c3]
    simp [chk]
  | cons y t ih =>
    intro W X k hf hX hb hk
    obtain ⟨k, rfl⟩ : ∃ q, k = q + 1 := ⟨k - 1, by omega⟩
    simp only [List.length_append, List.length_cons] at hb hk
    have hlt : decide (((W.length + X.length : Nat) : Int) < ((W ++ X ++ y :: t).length : Int)) = true := decide_eq_true (by simp; omega)
    have i1 : idx (W ++ X ++ y :: t) ((W.length + X.length : Nat) : Int) = some y := pQ (by simp)
    have hf1 := hf y (by simp)
    have hf2 : ∀ x ∈ t, f x = some (p x) := fun x hx => hf x (List.mem_cons_of_mem _ hx)
    have t1 : ((W.length : Nat) : Int).toNat = W.length := rfl
    simp only [dE, hlt, cond_true, i1, hf1, Option.bind_some, dZ (show W.length + X.length < 9223372036854775807 by omega)]
    cases hp : p y with
    | true =>
      simp only [Bool.not_true, cond_false]
      have := ih W (X ++ [y]) k hf2 (by simp) (by simp; omega) (by omega)
      have e1 : W ++ (X ++ [y]) ++ t = W ++ X ++ y :: t := by simp
      have e2 : W.length + (X ++ [y]).length = W.length + X.length + 1 := by simp; omega
      rw [e1, e2] at this
      rw [this]; simp [hp]
    | false =>
      simp only [Bool.not_false, cond_true]
      match X, hX with
      | x :: X, _ =>
        have i2 : idx (W ++ (x :: X) ++ y :: t) (W.length : Nat) = some x := by
          have : W ++ (x :: X) ++ y :: t = W ++ x :: (X ++ y :: t) := by simp
          rw [this]; exact pQ rfl
        have e3 : (W ++ (x :: X) ++ y :: t).set W.length y = (W ++ [y]) ++ (X ++ [y]) ++ t := by
          have : W ++ (x :: X) ++ y :: t = W ++ x :: (X ++ y :: t) := by simp
          rw [this, aJa rfl]; simp
        rw [i2, Option.bind_some, t1, e3, dZ (by omega)]
        have := ih (W ++ [y]) (X ++ [y]) k hf2 (by simp) (by simp at hb ⊢; omega) (by omega)
        have e4 : (W ++ [y]).length = W.length + 1 := by simp
        have e5 : (W ++ [y]).length + (X ++ [y]).length = W.length + (x :: X).length + 1 := by simp; omega
        rw [e5, e4] at this
        rw [this]; simp [hp]
theorem xV (s : List Int) (f : Int → Option Bool) (p : Int → Bool) (h : ∀ x ∈ s, f x = some (p x)) (hb : s.length ≤ 1000000) : bV s f = some (s.filter fun x => !p x) := by
  unfold bV
  rw [aBx s f p h hb, Option.bind_some]
  unfold fL
  by_cases hl : s.findIdx p < s.length
  · rw [if_pos hl, decide_eq_false (by omega), cond_false]
    obtain ⟨i, hi⟩ : ∃ i, i = s.findIdx p := ⟨_, rfl⟩
    rw [← hi] at hl ⊢
    have hno : ∀ x ∈ s.take i, (!p x) = true := fun x hx => by
      obtain ⟨j, hj, rfl⟩ := List.getElem_of_mem hx
      simp only [List.length_take] at hj
      rw [List.getElem_take]
      have := List.not_of_lt_findIdx (p := p) (xs := s) (i := j) (by omega)
      simpa using this
    have hyes : p s[i] = true := by
      have := List.findIdx_getElem (p := p) (xs := s) (w := hi ▸ hl)
      simpa [← hi] using this
    have es : s = s.take i ++ [s[i]] ++ s.drop (i + 1) := by
      rw [List.append_assoc, List.singleton_append, ← List.drop_eq_getElem_cons hl, List.take_append_drop]
    have hloop := aDd f p (s.drop (i + 1)) (s.take i) [s[i]] BIG (fun x hx => h x (List.mem_of_mem_drop hx)) (by simp) (by rw [← es]; omega) (gU (by simp; omega))
    have e1 : (s.take i).length = i := by simp; omega
    rw [e1, ← es] at hloop
    rw [dZ (by omega)]
    have e2 : i + [s[i]].length = i + 1 := rfl
    rw [e2] at hloop
    rw [hloop]
    congr 1
    conv => rhs; rw [es]
    rw [List.filter_append, List.filter_append, List.filter_eq_self.2 hno]
    simp [hyes]
  · rw [if_neg hl, decide_eq_true rfl, cond_true]
    congr 1
    symm
    refine List.filter_eq_self.2 fun x hx => ?_
    cases hp : p x with
    | false => rfl
    | true => exact absurd (List.findIdx_lt_length_of_exists ⟨x, hx, hp⟩) hl
end del

theorem aBe (l : List Int) (hl : l.length ≤ 9223372036854775807) (v : Int) : fN l v = some (match l.findIdx? (fun x => decide (v = x)) with | some i => (i : Int) | none => -1) := by
  unfold fN
  rw [pS (S := Unit) (fun k i _ => dG l v l.length k i) l.length (fun i _ => some (match (l.drop i).findIdx? (fun x => decide (v = x)) with | some j => ((i + j : Nat) : Int) | none => -1)) (fun _ _ => True) ?_ ?_ BIG () (gU hl) trivial]
  · simp
  · intro k i _ hi _ ih
    have := ih () trivial
    simp only [dG, gG hi, Option.bind_some, dZ (show i < 9223372036854775807 by omega), Int.ofNat_lt, hi, decide_true, cond_true, this]
    rw [List.drop_eq_getElem_cons hi, List.findIdx?_cons]
    by_cases h : v = l[i]
    · simp [h]
    · simp only [h, decide_false, cond_false, Bool.false_eq_true, if_false]
      cases List.findIdx? (fun x => decide (v = x)) (List.drop (i + 1) l) with
      | none => rfl
      | some j => simp; omega
  · intro k _ _
    simp [dG, kM]
theorem sL (l : List Int) (hl : l.length ≤ 9223372036854775807) (v : Int) : gH l v = some (decide (v ∈ l)) := by
  unfold gH
  rw [aBe l hl v]
  cases h : List.findIdx? (fun x => decide (v = x)) l with
  | none =>
    simp at h
    have : v ∉ l := fun hm => h v hm rfl
    simp [this]
  | some j =>
    have : v ∈ l := by
      obtain ⟨h1, h2, _⟩ := List.findIdx?_eq_some_iff_getElem.1 h
      simp at h2
      rw [h2]; exact List.getElem_mem h1
    simp [this]


theorem aCl (out : List Int) (p : Int) (hb : out.length ≤ 1000000) : fN out p = some (fL (fun x => decide (p = x)) out) := by
  unfold fN
  refine aAc (fun k i => dG out p (out.length : Int) k i) out (fun x => decide (p = x)) (fun k i hi => ?_) (fun k => ?_) BIG (gU (by omega))
  · have hlt : decide ((i : Int) < (out.length : Int)) = true := decide_eq_true (by omega)
    simp only [dG, hlt, cond_true, gG hi, Option.bind_some, dZ (show i < 9223372036854775807 by omega)]
  · have hlt : decide ((out.length : Int) < (out.length : Int)) = false := decide_eq_false (by omega)
    simp only [dG, hlt, cond_false, kM]
theorem aFi (a b : List Int) (ha : a.length ≤ 100000) (hb : b.length ≤ 100000) : jP [a, b] = some (a ++ b) := by
  have e1 : ∀ k s, eG [a, b] 2 (k + 3) 0 s = (app 8 s a).bind fun x => (app 8 x b).bind fun y => some y := by
    intro k s
    have w1 : w64 (0 + 1) = 1 := rfl
    have w2 : w64 (1 + 1) = 2 := rfl
    have i0 : idx [a, b] 0 = some a := rfl
    have i1 : idx [a, b] 1 = some b := rfl
    have c0 : decide ((0 : Int) < 2) = true := rfl
    have c1 : decide ((1 : Int) < 2) = true := rfl
    have c2 : decide ((2 : Int) < 2) = false := rfl
    rw [eG, c0, cond_true, i0, Option.bind_some, w1]
    refine congrArg _ (funext fun x => ?_)
    rw [eG, c1, cond_true, i1, Option.bind_some, w2]
    refine congrArg _ (funext fun y => ?_)
    rw [eG, c2, cond_false]; rfl
  have hB : BIG = (18446744073709551616 - 3) + 3 := rfl
  have hL : (([a, b] : List (List Int)).length : Int) = 2 := rfl
  have g1 : w64 (0 + (a.length : Int)) = a.length := by rw [gT (by omega) (by omega)]; omega
  have g2 : w64 ((a.length : Int) + (b.length : Int)) = ((a.length + b.length : Nat) : Int) := by rw [gT (by omega) (by omega)]; omega
  have hgrow : kY ((a.length + b.length : Nat) : Int) = some [] := by
    unfold kY
    have w0 : w64 (0 - 0) = 0 := rfl
    rw [decide_eq_false (by omega), cond_false, w0, Int.sub_zero, gT (by omega) (by omega)]
    by_cases h0 : (0 : Int) < ((a.length + b.length : Nat) : Int)
    · have c1 : decide (((a.length + b.length : Nat) : Int) * ((8 : Nat) : Int) ≤ 140737488355328) = true := decide_eq_true (by omega)
      rw [decide_eq_true h0, cond_true, c1]; rfl
    · rw [decide_eq_false h0, cond_false]
  unfold jP
  rw [hB, hL]
  have w1 : w64 (0 + 1) = 1 := rfl
  have w2 : w64 (1 + 1) = 2 := rfl
  have i0 : idx [a, b] 0 = some a := rfl
  have i1 : idx [a, b] 1 = some b := rfl
  have c0 : decide ((0 : Int) < 2) = true := rfl
  have c1 : decide ((1 : Int) < 2) = true := rfl
  have c2 : decide ((2 : Int) < 2) = false := rfl
  rw [eY, c0, cond_true, i0, Option.bind_some, g1, decide_eq_false (by omega), cond_false, w1, eY, c1, cond_true, i1, Option.bind_some, g2, decide_eq_false (by omega), cond_false, w2, eY, c2, cond_false]
  unfold lY
  rw [hgrow, Option.bind_some, hB, hL, e1, qI (by simp; omega), Option.bind_some, List.nil_append, qI (by omega), Option.bind_some]

end Go.Am

end
section
namespace Go.Am

abbrev zP : aA := aA.mk false false 0 0 false false false false
/-- What is known of a player. -/
def pl (l : aJ) (n : Int) : aA := aE n zP l.players

/-- What holds of the lists that the program makes. -/
structure WF (l : aJ) : Prop where
  fd : pU l.Field = true
  keys : (l.players.map Prod.fst).Nodup
  cnt : l.players.length ≤ 60
  ent : 0 ≤ l.entered ∧ l.entered ≤ 60
  mr : 0 ≤ l.more ∧ l.more ≤ 60
  turn : ∀ n, (pl l n).entered = true → 1 ≤ (pl l n).turn ∧ (pl l n).turn ≤ l.entered ∧ 0 ≤ (pl l n).rank ∧ (pl l n).rank ≤ 9999
  inj : ∀ n m, (pl l n).entered = true → (pl l m).entered = true → (pl l n).turn = (pl l m).turn → n = m

theorem yN {α β : Type} [DecidableEq α] {n : α} {z : β} : ∀ {m : List (α × β)}, n ∉ m.map Prod.fst → aE n z m = z
  | [], _ => rfl
  | (b, v) :: m, h => by
    simp only [List.map_cons, List.mem_cons, not_or] at h
    simp only [aE, h.1, decide_false, cond_false]
    exact yN h.2
theorem zJ {l : aJ} {n : Int} (h : (pl l n).entered = true) : n ∈ l.players.map Prod.fst := by
  refine Classical.byContradiction fun hn => ?_
  unfold pl at h
  rw [yN hn] at h
  cases h
theorem aFr (l : aJ) (n : Int) : isE l.players n = ((pl l n).entered && !(pl l n).quit && !(pl l n).had) := rfl

/-- The order of the entries. -/
def iM (l : aJ) (n : Int) : Int := (if (pl l n).rank = 0 then 10000 else (pl l n).rank) * 100 + (pl l n).turn
theorem or3 (a b c : Int) : kR [a, b, c] = some (if a ≠ 0 then a else if b ≠ 0 then b else c) := by
  obtain ⟨k, hk⟩ : ∃ k, BIG = k + 1 + 1 + 1 + 1 := ⟨BIG - 4, by unfold BIG; omega⟩
  unfold kR
  rw [show ((([a, b, c] : List Int).length : Nat) : Int) = 3 from rfl, hk]
  simp only [kQ, nW, show decide ((0 : Int) < 3) = true from rfl, cond_true, show idx [a, b, c] 0 = some a from rfl, Option.bind_some, show w64 (0 + 1) = 1 from rfl, show decide ((1 : Int) < 3) = true from rfl, show idx [a, b, c] 1 = some b from rfl, show w64 (1 + 1) = 2 from rfl, show decide ((2 : Int) < 3) = true from rfl, show idx [a, b, c] 2 = some c from rfl, show w64 (2 + 1) = 3 from rfl, show decide ((3 : Int) < 3) = false from rfl, cond_false]
  by_cases h : a = 0
  · subst h
    by_cases h2 : b = 0
    · subst h2
      by_cases h3 : c = 0
      · subst h3; simp
      · simp [h3]
    · simp [h2]
  · simp [h]
theorem aIv (p : aA) : fG p = some (if p.rank = 0 then 1 else 0) := by
  unfold fG
  by_cases h : p.rank = 0 <;> simp [h]
theorem aJl {l : aJ} (h : WF l) {a b : Int} (ha : (pl l a).entered = true) (hb : (pl l b).entered = true) : ∃ r, dB a b l = some r ∧ (r < 0 ↔ iM l a < iM l b) := by
  obtain ⟨a1, a2, a3, a4⟩ := h.turn a ha
  obtain ⟨b1, b2, b3, b4⟩ := h.turn b hb
  have he := h.ent.2
  unfold dB
  rw [show (aE a (aA.mk false false 0 0 false false false false) l.players) = pl l a from rfl, show (aE b (aA.mk false false 0 0 false false false false) l.players) = pl l b from rfl]
  simp only [aIv, Option.bind_some]
  rw [gT (by split <;> split <;> omega) (by split <;> split <;> omega), gT (by omega) (by omega), gT (by omega) (by omega), or3]
  refine ⟨_, rfl, ?_⟩
  unfold iM
  by_cases h1 : (pl l a).rank = 0 <;> by_cases h2 : (pl l b).rank = 0 <;> simp only [h1, h2, if_true, if_false] <;> (repeat' split) <;> constructor <;> intro h3 <;> omega
theorem ltE {l : aJ} (h : WF l) {a b : Int} (ha : (pl l a).entered = true) (hb : (pl l b).entered = true) : ltO (fun a b => dB a b l) a b = decide (iM l a < iM l b) := by
  obtain ⟨r, h1, h2⟩ := aJl h ha hb
  unfold ltO
  simp only [h1]
  rw [Bool.eq_iff_iff]
  simpa using h2
theorem xM {l : aJ} (h : WF l) {a b : Int} (ha : (pl l a).entered = true) (hb : (pl l b).entered = true) (he : iM l a = iM l b) : a = b := by
  obtain ⟨a1, a2, a3, a4⟩ := h.turn a ha
  obtain ⟨b1, b2, b3, b4⟩ := h.turn b hb
  have he2 := h.ent.2
  refine h.inj a b ha hb ?_
  unfold iM at he
  split at he <;> split at he <;> omega

/-- All entries, as they lie in the map. -/
def nM (l : aJ) : List Int := (l.players.filter fun p => isE l.players p.1).map Prod.fst
def fW (l : aJ) : List Int := cT (fun a b => dB a b l) (nM l)
theorem uG {l : aJ} {n : Int} : n ∈ nM l ↔ isE l.players n = true := by
  unfold nM
  constructor
  · intro h
    obtain ⟨p, hp, rfl⟩ := List.mem_map.1 h
    exact (List.mem_filter.1 hp).2
  · intro h
    have he : (pl l n).entered = true := by
      rw [aFr] at h
      simp only [Bool.and_eq_true] at h
      exact h.1.1
    obtain ⟨p, hp, rfl⟩ := List.mem_map.1 (zJ he)
    exact List.mem_map.2 ⟨p, List.mem_filter.2 ⟨hp, h⟩, rfl⟩
theorem sD {l : aJ} {n : Int} (h : n ∈ nM l) : (pl l n).entered = true := by
  have := uG.1 h
  rw [aFr] at this
  simp only [Bool.and_eq_true] at this
  exact this.1.1
theorem aDy {l : aJ} (h : WF l) : oB (nM l) (fun a b => dB a b l) = true := by
  unfold oB
  simp only [List.all_eq_true, Bool.and_eq_true, Bool.or_eq_true, Bool.not_eq_true', decide_eq_true_eq]
  intro x hx
  have ex := sD hx
  refine ⟨by rw [ltE h ex ex]; simp, fun y hy => ?_⟩
  have ey := sD hy
  refine ⟨⟨?_, ?_⟩, fun z hz => ?_⟩
  · obtain ⟨r, h1, _⟩ := aJl h ex ey
    simp [h1]
  · rw [ltE h ex ey, ltE h ey ex]
    simp only [decide_eq_true_eq]
    rcases Int.lt_trichotomy (iM l x) (iM l y) with h1 | h1 | h1
    · exact .inl (.inr h1)
    · exact .inl (.inl (xM h ex ey h1))
    · exact .inr h1
  · have ez := sD hz
    rw [ltE h ex ey, ltE h ey ez, ltE h ex ez]
    simp only [Bool.and_eq_false_iff, decide_eq_false_iff_not, decide_eq_true_eq]
    omega
theorem rG {l : aJ} (h : WF l) : dQ l = some (fW l) := by
  have e1 : (fun p : Int × aA => (eE l.players p.1).getD false) = fun p => isE l.players p.1 := by
    funext p
    rw [rH]; rfl
  have hc := h.cnt
  have hl : (nM l).length ≤ 60 := by
    unfold nM
    rw [List.length_map]
    exact Nat.le_trans (List.length_filter_le _ _) hc
  unfold dQ
  rw [if_pos (by omega), e1]
  unfold oD
  rw [if_pos ⟨aDy h, by show (nM l).length < _; omega⟩]
  rfl
theorem xG {l : aJ} {n : Int} : n ∈ fW l ↔ isE l.players n = true := by
  unfold fW
  rw [(gK _ _).mem_iff]
  exact uG
theorem oE {l : aJ} (h : WF l) : (fW l).length ≤ 60 := by
  unfold fW
  rw [(gK _ _).length_eq]
  unfold nM
  rw [List.length_map]
  exact Nat.le_trans (List.length_filter_le _ _) h.cnt
theorem aBo {l : aJ} {n : Int} (h : n ∈ fW l) : (pl l n).entered = true := sD (uG.2 (xG.1 h))
theorem aDe {l : aJ} (h : WF l) : (fW l).Pairwise fun a b => iM l a < iM l b := by
  have hs := oC (aDy h)
  have hn : (fW l).Nodup := by
    refine (gK _ _).nodup_iff.2 ?_
    unfold nM
    refine List.Nodup.sublist ?_ h.keys
    exact (List.filter_sublist).map _
  refine List.Pairwise.imp_of_mem (fun {a b} ha hb hab => ?_) (hs.and hn)
  have ea := aBo (l := l) ha
  have eb := aBo (l := l) hb
  rw [ltE h eb ea] at hab
  have h1 := hab.1
  simp at h1
  rcases Int.lt_or_eq_of_le h1 with h2 | h2
  · exact h2
  · exact absurd (xM h ea eb h2) hab.2
/-- How many of some players are protected. -/
def gd (l : aJ) (xs : List Int) : Nat := (xs.filter fun n => (pl l n).guard).length
theorem aAh (l : aJ) (xs : List Int) (hb : xs.length ≤ 1000) : fX l xs = some ((gd l xs : Nat) : Int) := by
  have key := pS (S := Int) (fun k i s => eD l xs (xs.length : Int) k s i) xs.length (fun i s => some (s + ((gd l (xs.drop i) : Nat) : Int))) (fun i s => 0 ≤ s ∧ s ≤ i) (fun k i s hi hI ih => ?_) (fun k s hI => ?_) BIG 0 (gU (by omega)) ⟨Int.le_refl _, Int.le_refl _⟩
  · unfold fX
    rw [key]
    simp
  · have hlt : decide ((i : Int) < (xs.length : Int)) = true := decide_eq_true (by omega)
    simp only [eD, hlt, cond_true, gG hi, Option.bind_some, dZ (show i < 9223372036854775807 by omega)]
    rw [show (aE xs[i] (aA.mk false false 0 0 false false false false) l.players) = pl l xs[i] from rfl]
    have hd : gd l (xs.drop i) = (if (pl l xs[i]).guard then 1 else 0) + gd l (xs.drop (i + 1)) := by
      unfold gd
      rw [List.drop_eq_getElem_cons hi, List.filter_cons]
      split <;> simp <;> omega
    rw [hd]
    cases (pl l xs[i]).guard with
    | true =>
      simp only [cond_true, if_true]
      rw [gT (by omega) (by omega), ih _ ⟨by omega, by omega⟩]
      congr 1
      omega
    | false =>
      simp only [cond_false, Bool.false_eq_true, if_false]
      rw [ih _ ⟨by omega, by omega⟩]
      congr 1
      omega
  · simp [eD, lS, gd]

def plc (l : aJ) : Int := l.Field.Places + l.more
theorem sR {l : aJ} (h : WF l) : dJ l = some (plc l) := by
  have hf := h.fd
  unfold pU at hf
  simp only [Bool.and_eq_true, tQ] at hf
  have hm := h.mr
  unfold dJ plc
  rw [gT (by omega) (by omega)]
/-- Who gets the places, one after the other. -/
def uE (l : aJ) (acc : List Int) : List Int → List Int
  | [] => acc
  | n :: t => uE l (bif decide ((acc.length : Int) < plc l) && (!(pl l n).guard || decide (((gd l acc : Nat) : Int) < l.Field.Guards)) then acc ++ [n] else acc) t
theorem xN (l : aJ) : ∀ (t acc : List Int), (uE l acc t).length ≤ acc.length + t.length
  | [], acc => by simp [uE]
  | n :: t, acc => by
    refine Nat.le_trans (xN l t _) ?_
    cases decide ((acc.length : Int) < plc l) && (!(pl l n).guard || decide (((gd l acc : Nat) : Int) < l.Field.Guards)) <;> simp <;> omega
def kA (l : aJ) : List Int := uE l [] (fW l)
theorem aAk {l : aJ} (h : WF l) : iF l = some (kA l) := by
  have hl := oE h
  unfold iF kA
  rw [rG h]
  simp only [Option.bind_some]
  have key := pS (eF l (fW l) ((fW l).length : Int)) (fW l).length (fun i acc => some (uE l acc ((fW l).drop i))) (fun i acc => acc.length ≤ i) (fun k i acc hi hI ih => ?_) (fun k acc hI => ?_) BIG [] (gU (by omega)) (Nat.le_refl _)
  · rw [key]; simp
  · have hlt : decide ((i : Int) < ((fW l).length : Int)) = true := decide_eq_true (by omega)
    simp only [eF, hlt, cond_true, gG hi, Option.bind_some, sR h, dZ (show i < 9223372036854775807 by omega)]
    rw [show (aE (fW l)[i] (aA.mk false false 0 0 false false false false) l.players) = pl l (fW l)[i] from rfl, aAh l acc (by omega)]
    simp only [Option.bind_some, oK, rQ]
    rw [List.drop_eq_getElem_cons hi, uE]
    cases hc : decide ((acc.length : Int) < plc l) && (!(pl l (fW l)[i]).guard || decide (((gd l acc : Nat) : Int) < l.Field.Guards)) with
    | true =>
      simp only [cond_true]
      rw [qI (by simp; omega), Option.bind_some, ih _ (by simp; omega)]
    | false =>
      simp only [cond_false]
      rw [ih _ (by omega)]
  · simp [eF, lT, uE]
def jG (l : aJ) : List Int := bif l.frozen then l.first ++ l.late else kA l
theorem zK {l : aJ} (h : WF l) (hf : l.first.length ≤ 1000) (hl : l.late.length ≤ 1000) : cX l = some (jG l) := by
  unfold cX jG
  cases l.frozen with
  | true =>
    simp only [Bool.not_true, cond_false, cond_true]
    rw [aFi _ _ (by omega) (by omega)]; rfl
  | false =>
    simp only [Bool.not_false, cond_true, cond_false]
    rw [aAk h]; rfl
def jF (l : aJ) : aJ := bif l.frozen then l else { l with frozen := true, first := kA l }
theorem aAg {l : aJ} (h : WF l) : iE l = some (jF l) := by
  unfold iE jF
  cases hz : l.frozen with
  | true => simp
  | false =>
    simp only [Bool.not_false, cond_true, cond_false]
    rw [aAk h]; rfl
end Go.Am

end
section
namespace Go.Am

theorem aGd (l : aJ) (n : Int) : aE n (aA.mk false false 0 0 false false false false) l.players = pl l n := rfl
def fD (l : aJ) (x : aK) : aJ :=
  let p := pl l x.Player
  bif decide (x.Kind = 1) || decide (x.Kind = 2) then
    bif decide (x.Hour ≤ l.Field.Close) && !p.entered then
      aJ.mk l.Field (bU x.Player (aA.mk true (decide (x.Kind = 2)) x.Rank (l.entered + 1) p.quit p.signed p.wild p.had) l.players) l.wilds l.frozen l.first l.late l.more (l.entered + 1)
    else aJ.mk l.Field (bU x.Player p l.players) l.wilds l.frozen l.first l.late l.more l.entered
  else bif decide (x.Kind = 3) then
    bif ((decide (x.Hour ≤ l.Field.Freeze) && !p.wild) && !p.quit) && decide ((l.wilds.length : Int) < l.Field.Wilds) then
      aJ.mk l.Field (bU x.Player (aA.mk p.entered p.guard p.rank p.turn p.quit p.signed true true) l.players) (l.wilds ++ [x.Player]) l.frozen l.first l.late l.more l.entered
    else aJ.mk l.Field (bU x.Player p l.players) l.wilds l.frozen l.first l.late l.more l.entered
  else bif decide (x.Kind = 4) then
    aJ.mk l.Field (bU x.Player (aA.mk p.entered p.guard p.rank p.turn true p.signed false p.had) l.players) (l.wilds.filter fun m => !decide (m = x.Player)) l.frozen l.first l.late
      (bif p.wild && decide (l.Field.Freeze < x.Hour) then l.more + 1 else l.more) l.entered
  else bif decide (x.Kind = 5) then
    aJ.mk l.Field (bU x.Player (aA.mk p.entered p.guard p.rank p.turn p.quit true p.wild p.had) l.players) l.wilds l.frozen l.first l.late l.more l.entered
  else aJ.mk l.Field (bU x.Player p l.players) l.wilds l.frozen l.first l.late l.more l.entered
theorem aJd (l : aJ) (x : aK) (he : 0 ≤ l.entered ∧ l.entered ≤ 60) (hm : 0 ≤ l.more ∧ l.more ≤ 60) (hw : l.wilds.length ≤ 1000) : hM l x = some (fD l x) := by
  have hd : bV l.wilds (fun y => dK y x) = some (l.wilds.filter fun m => !decide (m = x.Player)) := xV l.wilds _ (fun m => decide (m = x.Player)) (fun m _ => rfl) (by omega)
  have ha : app 8 l.wilds [x.Player] = some (l.wilds ++ [x.Player]) := qI (by simp; omega)
  have w1 : w64 (l.entered + 1) = l.entered + 1 := gT (by omega) (by omega)
  have w2 : w64 (l.more + 1) = l.more + 1 := gT (by omega) (by omega)
  unfold hM fD
  simp only [aGd, rQ, Option.bind_some, hd, ha, w1, w2]
  by_cases h1 : x.Kind = 1
  · simp only [h1, decide_true, cond_true, Bool.true_or]
    cases decide (x.Hour ≤ l.Field.Close) && !(pl l x.Player).entered <;> rfl
  · by_cases h2 : x.Kind = 2
    · simp only [h2, decide_true, cond_true, Bool.or_true, show decide ((2 : Int) = 1) = false from rfl, cond_false]
      cases decide (x.Hour ≤ l.Field.Close) && !(pl l x.Player).entered <;> rfl
    · have e1 : decide (x.Kind = 1) = false := decide_eq_false h1
      have e2 : decide (x.Kind = 2) = false := decide_eq_false h2
      simp only [e1, e2, cond_false, Bool.or_self]
      cases decide (x.Kind = 3) with
      | true =>
        simp only [cond_true]
        cases ((decide (x.Hour ≤ l.Field.Freeze) && !(pl l x.Player).wild) && !(pl l x.Player).quit) && decide ((l.wilds.length : Int) < l.Field.Wilds) <;> rfl
      | false =>
        simp only [cond_false]
        cases decide (x.Kind = 4) with
        | true =>
          simp only [cond_true]
          cases (pl l x.Player).wild && decide (l.Field.Freeze < x.Hour) <;> rfl
        | false =>
          simp only [cond_false]
          cases decide (x.Kind = 5) <;> rfl

theorem vR {α β : Type} [DecidableEq α] (a : α) (v : β) : ∀ m : List (α × β), (bU a v m).map Prod.fst = if a ∈ m.map Prod.fst then m.map Prod.fst else m.map Prod.fst ++ [a]
  | [] => rfl
  | (b, u) :: m => by
    simp only [bU]
    by_cases h : a = b
    · subst h; simp
    · simp only [h, decide_false, cond_false, List.map_cons, vR a v m, List.mem_cons, false_or]
      split <;> simp
theorem aEr {α β : Type} [DecidableEq α] {a : α} {v : β} {m : List (α × β)} (h : (m.map Prod.fst).Nodup) : ((bU a v m).map Prod.fst).Nodup := by
  rw [vR]
  split
  · exact h
  · rename_i hn
    rw [List.nodup_append]
    exact ⟨h, by simp, fun x hx y hy => by simp at hy; subst hy; exact fun e => hn (e ▸ hx)⟩
theorem aHm {α β : Type} [DecidableEq α] (a : α) (v : β) (m : List (α × β)) : (bU a v m).length ≤ m.length + 1 := by
  have := congrArg List.length (vR a v m)
  rw [List.length_map] at this
  rw [this]
  split <;> simp
/-- The counts, after so many notices. -/
structure Cn (l : aJ) (i : Nat) : Prop where
  pls : l.players.length ≤ i
  ent : l.entered ≤ i
  mr : l.more ≤ i
  wl : l.wilds.length ≤ i
/-- What a notice does to what is known of players. -/
def upP (l : aJ) (x : aK) : aA :=
  let p := pl l x.Player
  bif decide (x.Kind = 1) || decide (x.Kind = 2) then
    bif decide (x.Hour ≤ l.Field.Close) && !p.entered then aA.mk true (decide (x.Kind = 2)) x.Rank (l.entered + 1) p.quit p.signed p.wild p.had else p
  else bif decide (x.Kind = 3) then
    bif ((decide (x.Hour ≤ l.Field.Freeze) && !p.wild) && !p.quit) && decide ((l.wilds.length : Int) < l.Field.Wilds) then aA.mk p.entered p.guard p.rank p.turn p.quit p.signed true true else p
  else bif decide (x.Kind = 4) then aA.mk p.entered p.guard p.rank p.turn true p.signed false p.had
  else bif decide (x.Kind = 5) then aA.mk p.entered p.guard p.rank p.turn p.quit true p.wild p.had
  else p
theorem sI (l : aJ) (x : aK) : (fD l x).players = bU x.Player (upP l x) l.players := by
  unfold fD upP
  cases decide (x.Kind = 1) || decide (x.Kind = 2) with
  | true => simp only [cond_true]; cases decide (x.Hour ≤ l.Field.Close) && !(pl l x.Player).entered <;> rfl
  | false =>
    simp only [cond_false]
    cases decide (x.Kind = 3) with
    | true => simp only [cond_true]; cases ((decide (x.Hour ≤ l.Field.Freeze) && !(pl l x.Player).wild) && !(pl l x.Player).quit) && decide ((l.wilds.length : Int) < l.Field.Wilds) <;> rfl
    | false =>
      simp only [cond_false]
      cases decide (x.Kind = 4) with
      | true => rfl
      | false => simp only [cond_false]; cases decide (x.Kind = 5) <;> rfl
theorem wM (l : aJ) (x : aK) (n : Int) : pl (fD l x) n = bif decide (n = x.Player) then upP l x else pl l n := by
  unfold pl
  rw [sI, vQ]
theorem zA (l : aJ) (x : aK) : (fD l x).Field = l.Field ∧ (fD l x).frozen = l.frozen ∧ (fD l x).first = l.first ∧ (fD l x).late = l.late := by
  unfold fD
  cases decide (x.Kind = 1) || decide (x.Kind = 2) with
  | true => simp only [cond_true]; cases decide (x.Hour ≤ l.Field.Close) && !(pl l x.Player).entered <;> exact ⟨rfl, rfl, rfl, rfl⟩
  | false =>
    simp only [cond_false]
    cases decide (x.Kind = 3) with
    | true => simp only [cond_true]; cases ((decide (x.Hour ≤ l.Field.Freeze) && !(pl l x.Player).wild) && !(pl l x.Player).quit) && decide ((l.wilds.length : Int) < l.Field.Wilds) <;> exact ⟨rfl, rfl, rfl, rfl⟩
    | false =>
      simp only [cond_false]
      cases decide (x.Kind = 4) with
      | true => exact ⟨rfl, rfl, rfl, rfl⟩
      | false => simp only [cond_false]; cases decide (x.Kind = 5) <;> exact ⟨rfl, rfl, rfl, rfl⟩
/-- Whether a notice enters its player. -/
def nP (l : aJ) (x : aK) : Bool := (decide (x.Kind = 1) || decide (x.Kind = 2)) && (decide (x.Hour ≤ l.Field.Close) && !(pl l x.Player).entered)
theorem aCv (l : aJ) (x : aK) : (fD l x).entered = (bif nP l x then l.entered + 1 else l.entered) ∧
    (nP l x = true → (upP l x).entered = true ∧ (upP l x).turn = l.entered + 1 ∧ (upP l x).rank = x.Rank ∧ (pl l x.Player).entered = false) ∧
    (nP l x = false → (upP l x).entered = (pl l x.Player).entered ∧ (upP l x).turn = (pl l x.Player).turn ∧ (upP l x).rank = (pl l x.Player).rank) := by
  unfold fD upP nP
  cases decide (x.Kind = 1) || decide (x.Kind = 2) with
  | true =>
    simp only [cond_true, Bool.true_and]
    cases h : decide (x.Hour ≤ l.Field.Close) && !(pl l x.Player).entered with
    | true =>
      simp only [Bool.and_eq_true, Bool.not_eq_true'] at h
      exact ⟨rfl, fun _ => ⟨rfl, rfl, rfl, h.2⟩, fun h => by cases h⟩
    | false => exact ⟨rfl, (fun h => by cases h), fun _ => ⟨rfl, rfl, rfl⟩⟩
  | false =>
    simp only [cond_false, Bool.false_and]
    cases decide (x.Kind = 3) with
    | true => simp only [cond_true]; cases ((decide (x.Hour ≤ l.Field.Freeze) && !(pl l x.Player).wild) && !(pl l x.Player).quit) && decide ((l.wilds.length : Int) < l.Field.Wilds) <;> exact ⟨rfl, (fun h => by cases h), fun _ => ⟨rfl, rfl, rfl⟩⟩
    | false =>
      simp only [cond_false]
      cases decide (x.Kind = 4) with
      | true => exact ⟨rfl, (fun h => by cases h), fun _ => ⟨rfl, rfl, rfl⟩⟩
      | false => simp only [cond_false]; cases decide (x.Kind = 5) <;> exact ⟨rfl, (fun h => by cases h), fun _ => ⟨rfl, rfl, rfl⟩⟩
theorem aGm (l : aJ) (x : aK) : (l.more ≤ (fD l x).more ∧ (fD l x).more ≤ l.more + 1) ∧ (fD l x).wilds.length ≤ l.wilds.length + 1 := by
  have hf : (l.wilds.filter fun m => !decide (m = x.Player)).length ≤ l.wilds.length := List.length_filter_le _ _
  unfold fD
  cases decide (x.Kind = 1) || decide (x.Kind = 2) with
  | true => simp only [cond_true]; cases decide (x.Hour ≤ l.Field.Close) && !(pl l x.Player).entered <;> simp <;> omega
  | false =>
    simp only [cond_false]
    cases decide (x.Kind = 3) with
    | true => simp only [cond_true]; cases ((decide (x.Hour ≤ l.Field.Freeze) && !(pl l x.Player).wild) && !(pl l x.Player).quit) && decide ((l.wilds.length : Int) < l.Field.Wilds) <;> simp <;> omega
    | false =>
      simp only [cond_false]
      cases decide (x.Kind = 4) with
      | true => simp only [cond_true]; cases (pl l x.Player).wild && decide (l.Field.Freeze < x.Hour) <;> simp only [cond_true, cond_false] <;> omega
      | false => simp only [cond_false]; cases decide (x.Kind = 5) <;> simp <;> omega
theorem aJe {l : aJ} {x : aK} {i : Nat} (h : WF l) (hc : Cn l i) (hi : i < 60) (hx : kN x = true) : WF (fD l x) ∧ Cn (fD l x) (i + 1) := by
  obtain ⟨hF, _, _, _⟩ := zA l x
  obtain ⟨t1, t2, t3⟩ := aCv l x
  obtain ⟨m1, m2⟩ := aGm l x
  have hent := h.ent
  have hmr := h.mr
  obtain ⟨c1, c2, c3, c4⟩ := hc
  have hpl : (fD l x).players.length ≤ i + 1 := by rw [sI]; have := aHm x.Player (upP l x) l.players; omega
  have hE : 0 ≤ (fD l x).entered ∧ (fD l x).entered ≤ (i : Int) + 1 ∧ l.entered ≤ (fD l x).entered := by rw [t1]; cases nP l x <;> simp only [cond_true, cond_false] <;> omega
  have hrank : nP l x = true → 0 ≤ x.Rank ∧ x.Rank ≤ 9999 := fun he => by
    unfold nP at he
    simp only [Bool.and_eq_true, Bool.or_eq_true, decide_eq_true_eq] at he
    unfold kN at hx
    simp only [Bool.and_eq_true] at hx
    rcases he.1 with h1 | h1
    · have := hx.2
      rw [h1] at this
      simpa [wi] using this
    · have := hx.2
      rw [h1] at this
      simp only [show decide ((2 : Int) = 1) = false from rfl, cond_false, decide_true, cond_true, tQ] at this
      omega
  refine ⟨⟨by rw [hF]; exact h.fd, by rw [sI]; exact aEr h.keys, by omega, ⟨hE.1, by omega⟩, ⟨by omega, by omega⟩, fun n hn => ?_, fun n m hn hm he => ?_⟩, ⟨hpl, by omega, by omega, by omega⟩⟩
  · rw [wM] at hn ⊢
    by_cases hnx : n = x.Player
    · subst hnx
      simp only [decide_true, cond_true] at hn ⊢
      cases he : nP l x with
      | true =>
        obtain ⟨_, e2, e3, _⟩ := t2 he
        have := hrank he
        rw [t1, he, e2, e3]
        simp only [cond_true]
        omega
      | false =>
        obtain ⟨e1, e2, e3⟩ := t3 he
        rw [e1] at hn
        have := h.turn _ hn
        rw [e2, e3]
        omega
    · simp only [hnx, decide_false, cond_false] at hn ⊢
      have := h.turn _ hn
      omega
  · rw [wM] at hn hm
    rw [wM, wM] at he
    by_cases hnx : n = x.Player <;> by_cases hmx : m = x.Player
    · rw [hnx, hmx]
    · subst hnx
      simp only [decide_true, cond_true, hmx, decide_false, cond_false] at hn hm he
      cases hen : nP l x with
      | true =>
        have := h.turn _ hm
        have := (t2 hen).2.1
        omega
      | false =>
        obtain ⟨e1, e2, _⟩ := t3 hen
        rw [e1] at hn
        rw [e2] at he
        exact h.inj _ _ hn hm he
    · subst hmx
      simp only [decide_true, cond_true, hnx, decide_false, cond_false] at hn hm he
      cases hen : nP l x with
      | true =>
        have := h.turn _ hn
        have := (t2 hen).2.1
        omega
      | false =>
        obtain ⟨e1, e2, _⟩ := t3 hen
        rw [e1] at hm
        rw [e2] at he
        exact h.inj _ _ hn hm he
    · simp only [hnx, hmx, decide_false, cond_false] at hn hm he
      exact h.inj _ _ hn hm he
end Go.Am

end
section
namespace Go.Am

def wl (l : aJ) (a b : List Int) : aJ := aJ.mk l.Field l.players l.wilds l.frozen a b l.more l.entered
theorem wR {l : aJ} (h : WF l) (a b : List Int) : WF (wl l a b) := ⟨h.fd, h.keys, h.cnt, h.ent, h.mr, h.turn, h.inj⟩
/-- Who may get an open place. -/
def nT (l : aJ) (inn : List Int) (n : Int) : Bool := ((pl l n).signed && !decide (n ∈ inn)) && (!(pl l n).guard || decide (((gd l inn : Nat) : Int) < l.Field.Guards))
theorem aGy (l : aJ) (inn : List Int) (n : Int) (hb : inn.length ≤ 1000) : iD n l inn = some (nT l inn n) := by
  unfold iD nT
  rw [aGd, aAh l inn hb, sL inn (by omega) n]
  simp only [Option.bind_some, rQ, oK]
theorem aBs (l : aJ) (n : Int) : dU n l.players = some (!isE l.players n) := by
  unfold dU
  rw [rH]; rfl
def nY (l : aJ) (first : List Int) : Nat → List Int → List Int
  | 0, late => late
  | k + 1, late => bif decide (((first ++ late).length : Int) < plc l) then (match (fW l).find? (nT l (first ++ late)) with
    | none => late
    | some n => nY l first k (late ++ [n])) else late
theorem yU {l : aJ} (h : WF l) : 1 ≤ plc l ∧ plc l ≤ 92 := by
  have hf := h.fd
  unfold pU at hf
  simp only [Bool.and_eq_true, tQ] at hf
  have hm := h.mr
  unfold plc
  omega
theorem aEl {α : Type} (p : α → Bool) (xs : List α) (hb : xs.length ≤ 1000) : (match xs.find? p with
    | none => fL p xs = -1
    | some n => 0 ≤ fL p xs ∧ idx xs (fL p xs) = some n) := by
  cases hf : xs.find? p with
  | none =>
    simp only
    unfold fL
    rw [if_neg]
    intro hl
    have h1 := List.findIdx_getElem (p := p) (w := hl)
    exact (List.find?_eq_none.1 hf) _ (List.getElem_mem hl) h1
  | some n =>
    simp only
    have hl : xs.findIdx p < xs.length := List.findIdx_lt_length_of_exists ⟨n, List.mem_of_find?_eq_some hf, List.find?_some hf⟩
    unfold fL
    rw [if_pos hl]
    refine ⟨by omega, ?_⟩
    rw [gG hl]
    rw [List.find?_eq_getElem?_findIdx, List.getElem?_eq_getElem hl] at hf
    exact hf
theorem aIs {l : aJ} (h : WF l) (hfz : l.frozen = true) (first : List Int) : ∀ (d : Nat) (late : List Int) (k K : Nat), (plc l - ((first ++ late).length : Int)).toNat ≤ d → d < K → d ≤ k → (first ++ late).length ≤ 500 →
    fM l.players l.wilds first K late l.Field l.frozen l.more l.entered (first ++ late) = some (wl l first (nY l first k late)) := by
  intro d
  induction d with
  | zero =>
    intro late k K hd hK hk hb
    obtain ⟨K, rfl⟩ : ∃ q, K = q + 1 := ⟨K - 1, by omega⟩
    have hlt : decide (((first ++ late).length : Int) < plc l) = false := decide_eq_false (by omega)
    have hp : dJ (aJ.mk l.Field l.players l.wilds l.frozen first late l.more l.entered) = some (plc l) := sR (wR h first late)
    have hg : nY l first k late = late := by
      cases k with
      | zero => rfl
      | succ k => simp only [nY, hlt, cond_false]
    simp only [fM, hp, Option.bind_some, hlt, cond_false, kW, hg]
    rfl
  | succ d ih =>
    intro late k K hd hK hk hb
    obtain ⟨K, rfl⟩ : ∃ q, K = q + 1 := ⟨K - 1, by omega⟩
    obtain ⟨k, rfl⟩ : ∃ q, k = q + 1 := ⟨k - 1, by omega⟩
    have hp : dJ (aJ.mk l.Field l.players l.wilds l.frozen first late l.more l.entered) = some (plc l) := sR (wR h first late)
    have hen : dQ (aJ.mk l.Field l.players l.wilds l.frozen first late l.more l.entered) = some (fW l) := rG (wR h first late)
    have hix : eZ (fW l) (fun y => iD y (aJ.mk l.Field l.players l.wilds l.frozen first late l.more l.entered) (first ++ late)) = some (fL (nT l (first ++ late)) (fW l)) :=
      aBx (fW l) _ (nT l (first ++ late)) (fun n _ => aGy (wl l first late) (first ++ late) n (by omega)) (by have := oE h; omega)
    have hfi := aEl (nT l (first ++ late)) (fW l) (by have := oE h; omega)
    simp only [fM, hp, Option.bind_some, nY]
    cases hlt : decide (((first ++ late).length : Int) < plc l) with
    | false =>
      simp only [cond_false, kW]
      rfl
    | true =>
      simp only [cond_true, hen, Option.bind_some, hix]
      have hlt' : ((first ++ late).length : Int) < plc l := by simpa using hlt
      have hp92 := yU h
      cases hf : (fW l).find? (nT l (first ++ late)) with
      | none =>
        rw [hf] at hfi
        simp only at hfi
        rw [hfi]
        rfl
      | some n =>
        rw [hf] at hfi
        simp only at hfi
        rw [decide_eq_false (by omega), cond_false, hfi.2]
        simp only [Option.bind_some]
        have hbl : late.length ≤ 500 := by simp at hb; omega
        rw [qI (by simp; omega)]
        simp only [Option.bind_some]
        have hm : cX (aJ.mk l.Field l.players l.wilds l.frozen first (late ++ [n]) l.more l.entered) = some (first ++ (late ++ [n])) := by
          have := zK (wR h first (late ++ [n])) (show first.length ≤ 1000 by simp at hb; omega) (show (late ++ [n]).length ≤ 1000 by simp; omega)
          rw [show (aJ.mk l.Field l.players l.wilds l.frozen first (late ++ [n]) l.more l.entered) = wl l first (late ++ [n]) from rfl, this]
          unfold jG
          rw [show (wl l first (late ++ [n])).frozen = l.frozen from rfl, hfz]
          rfl
        rw [hm]
        simp only [Option.bind_some]
        refine ih (late ++ [n]) k K ?_ (by omega) (by omega) ?_
        · simp only [List.length_append, List.length_cons, List.length_nil] at hd hlt' ⊢
          omega
        · simp only [List.length_append, List.length_cons, List.length_nil] at hb hlt' ⊢
          omega
def tY (l : aJ) : aJ := wl l (l.first.filter fun n => isE l.players n) (nY l (l.first.filter fun n => isE l.players n) 100 (l.late.filter fun n => isE l.players n))
theorem aIt {l : aJ} (h : WF l) (hfz : l.frozen = true) (hb : (l.first ++ l.late).length ≤ 200) : hG l = some (tY l) := by
  have hb' : l.first.length + l.late.length ≤ 200 := by simpa using hb
  have d1 : bV l.first (fun y => dU y l.players) = some (l.first.filter fun n => isE l.players n) := by
    rw [xV l.first _ (fun n => !isE l.players n) (fun n _ => aBs l n) (by omega)]
    simp
  have d2 : bV l.late (fun y => dU y l.players) = some (l.late.filter fun n => isE l.players n) := by
    rw [xV l.late _ (fun n => !isE l.players n) (fun n _ => aBs l n) (by omega)]
    simp
  have f1 : (l.first.filter fun n => isE l.players n).length ≤ l.first.length := List.length_filter_le _ _
  have f2 : (l.late.filter fun n => isE l.players n).length ≤ l.late.length := List.length_filter_le _ _
  have hm := zK (wR h (l.first.filter fun n => isE l.players n) (l.late.filter fun n => isE l.players n)) (show (l.first.filter fun n => isE l.players n).length ≤ 1000 by omega) (show (l.late.filter fun n => isE l.players n).length ≤ 1000 by omega)
  unfold hG tY
  rw [d1, Option.bind_some, d2, Option.bind_some]
  rw [show (aJ.mk l.Field l.players l.wilds l.frozen (l.first.filter fun n => isE l.players n) (l.late.filter fun n => isE l.players n) l.more l.entered) = wl l (l.first.filter fun n => isE l.players n) (l.late.filter fun n => isE l.players n) from rfl, hm, Option.bind_some]
  unfold jG
  rw [show (wl l (l.first.filter fun n => isE l.players n) (l.late.filter fun n => isE l.players n)).frozen = l.frozen from rfl]
  rw [show (bif l.frozen then (wl l (l.first.filter fun n => isE l.players n) (l.late.filter fun n => isE l.players n)).first ++ (wl l (l.first.filter fun n => isE l.players n) (l.late.filter fun n => isE l.players n)).late else kA (wl l (l.first.filter fun n => isE l.players n) (l.late.filter fun n => isE l.players n))) = (l.first.filter fun n => isE l.players n) ++ (l.late.filter fun n => isE l.players n) by rw [hfz]; rfl]
  have hp := yU h
  exact aIs h hfz _ 100 _ 100 BIG (by omega) (gU (by omega)) (Nat.le_refl _) (by simp only [List.length_append]; omega)
theorem zZ {l : aJ} (h : WF l) (first : List Int) : ∀ (k : Nat) (late : List Int), (first ++ nY l first k late).length ≤ max (first ++ late).length 92
  | 0, late => by simp only [nY]; omega
  | k + 1, late => by
    have hp := yU h
    simp only [nY]
    cases hlt : decide (((first ++ late).length : Int) < plc l) with
    | false => simp only [cond_false]; omega
    | true =>
      simp only [cond_true]
      have hlt' : ((first ++ late).length : Int) < plc l := by simpa using hlt
      cases (fW l).find? (nT l (first ++ late)) with
      | none => simp only; omega
      | some n =>
        simp only
        have := zZ h first k (late ++ [n])
        simp only [List.length_append, List.length_cons, List.length_nil] at this hlt' ⊢
        omega

/-! ### After the notices of an hour -/
/-- One more notice. -/
def uK (l : aJ) (x : aK) : aJ :=
  let l2 := fD (bif decide (l.Field.Freeze < x.Hour) then jF l else l) x
  bif l2.frozen then tY l2 else l2
structure iT (f : aT) (l : aJ) (i : Nat) : Prop where
  wf : WF l
  cn : Cn l i
  fd : l.Field = f
  len : (l.first ++ l.late).length ≤ 92
  fz : l.frozen = false → l.first = [] ∧ l.late = []
theorem qE {f : aT} {l : aJ} {i : Nat} (h : iT f l i) : iT f (jF l) i := by
  unfold jF
  cases hz : l.frozen with
  | true => exact h
  | false =>
    obtain ⟨_, hlate⟩ := h.fz hz
    simp only [cond_false]
    refine ⟨⟨h.wf.fd, h.wf.keys, h.wf.cnt, h.wf.ent, h.wf.mr, h.wf.turn, h.wf.inj⟩, ⟨h.cn.pls, h.cn.ent, h.cn.mr, h.cn.wl⟩, h.fd, ?_, fun h => by cases h⟩
    show (kA l ++ l.late).length ≤ 92
    have h1 := xN l (fW l) []
    have h2 := oE h.wf
    rw [hlate]
    simp only [List.append_nil]
    unfold kA
    simp only [List.length_nil] at h1
    omega
theorem wC {f : aT} {l : aJ} {x : aK} {i : Nat} (h : iT f l i) (hi : i < 60) (hx : kN x = true) : iT f (fD l x) (i + 1) := by
  obtain ⟨h1, h2⟩ := aJe h.wf h.cn hi hx
  obtain ⟨g1, g2, g3, g4⟩ := zA l x
  exact ⟨h1, h2, by rw [g1]; exact h.fd, by rw [g3, g4]; exact h.len, fun hz => by rw [g2] at hz; rw [g3, g4]; exact h.fz hz⟩
theorem aAa {f : aT} {l : aJ} {i : Nat} (h : iT f l i) (hz : l.frozen = true) : iT f (tY l) i := by
  have hl : l.first.length + l.late.length ≤ 92 := by have := h.len; simpa using this
  have f1 : (l.first.filter fun n => isE l.players n).length ≤ l.first.length := List.length_filter_le _ _
  have f2 : (l.late.filter fun n => isE l.players n).length ≤ l.late.length := List.length_filter_le _ _
  refine ⟨wR h.wf _ _, ⟨h.cn.pls, h.cn.ent, h.cn.mr, h.cn.wl⟩, h.fd, ?_, fun hf => ?_⟩
  · have := zZ h.wf (l.first.filter fun n => isE l.players n) 100 (l.late.filter fun n => isE l.players n)
    simp only [List.length_append] at this
    show ((l.first.filter fun n => isE l.players n) ++ nY l (l.first.filter fun n => isE l.players n) 100 (l.late.filter fun n => isE l.players n)).length ≤ 92
    simp only [List.length_append]
    omega
  · have : l.frozen = false := hf
    rw [hz] at this; cases this
theorem aAq {f : aT} {l : aJ} {x : aK} {i : Nat} (h : iT f l i) (hi : i < 60) (hx : kN x = true) : iT f (uK l x) (i + 1) := by
  unfold uK
  have h1 : iT f (bif decide (l.Field.Freeze < x.Hour) then jF l else l) i := by
    cases decide (l.Field.Freeze < x.Hour) with
    | true => exact qE h
    | false => exact h
  have h2 := wC h1 hi hx
  simp only
  cases hz : (fD (bif decide (l.Field.Freeze < x.Hour) then jF l else l) x).frozen with
  | true => exact aAa h2 hz
  | false => exact h2
def fI (f : aT) : aJ := aJ.mk f [] [] false [] [] 0 0
theorem qO {f : aT} (hf : pU f = true) : iT f (fI f) 0 :=
  ⟨⟨hf, .nil, by simp [fI], ⟨Int.le_refl _, by simp [fI]⟩, ⟨Int.le_refl _, by simp [fI]⟩, fun n h => by simp [pl, fI, aE] at h, fun n m h => by simp [pl, fI, aE] at h⟩, ⟨by simp [fI], by simp [fI], by simp [fI], by simp [fI]⟩, rfl, by simp [fI], fun _ => ⟨rfl, rfl⟩⟩
/-- The notices of an hour and before. -/
def lX (hour : Int) (l : aJ) : List aK → aJ
  | [] => l
  | x :: t => bif decide (hour < x.Hour) then l else lX hour (uK l x) t
def tV (hour : Int) (l : aJ) : aJ := bif decide (l.Field.Freeze < hour) then jF l else l
theorem uH {f : aT} (hour : Int) : ∀ (t : List aK) (l : aJ) (i : Nat), iT f l i → i + t.length ≤ 60 → (∀ x ∈ t, kN x = true) → ∃ j, j ≤ 60 ∧ iT f (lX hour l t) j
  | [], l, i, h, hi, _ => ⟨i, by simpa using hi, h⟩
  | x :: t, l, i, h, hi, hx => by
    simp only [lX]
    cases decide (hour < x.Hour) with
    | true => exact ⟨i, by simp at hi; omega, h⟩
    | false =>
      simp only [List.length_cons] at hi
      exact uH hour t _ (i + 1) (aAq h (by omega) (hx x (by simp))) (by omega) fun y hy => hx y (by simp [hy])
def dI (f : aT) (l : List aK) (hour : Int) : aJ := tV hour (lX hour (fI f) (jQ l))
theorem aGr {f : aT} (T : List aK) (hT : ∀ x ∈ T, kN x = true) (hl : T.length ≤ 60) (hour : Int) : ∀ (d i k : Nat) (l : aJ), T.length - i = d → d < k → i ≤ T.length → iT f l i →
    eA hour (T.length : Int) f T k (i : Int) l.players l.wilds l.first l.late l.Field l.frozen l.more l.entered = some (some (tV hour (lX hour l (T.drop i)))) := by
  have hend : ∀ {l : aJ} {i : Nat}, iT f l i → jZ hour f l.players l.wilds l.first l.late l.Field l.frozen l.more l.entered = some (some (tV hour l)) := by
    intro l i h
    unfold jZ tV
    rw [h.fd]
    cases decide (f.Freeze < hour) with
    | true =>
      simp only [cond_true]
      have := aAg h.wf
      rw [show (aJ.mk f l.players l.wilds l.frozen l.first l.late l.more l.entered) = l by rw [← h.fd], this]
      rfl
    | false =>
      simp only [cond_false]
      rw [show (aJ.mk f l.players l.wilds l.frozen l.first l.late l.more l.entered) = l by rw [← h.fd]]
  intro d
  induction d with
  | zero =>
    intro i k l hd hk hi h
    obtain ⟨k, rfl⟩ : ∃ q, k = q + 1 := ⟨k - 1, by omega⟩
    have : i = T.length := by omega
    subst this
    simp only [eA, Int.lt_irrefl, decide_false, cond_false, List.drop_length, lX]
    exact hend h
  | succ d ih =>
    intro i k l hd hk hi h
    obtain ⟨k, rfl⟩ : ∃ q, k = q + 1 := ⟨k - 1, by omega⟩
    have hil : i < T.length := by omega
    have hlt : decide ((i : Int) < (T.length : Int)) = true := decide_eq_true (by omega)
    have hw : w64 ((i : Int) + 1) = ((i + 1 : Nat) : Int) := dZ (by omega)
    have hx : kN T[i] = true := hT _ (List.getElem_mem hil)
    rw [List.drop_eq_getElem_cons hil, lX]
    simp only [eA, hlt, cond_true, gG hil, Option.bind_some, hw]
    cases decide (hour < T[i].Hour) with
    | true => simp only [cond_true]; exact hend h
    | false =>
      simp only [cond_false]
      have hmk : (aJ.mk l.Field l.players l.wilds l.frozen l.first l.late l.more l.entered) = l := rfl
      have goon : ∀ (l1 : aJ), iT f l1 i → ((hM l1 T[i]).bind fun r25 =>
          bif r25.frozen then ((hG r25).bind fun r31 =>
          (eA hour (T.length : Int) f T k) ((i + 1 : Nat) : Int) r31.players r31.wilds r31.first r31.late r31.Field r31.frozen r31.more r31.entered)
          else ((eA hour (T.length : Int) f T k) ((i + 1 : Nat) : Int) r25.players r25.wilds r25.first r25.late r25.Field r25.frozen r25.more r25.entered)) =
          some (some (tV hour (lX hour (bif (fD l1 T[i]).frozen then tY (fD l1 T[i]) else fD l1 T[i]) (T.drop (i + 1))))) := by
        intro l1 h1
        have hwl := h1.cn.wl
        rw [aJd l1 T[i] h1.wf.ent h1.wf.mr (by omega)]
        simp only [Option.bind_some]
        have h2 := wC h1 (by omega) hx
        cases hz : (fD l1 T[i]).frozen with
        | true =>
          simp only [cond_true]
          rw [aIt h2.wf hz (by have := h2.len; omega)]
          simp only [Option.bind_some]
          exact ih (i + 1) k _ (by omega) (by omega) (by omega) (aAa h2 hz)
        | false =>
          simp only [cond_false]
          have := ih (i + 1) k _ (by omega) (by omega) (by omega) h2
          rw [hz] at this
          exact this
      unfold uK
      rw [h.fd]
      cases decide (f.Freeze < T[i].Hour) with
      | true =>
        simp only [cond_true]
        have hfz := aAg h.wf
        rw [show (aJ.mk f l.players l.wilds l.frozen l.first l.late l.more l.entered) = l by rw [← h.fd], hfz]
        simp only [Option.bind_some]
        exact goon (jF l) (qE h)
      | false =>
        simp only [cond_false]
        rw [show (aJ.mk f l.players l.wilds l.frozen l.first l.late l.more l.entered) = l by rw [← h.fd]]
        exact goon l h
theorem uL (l : List aK) : (jQ l).length ≤ l.length := by
  unfold jQ
  have h1 := (gK (fun a b => dA a b) l).length_eq
  rw [← h1]
  cases cT (fun a b => dA a b) l with
  | nil => simp [mW]
  | cons p t => simp only [mW, List.length_cons]; have := (aHk p t).length_le; omega
theorem aBh {f : aT} {l : List aK} (h : VL f l) (hour : Int) : mJ f l hour = some (some (dI f l hour)) := by
  have hb : ∀ x ∈ l, bN x := fun x hx => aAy (h.nt x hx)
  obtain ⟨e1, e2⟩ := aJn h.len hb h.id
  have hT := uL l
  have hlen := h.len
  unfold mJ iB
  rw [Option.bind_some, e1, Option.bind_some, e2, Option.bind_some]
  exact aGr (jQ l) (fun x hx => h.nt x ((nJ x).1 hx)) (by omega) hour _ 0 BIG (fI f) rfl (gU (by omega)) (Nat.zero_le _) (qO h.fd)
theorem rC {f : aT} {l : List aK} (h : VL f l) (hour : Int) : ∃ j, j ≤ 60 ∧ iT f (dI f l hour) j := by
  have hT := uL l
  have hlen := h.len
  obtain ⟨j, hj, hg⟩ := uH hour (jQ l) (fI f) 0 (qO h.fd) (by omega) fun x hx => h.nt x ((nJ x).1 hx)
  refine ⟨j, hj, ?_⟩
  unfold dI tV
  cases decide ((lX hour (fI f) (jQ l)).Field.Freeze < hour) with
  | true => exact qE hg
  | false => exact hg
end Go.Am

end
section
namespace Go.Am

theorem vP {f : aT} {l : aJ} {i : Nat} (h : iT f l i) : (jG l).length ≤ 92 := by
  unfold jG
  cases l.frozen with
  | true => exact h.len
  | false =>
    simp only [cond_false]
    have h1 := xN l (fW l) []
    have h2 := oE h.wf
    unfold kA
    simp only [List.length_nil] at h1
    omega
theorem xP {f : aT} {l : aJ} {i : Nat} (h : iT f l i) : cX l = some (jG l) := by
  have := h.len
  simp only [List.length_append] at this
  exact zK h.wf (by omega) (by omega)
/-- The alternates. -/
def pW (l : aJ) : List Int := (fW l).filter fun n => !decide (n ∈ jG l)
theorem aGb {f : aT} {l : aJ} {i : Nat} (h : iT f l i) : fR l = some (pW l) := by
  have hm := vP h
  unfold fR pW
  rw [xP h, Option.bind_some, rG h.wf, Option.bind_some]
  rw [xV (fW l) _ (fun n => decide (n ∈ jG l)) (fun n _ => by unfold iL; rw [sL _ (by omega)]; rfl) (by have := oE h.wf; omega)]
  rfl
theorem wJ (f : aT) (l : List aK) (hour player : Int) : kX f l hour player = some (bif !decide (rF f l = 0) then (none, rF f l) else bif !wi hour 0 9999 || !wi player 0 999 then (none, 1) else (some (dI f l hour), 0)) := by
  unfold kX
  rw [aFm, Option.bind_some]
  cases hc : decide (rF f l = 0) with
  | false => rfl
  | true =>
    simp only [Bool.not_true, cond_false, zI, Option.bind_some, oK]
    cases !wi hour 0 9999 || !wi player 0 999 with
    | true => rfl
    | false =>
      simp only [cond_false]
      rw [aBh (lN.1 (by simpa using hc)) hour]
      rfl
/-- What List answers. -/
def aEp (f : aT) (l : List aK) (hour : Int) : fP :=
  fP.mk (jG (dI f l hour)) (dI f l hour).wilds (pW (dI f l hour)) (plc (dI f l hour) - ((jG (dI f l hour)).length : Int))
theorem aIj {f : aT} {l : List aK} (h : VL f l) {hour : Int} (hh : wi hour 0 9999 = true) : nH f l hour = some (aEp f l hour, 0) := by
  obtain ⟨i, hi, hg⟩ := rC h hour
  have hm := vP hg
  have hp := yU hg.wf
  unfold nH aEp
  rw [wJ, lN.2 h, hh]
  simp only [decide_true, Bool.not_true, cond_false, show wi 0 0 999 = true from rfl, Bool.or_self, Option.bind_some]
  rw [xP hg, Option.bind_some, aGb hg, Option.bind_some, sR hg.wf, Option.bind_some, gT (by omega) (by omega)]

/-! ### The order of the notices does not matter. -/
end Go.Am

end
section
namespace Go.Am

def kZ (a b c : List Int) (p : Int) : Int × Int :=
  bif decide (0 ≤ fL (fun x => decide (p = x)) a) then (1, fL (fun x => decide (p = x)) a + 1)
  else bif decide (0 ≤ fL (fun x => decide (p = x)) b) then (2, fL (fun x => decide (p = x)) b + 1)
  else bif decide (0 ≤ fL (fun x => decide (p = x)) c) then (3, fL (fun x => decide (p = x)) c + 1)
  else (0, 0)
theorem sY {α : Type} (p : α → Bool) (xs : List α) : -1 ≤ fL p xs ∧ fL p xs ≤ xs.length := by
  unfold fL
  split <;> omega
theorem aHx (a b c : List Int) (p : Int) (ha : a.length ≤ 1000) (hb : b.length ≤ 1000) (hc : c.length ≤ 1000) : gF p [a, b, c] 3 BIG 0 = some (kZ a b c p) := by
  obtain ⟨k, hk⟩ : ∃ k, BIG = k + 1 + 1 + 1 + 1 := ⟨BIG - 4, by unfold BIG; omega⟩
  have i1 := aCl a p (by omega)
  have i2 := aCl b p (by omega)
  have i3 := aCl c p (by omega)
  have r1 := sY (fun x => decide (p = x)) a
  have r2 := sY (fun x => decide (p = x)) b
  have r3 := sY (fun x => decide (p = x)) c
  rw [hk]
  unfold kZ
  simp only [gF, mQ, show decide ((0 : Int) < 3) = true from rfl, cond_true, show idx [a, b, c] 0 = some a from rfl, Option.bind_some, show w64 (0 + 1) = 1 from rfl, show decide ((1 : Int) < 3) = true from rfl, show idx [a, b, c] 1 = some b from rfl, show w64 (1 + 1) = 2 from rfl, show decide ((2 : Int) < 3) = true from rfl, show idx [a, b, c] 2 = some c from rfl, show w64 (2 + 1) = 3 from rfl, show decide ((3 : Int) < 3) = false from rfl, cond_false, i1, i2, i3]
  rw [gT (by omega) (by omega), gT (by omega) (by omega), gT (by omega) (by omega)]
  cases decide (0 ≤ fL (fun x => decide (p = x)) a) <;> cases decide (0 ≤ fL (fun x => decide (p = x)) b) <;> cases decide (0 ≤ fL (fun x => decide (p = x)) c) <;> rfl
def eI (l : aJ) (p : Int) : Int × Int := kZ (jG l) l.wilds (pW l) p
theorem aHn {l : aJ} (h : WF l) : (pW l).length ≤ 60 := Nat.le_trans (List.length_filter_le _ _) (oE h)
theorem xT {f : aT} {l : aJ} {i : Nat} (h : iT f l i) (hi : i ≤ 60) (p : Int) : gO l p = some (eI l p) := by
  have hm := vP h
  have ho := aHn h.wf
  have hw := h.cn.wl
  unfold gO eI
  rw [xP h, Option.bind_some, aGb h, Option.bind_some]
  exact aHx _ _ _ p (by omega) (by omega) (by omega)
theorem aBf {f : aT} {l : List aK} (h : VL f l) {hour player : Int} (hh : wi hour 0 9999 = true) (hp : wi player 0 999 = true) : mI f l hour player = some ((eI (dI f l hour) player).1, (eI (dI f l hour) player).2, 0) := by
  obtain ⟨i, hi, hg⟩ := rC h hour
  unfold mI
  rw [wJ, lN.2 h, hh, hp]
  simp only [decide_true, Bool.not_true, cond_false, Bool.or_self, Option.bind_some]
  rw [xT hg hi]; rfl

/-! ### The entries by an insertion sort. -/
def uD (l : aJ) (n : Int) : List Int → List Int
  | [] => [n]
  | m :: t => bif decide (iM l n < iM l m) then n :: m :: t else m :: uD l n t
theorem vN (l : aJ) (n : Int) : ∀ t : List Int, (uD l n t).Perm (n :: t)
  | [] => .refl _
  | m :: t => by
    simp only [uD]
    cases decide (iM l n < iM l m) with
    | true => exact .refl _
    | false => exact ((vN l n t).cons m).trans (.swap _ _ _)
theorem wX (l : aJ) (n : Int) : ∀ t : List Int, t.Pairwise (fun a b => iM l a < iM l b) → (∀ m ∈ t, iM l m ≠ iM l n) → (uD l n t).Pairwise fun a b => iM l a < iM l b
  | [], _, _ => List.pairwise_singleton _ _
  | m :: t, hs, hne => by
    have h1 := List.pairwise_cons.1 hs
    simp only [uD]
    cases hc : decide (iM l n < iM l m) with
    | true =>
      simp only [decide_eq_true_eq] at hc
      refine List.pairwise_cons.2 ⟨fun b hb => ?_, hs⟩
      rcases List.mem_cons.1 hb with rfl | hb
      · exact hc
      · exact Int.lt_trans hc (h1.1 b hb)
    | false =>
      simp only [decide_eq_false_iff_not] at hc
      refine List.pairwise_cons.2 ⟨fun b hb => ?_, wX l n t h1.2 fun x hx => hne x (by simp [hx])⟩
      rcases List.mem_cons.1 ((vN l n t).mem_iff.1 hb) with rfl | hb
      · have := hne m (by simp); omega
      · exact h1.1 b hb
def aEj (l : aJ) : List Int := (nM l).foldr (uD l) []
theorem vE (l : aJ) : ∀ t : List Int, (t.foldr (uD l) []).Perm t
  | [] => .refl _
  | n :: t => (vN l n _).trans ((vE l t).cons n)
theorem sN {l : aJ} (h : WF l) : fW l = aEj l := by
  have hn : (nM l).Nodup := by
    unfold nM
    exact h.keys.sublist ((List.filter_sublist).map _)
  have hs : ∀ t : List Int, t.Nodup → (∀ n ∈ t, (pl l n).entered = true) → (t.foldr (uD l) []).Pairwise fun a b => iM l a < iM l b := by
    intro t
    induction t with
    | nil => intro _ _; exact .nil
    | cons n t ih =>
      intro hn he
      have h1 := List.nodup_cons.1 hn
      refine wX l n _ (ih h1.2 fun m hm => he m (by simp [hm])) fun m hm e => ?_
      have hmt := (vE l t).mem_iff.1 hm
      have := xM h (he m (by simp [hmt])) (he n (by simp)) e
      subst this
      exact h1.1 hmt
  refine qY (key := iM l) (aDe h) (hs (nM l) hn fun n hm => sD hm) fun n => ?_
  rw [xG]
  show isE l.players n = true ↔ n ∈ (nM l).foldr (uD l) []
  rw [(vE l (nM l)).mem_iff, uG]
def wI (l : aJ) : List Int := uE l [] (aEj l)
theorem yL {l : aJ} (h : WF l) : kA l = wI l := by
  unfold kA wI
  rw [sN h]
def rI (l : aJ) : List Int := bif l.frozen then l.first ++ l.late else wI l
theorem xO {l : aJ} (h : WF l) : jG l = rI l := by
  unfold jG rI
  rw [yL h]
def vU (l : aJ) : List Int := (aEj l).filter fun n => !decide (n ∈ rI l)
theorem aDx {l : aJ} (h : WF l) : pW l = vU l := by
  unfold pW vU
  rw [xO h, sN h]
def tK (l : aJ) : aJ := bif l.frozen then l else { l with frozen := true, first := wI l }
theorem yF {l : aJ} (h : WF l) : jF l = tK l := by
  unfold jF tK
  rw [yL h]
def yC (l : aJ) (es : List Int) (first : List Int) : Nat → List Int → List Int
  | 0, late => late
  | k + 1, late => bif decide (((first ++ late).length : Int) < plc l) then (match es.find? (nT l (first ++ late)) with
    | none => late
    | some n => yC l es first k (late ++ [n])) else late
theorem zY {l : aJ} (first : List Int) : ∀ (k : Nat) (late : List Int), nY l first k late = yC l (fW l) first k late
  | 0, _ => rfl
  | k + 1, late => by
    simp only [nY, yC]
    cases (fW l).find? (nT l (first ++ late)) with
    | none => rfl
    | some n => simp only; rw [zY first k (late ++ [n])]
def aEk (l : aJ) : aJ := wl l (l.first.filter fun n => isE l.players n) (yC l (aEj l) (l.first.filter fun n => isE l.players n) 100 (l.late.filter fun n => isE l.players n))
theorem aGz {l : aJ} (h : WF l) : tY l = aEk l := by
  unfold tY aEk
  rw [zY, sN h]
def aFc (l : aJ) (x : aK) : aJ :=
  let l2 := fD (bif decide (l.Field.Freeze < x.Hour) then tK l else l) x
  bif l2.frozen then aEk l2 else l2
theorem aHz {f : aT} {l : aJ} {x : aK} {i : Nat} (h : iT f l i) (hi : i < 60) (hx : kN x = true) : uK l x = aFc l x := by
  have h1 : iT f (bif decide (l.Field.Freeze < x.Hour) then jF l else l) i := by
    cases decide (l.Field.Freeze < x.Hour) with
    | true => exact qE h
    | false => exact h
  have h2 := wC h1 hi hx
  have e1 : (bif decide (l.Field.Freeze < x.Hour) then jF l else l) = bif decide (l.Field.Freeze < x.Hour) then tK l else l := by rw [yF h.wf]
  unfold uK aFc
  simp only
  rw [e1] at h2 ⊢
  rw [aGz h2.wf]
def aCn (hour : Int) (l : aJ) : List aK → aJ
  | [] => l
  | x :: t => bif decide (hour < x.Hour) then l else aCn hour (aFc l x) t
theorem aDz {f : aT} (hour : Int) : ∀ (t : List aK) (l : aJ) (i : Nat), iT f l i → i + t.length ≤ 60 → (∀ x ∈ t, kN x = true) → lX hour l t = aCn hour l t
  | [], _, _, _, _, _ => rfl
  | x :: t, l, i, h, hi, hx => by
    simp only [List.length_cons] at hi
    simp only [lX, aCn]
    rw [← aHz h (by omega) (hx x (by simp)), aDz hour t _ (i + 1) (aAq h (by omega) (hx x (by simp))) (by omega) fun y hy => hx y (by simp [hy])]
def aGu (hour : Int) (l : aJ) : aJ := bif decide (l.Field.Freeze < hour) then tK l else l
theorem aFe {f : aT} {l : List aK} (h : VL f l) (hs : l.Pairwise fun x y => fS x < fS y) (hour : Int) : dI f l hour = aGu hour (aCn hour (fI f) l) := by
  have hb : ∀ x ∈ l, bN x := fun x hx => aAy (h.nt x hx)
  have ht : jQ l = l := qY (uT hb h.id) hs fun x => nJ x
  have hlen := h.len
  obtain ⟨j, hj, hg⟩ := uH hour l (fI f) 0 (qO h.fd) (by omega) h.nt
  unfold dI tV aGu
  rw [ht, yF hg.wf, aDz hour l (fI f) 0 (qO h.fd) (by omega) h.nt]
end Go.Am

end
section
namespace Go.Am

/-- What is left of a row when equal neighbours are one. -/
def lA (p : Int) : List Int → List Int
  | [] => []
  | y :: t => if y = p then lA p t else y :: lA y t
def kS : List Int → List Int
  | [] => []
  | x :: t => x :: lA x t
theorem aDb (again : Int → List Int → Option (List Int)) {k0 : Nat} : ∀ (t : List Int) (p : Int) (W X : List Int) (k2 k : Nat), 1 ≤ k2 → W.length + X.length + 1 = k0 + k2 → k0 ≤ W.length → (W ++ X ++ p :: t).length < 4611686018427387904 → t.length < k →
    dT again (k0 : Nat) k (W.length : Nat) (k2 : Nat) (W ++ X ++ p :: t) = some (W ++ lA p t) := by
  intro t
  induction t with
  | nil =>
    intro p W X k2 k h1 h2 h3 hb hk
    obtain ⟨k, rfl⟩ : ∃ q, k = q + 1 := ⟨k - 1, by omega⟩
    simp only [List.length_append, List.length_cons, List.length_nil] at hb
    have t0 : ((k0 : Nat) : Int).toNat = k0 := rfl
    have t1 : ((W.length : Nat) : Int).toNat = W.length := rfl
    have hlt : decide ((k2 : Int) < (((W ++ X ++ [p]).drop k0).length : Int)) = false := decide_eq_false (by simp; omega)
    have c1 : (decide ((0 : Int) ≤ (W.length : Int)) && decide ((W.length : Int) ≤ ((W ++ X ++ [p]).length : Int))) = true := by simp; omega
    have c2 : decide (W.length ≤ (W ++ X ++ [p]).length) = true := by simp
    have c3 : decide ((0 : Int) ≤ (W.length : Int)) = true := by simp
    simp only [dT, t0, hlt, cond_false, lI]
    rw [c1, t1, c2, c3]
    simp [chk, lA]
  | cons y t ih =>
    intro p W X k2 k h1 h2 h3 hb hk
    obtain ⟨k, rfl⟩ : ∃ q, k = q + 1 := ⟨k - 1, by omega⟩
    simp only [List.length_append, List.length_cons] at hb hk
    have t0 : ((k0 : Nat) : Int).toNat = k0 := rfl
    have t1 : ((W.length : Nat) : Int).toNat = W.length := rfl
    have hlt : decide ((k2 : Int) < (((W ++ X ++ p :: y :: t).drop k0).length : Int)) = true := decide_eq_true (by simp; omega)
    have ed : (W ++ X ++ p :: y :: t).drop k0 = (W ++ X).drop k0 ++ p :: y :: t := by rw [List.drop_append_of_le_length (by simp; omega)]
    have hdl : ((W ++ X).drop k0).length = k2 - 1 := by simp; omega
    have i1 : idx ((W ++ X ++ p :: y :: t).drop k0) (k2 : Nat) = some y := by rw [ed]; exact uC (by rw [hdl]; omega)
    have i2 : idx ((W ++ X ++ p :: y :: t).drop k0) (w64 ((k2 : Int) - 1)) = some p := by rw [aCz (by omega) (by omega), ed]; exact pQ (by rw [hdl])
    simp only [dT, t0, hlt, cond_true, i1, i2, Option.bind_some, dZ (show k2 < 9223372036854775807 by omega)]
    by_cases hyp : y = p
    · subst hyp
      have := ih y W (X ++ [y]) (k2 + 1) k (by omega) (by simp; omega) h3 (by simp only [List.length_append, List.length_cons, List.length_nil]; omega) (by omega)
      have e1 : W ++ (X ++ [y]) ++ y :: t = W ++ X ++ y :: y :: t := by simp
      rw [e1] at this
      rw [decide_eq_true rfl, Bool.not_true, cond_false, this]
      simp [lA]
    · have hd : (!decide (y = p)) = true := by rw [decide_eq_false hyp]; rfl
      have i3 : ∃ z, idx (W ++ X ++ p :: y :: t) (W.length : Nat) = some z := ⟨_, gG (by simp; omega)⟩
      obtain ⟨z, i3⟩ := i3
      rw [hd, cond_true, i3, Option.bind_some, t1, dZ (by omega)]
      obtain ⟨X', e2⟩ : ∃ X', (W ++ X ++ p :: y :: t).set W.length y = (W ++ [y]) ++ X' ++ y :: t ∧ X'.length = X.length := by
        cases X with
        | nil => exact ⟨[], by simp, rfl⟩
        | cons x X => exact ⟨X ++ [p], by simp, by simp⟩
      rw [e2.1]
      have := ih y (W ++ [y]) X' (k2 + 1) k (by omega) (by rw [List.length_append, e2.2]; simp; omega) (by simp; omega) (by simp only [List.length_append, List.length_cons, List.length_nil, e2.2]; omega) (by omega)
      have e3 : (W ++ [y]).length = W.length + 1 := by simp
      rw [e3] at this
      rw [this]
      simp [lA, hyp]
theorem aAr (s : List Int) (hb : s.length < 4611686018427387904) : iY s = some (kS s) := by
  have main : ∀ (t A : List Int) (p : Int) (k : Nat), t.length < k → (A ++ p :: t).length < 4611686018427387904 → cU k ((A.length + 1 : Nat) : Int) (A ++ p :: t) = some (A ++ p :: lA p t) := by
    intro t
    induction t with
    | nil =>
      intro A p k hk hb
      obtain ⟨k, rfl⟩ : ∃ q, k = q + 1 := ⟨k - 1, by omega⟩
      have hlt : decide (((A.length + 1 : Nat) : Int) < ((A ++ [p]).length : Int)) = false := decide_eq_false (by simp)
      simp only [cU, hlt, cond_false, lG, lA]
    | cons y t ih =>
      intro A p k hk hb
      obtain ⟨k, rfl⟩ : ∃ q, k = q + 1 := ⟨k - 1, by omega⟩
      simp only [List.length_append, List.length_cons] at hb hk
      have hlt : decide (((A.length + 1 : Nat) : Int) < ((A ++ p :: y :: t).length : Int)) = true := decide_eq_true (by simp; omega)
      have i2 : w64 (((A.length + 1 : Nat) : Int) - 1) = (A.length : Int) := by rw [gT (by omega) (by omega)]; omega
      simp only [cU, hlt, cond_true, uC rfl, i2, pQ rfl, Option.bind_some]
      by_cases hyp : y = p
      · subst hyp
        have c1 : (decide ((0 : Int) ≤ ((A.length + 1 : Nat) : Int)) && decide (((A.length + 1 : Nat) : Int) ≤ ((A ++ y :: y :: t).length : Int))) = true := by simp; omega
        rw [decide_eq_true rfl, cond_true, c1]
        simp only [chk, cond_true, Option.bind_some]
        have := aDb (cU k) (k0 := A.length + 1) t y (A ++ [y]) [] 1 BIG (Nat.le_refl _) (by simp) (by simp) (by simp only [List.length_append, List.length_cons, List.length_nil]; omega) (gU (by omega))
        have e3 : (A ++ [y]).length = A.length + 1 := by simp
        have e4 : A ++ [y] ++ [] ++ y :: t = A ++ y :: y :: t := by simp
        rw [e3, e4] at this
        have e5 : ((1 : Nat) : Int) = 1 := rfl
        rw [e5] at this
        rw [this]
        simp [lA]
      · rw [decide_eq_false hyp, cond_false]
        unfold lH
        rw [dZ (by omega)]
        have := ih (A ++ [p]) y k (by omega) (by simp only [List.length_append, List.length_cons, List.length_nil]; omega)
        have e3 : (A ++ [p]).length = A.length + 1 := by simp
        have e4 : A ++ [p] ++ y :: t = A ++ p :: y :: t := by simp
        rw [e3, e4] at this
        rw [this]
        simp [lA, hyp]
  unfold iY
  match s, hb with
  | [], _ => simp [kS]
  | x :: t, hb =>
    by_cases ht : t = []
    · subst ht; simp [kS, lA]
    · have hl : 0 < t.length := List.length_pos_iff.2 ht
      have hd : decide (((x :: t).length : Int) < 2) = false := decide_eq_false (by simp; omega)
      rw [hd, cond_false]
      have := main t [] x BIG (gU (by simp at hb; omega)) (by simpa using hb)
      simp only [List.length_nil, List.nil_append, Nat.zero_add] at this
      have e5 : ((1 : Nat) : Int) = 1 := rfl
      rw [e5] at this
      rw [this]; rfl
theorem aFt (p x : Int) (t : List Int) : (x = p ∨ x ∈ lA p t) ↔ (x = p ∨ x ∈ t) := by
  induction t generalizing p with
  | nil => rfl
  | cons y t ih =>
    simp only [lA, List.mem_cons]
    by_cases h : y = p
    · subst h
      rw [if_pos rfl]
      have := ih y
      constructor
      · rintro (h | h)
        · exact .inl h
        · rcases this.1 (.inr h) with h | h
          · exact .inl h
          · exact .inr (.inr h)
      · rintro (h | h | h)
        · exact .inl h
        · exact .inl h
        · exact this.2 (.inr h)
    · rw [if_neg h, List.mem_cons]
      have := ih y
      constructor
      · rintro (h | h)
        · exact .inl h
        · exact .inr (this.1 h)
      · rintro (h | h)
        · exact .inl h
        · exact .inr (this.2 h)
theorem aBm (x : Int) (s : List Int) : x ∈ kS s ↔ x ∈ s := by
  cases s with
  | nil => rfl
  | cons p t => simp only [kS, List.mem_cons]; exact aFt p x t
theorem aAj (p : Int) (t : List Int) : (lA p t).Sublist t := by
  induction t generalizing p with
  | nil => exact .slnil
  | cons y t ih =>
    simp only [lA]
    split
    · exact (ih p).cons _
    · exact (ih y).cons_cons _
theorem aGi (l : List Int) (x : Int) : x ∈ lZ l ↔ x ∈ l := (List.mergeSort_perm l _).mem_iff
theorem aAp (l : List Int) : (lZ l).length = l.length := (List.mergeSort_perm l _).length_eq
/-- The hours that are asked, one after the other. -/
def nB (l : List aK) : List Int := kS (lZ (l.map fun x => x.Hour))
def sZ (f : aT) (l : List aK) (p h : Int) : Bool := decide ((eI (dI f l h) p).1 = 1) || decide ((eI (dI f l h) p).1 = 2)
theorem aJj {f : aT} {l : List aK} (h : VL f l) (p : Int) (T : List Int) (hT : T.length ≤ 1000) : ∀ (d i k : Nat), T.length - i = d → d < k → i ≤ T.length →
    jJ l p (T.length : Int) f T k (i : Int) = some (match (T.drop i).find? (sZ f l p) with | some x => (x, 0) | none => (0, 3)) := by
  intro d
  induction d with
  | zero =>
    intro i k hd hk hi
    obtain ⟨k, rfl⟩ : ∃ q, k = q + 1 := ⟨k - 1, by omega⟩
    have : i = T.length := by omega
    subst this
    simp [jJ, qV]
  | succ d ih =>
    intro i k hd hk hi
    obtain ⟨k, rfl⟩ : ∃ q, k = q + 1 := ⟨k - 1, by omega⟩
    have hil : i < T.length := by omega
    have hlt : decide ((i : Int) < (T.length : Int)) = true := decide_eq_true (by omega)
    obtain ⟨j, hj, hg⟩ := rC h T[i]
    simp only [jJ, hlt, cond_true, gG hil, Option.bind_some, aBh h, xT hg hj, oK]
    rw [List.drop_eq_getElem_cons hil, List.find?_cons]
    rw [show (decide ((eI (dI f l T[i]) p).1 = 1) || decide ((eI (dI f l T[i]) p).1 = 2)) = sZ f l p T[i] from rfl]
    cases sZ f l p T[i] with
    | true => rfl
    | false =>
      simp only [cond_false]
      rw [dZ (by omega)]
      exact ih (i + 1) k (by omega) (by omega) (by omega)
theorem aDo {f : aT} {l : List aK} (h : VL f l) {p : Int} (hp : wi p 0 999 = true) : lO f l p = some (match (nB l).find? (sZ f l p) with | some x => (x, 0) | none => (0, 3)) := by
  have hlen := h.len
  have hH : (nB l).length ≤ 60 := by
    unfold nB
    have h1 := aAp (l.map fun x => x.Hour)
    rw [List.length_map] at h1
    cases hs : lZ (l.map fun x => x.Hour) with
    | nil => simp [kS]
    | cons q t =>
      rw [hs] at h1
      simp only [List.length_cons] at h1
      have := (aAj q t).length_le
      simp only [kS, List.length_cons]
      omega
  have key := pS (jI l p l (l.length : Int) f) l.length (fun i s => nX l p f (s ++ (l.drop i).map fun x => x.Hour)) (fun i s => s.length = i) (fun k i s hi hI ih => ?_) (fun k s hI => ?_) BIG [] (gU (by omega)) rfl
  · unfold lO
    rw [wJ, lN.2 h, hp]
    simp only [decide_true, Bool.not_true, cond_false, show wi 0 0 9999 = true from rfl, Bool.or_self, Option.bind_some]
    rw [key]
    simp only [List.drop_zero, List.nil_append]
    unfold nX slices_Sort_int
    rw [if_pos (by rw [List.length_map]; omega), Option.bind_some, aAr _ (by rw [aAp, List.length_map]; omega), Option.bind_some]
    exact aJj h p (nB l) (by omega) _ 0 BIG rfl (gU (by omega)) (Nat.zero_le _)
  · simp only [jI, show decide ((i : Int) < (l.length : Int)) = true by simpa using hi, cond_true, gG hi, Option.bind_some]
    rw [qI (by simp; omega)]
    simp only [Option.bind_some]
    rw [dZ (by omega), ih _ (by simp; omega), List.append_assoc, List.singleton_append, ← List.map_cons (f := fun x : aK => x.Hour), ← List.drop_eq_getElem_cons hi]
  · simp [jI]
end Go.Am

end
section
namespace Go.Am

def exF : aT := ((gQ).getD (⟨0, 0, 0, 0, 0⟩, [])).1
def exL : List aK := ((gQ).getD (⟨0, 0, 0, 0, 0⟩, [])).2
theorem aKc : gQ = some (exF, exL) := by kernel_rfl
theorem yA : VL exF exL := lN.1 (by kernel_rfl)
theorem aFp : exL.Pairwise fun x y => fS x < fS y := of_decide_eq_true (by kernel_rfl)
def exA (h : Int) : aJ := aGu h (aCn h (fI exF) exL)
theorem tX (h : Int) : dI exF exL h = exA h := aFe yA aFp h
theorem aDv (h : Int) : ∃ j, j ≤ 60 ∧ iT exF (exA h) j := by
  rw [← tX]
  exact rC yA h
theorem wH (h : Int) : WF (exA h) := by
  obtain ⟨j, _, hg⟩ := aDv h
  exact hg.wf
theorem aIq : nH exF exL 12 = some (⟨[9, 8, 5], [7], [6, 4], 0⟩, 0) := by
  rw [aIj yA (by rfl)]
  unfold aEp
  rw [tX, aDx (wH 12), xO (wH 12)]
  kernel_rfl
theorem aBr (h p : Int) : eI (exA h) p = kZ (rI (exA h)) (exA h).wilds (vU (exA h)) p := by
  unfold eI
  rw [aDx (wH h), xO (wH h)]
theorem aFo : jN (exA 10) 4 = some 2 := by
  unfold jN
  rw [rG (wH 10), sN (wH 10)]
  kernel_rfl
theorem aGw : nR exF exL 10 4 = some (2, 0) := by
  obtain ⟨j, hj, hg⟩ := aDv 10
  unfold nR
  rw [wJ, lN.2 yA, tX]
  simp only [decide_true, Bool.not_true, cond_false, show wi 10 0 9999 = true from rfl, show wi 4 0 999 = true from rfl, Bool.or_self, Option.bind_some]
  rw [xT hg hj, aBr, aFo, show kZ (rI (exA 10)) (exA 10).wilds (vU (exA 10)) 4 = (3, 3) by kernel_rfl, show (exA 10).frozen = false by kernel_rfl]
  rfl
theorem aGv : nB exL = [1, 2, 3, 4, 5, 6, 11, 12, 15, 21, 22] := by
  have h : lZ (exL.map fun x => x.Hour) = exL.map fun x => x.Hour := by
    have hs := List.pairwise_mergeSort (le := fun x y : Int => decide (x ≤ y)) (by intro a b c; simp only [decide_eq_true_eq]; omega) (by intro a b; simp only [Bool.or_eq_true, decide_eq_true_eq]; omega) (exL.map fun x => x.Hour)
    refine pX (R := fun x y : Int => x ≤ y) (List.mergeSort_perm _ _) (hs.imp fun {x y} h => by simpa using h) (of_decide_eq_true (by kernel_rfl)) fun a _ b _ h1 h2 => Int.le_antisymm h1 h2
  unfold nB
  rw [h]
  have : kS (exL.map fun x => x.Hour) = [1, 2, 3, 4, 5, 6, 11, 12, 15, 21, 22] := by kernel_rfl
  exact this
theorem aIr : lO exF exL 4 = some (15, 0) := by
  have hf : sZ exF exL 4 = fun h => decide ((kZ (rI (exA h)) (exA h).wilds (vU (exA h)) 4).1 = 1) || decide ((kZ (rI (exA h)) (exA h).wilds (vU (exA h)) 4).1 = 2) := by
    funext h
    unfold sZ
    rw [tX, aBr]
  rw [aDo yA (by rfl), hf, aGv]
  have : [1, 2, 3, 4, 5, 6, 11, 12, 15, 21, 22].find? (fun h => decide ((kZ (rI (exA h)) (exA h).wilds (vU (exA h)) 4).1 = 1) || decide ((kZ (rI (exA h)) (exA h).wilds (vU (exA h)) 4).1 = 2)) = some 15 := by kernel_rfl
  rw [this]
theorem wF : gN = some true := by
  unfold gN
  rw [aKc, Option.bind_some, aIq, Option.bind_some, aGw, Option.bind_some, aIr, Option.bind_some]
  kernel_rfl
end Go.Am

end
