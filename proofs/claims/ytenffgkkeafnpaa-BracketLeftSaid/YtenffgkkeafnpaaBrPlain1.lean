/- Layer 7, plain: which trees are valid. -/
import Derived.Test.YtenffgkkeafnpaaBrSh
import Derived.Test.YtenffgkkeafnpaaAmPlain
namespace Go.Am

theorem xI {α β : Type} [DecidableEq α] (a b : α) (z v : β) : ∀ l : List (α × β), cF b z (eR a v l) = if b = a then v else cF b z l
  | [] => by by_cases h : b = a <;> simp [eR, cF, h]
  | (k, u) :: l => by
    by_cases h1 : a = k
    · subst h1
      by_cases h2 : b = a
      · simp [eR, cF, h2]
      · simp [eR, cF, h2]
    · by_cases h2 : b = k
      · subst h2
        simp [eR, cF, h1, Ne.symm h1]
      · simp [eR, cF, h1, h2, xI a b z v l]
def wi (n lo hi : Int) : Bool := decide (lo ≤ n) && decide (n ≤ hi)
theorem iV {n lo hi : Int} : wi n lo hi = true ↔ lo ≤ n ∧ n ≤ hi := by simp [wi]
theorem oC (n lo hi : Int) : eJ n lo hi = some (wi n lo hi) := by simp [eJ, fN, wi]
theorem oP (n lo hi : Int) : dS n lo hi = some (wi n lo hi) := by simp [dS, fN, wi]
theorem bP {α : Type} {l : List α} {i : Nat} (h : i < l.length) (d : α) : l.getD i d = l[i] := by simp [List.getD, h]

/-- A valid tree. -/
structure TreeOK (t : aO) : Prop where
  r1 : 1 ≤ t.Rounds
  r5 : t.Rounds ≤ 5
  len : t.Slots.length = 2 ^ t.Rounds.toNat
  rng : ∀ i (h : i < t.Slots.length), -1 ≤ t.Slots[i] ∧ t.Slots[i] ≤ 999
  bye : ∀ j (h : 2 * j + 1 < t.Slots.length), t.Slots[2 * j] = -1 → t.Slots[2 * j + 1] ≠ -1
  dup : ∀ i (h : i < t.Slots.length) k (hk : k < i), t.Slots[k] = t.Slots[i] → t.Slots[i] = -1

theorem TreeOK.len32 {t : aO} (h : TreeOK t) : t.Slots.length ≤ 32 := by
  rw [h.len]
  have h1 := h.r1
  have h5 := h.r5
  have : t.Rounds.toNat ≤ 5 := by omega
  exact Nat.pow_le_pow_right (by omega) this
theorem aMs : ∀ i : Fin 32, aDe ((i.val : Nat) : Int) 1 = ((if i.val % 2 = 0 then i.val + 1 else i.val - 1 : Nat) : Int) := by decide +kernel
theorem aGy : ∀ r : Fin 6, w64 (1 * 2 ^ (min r.val 64)) = ((2 ^ r.val : Nat) : Int) := by decide +kernel
theorem oS {n : Int} (h0 : 0 ≤ n) (h : n ≤ 9223372036854775807) : IntKind.u64.wrap n = n := by
  simp [IntKind.wrap, IntKind.signed, IntKind.bits]
  omega

/-- The shape of a tree. -/
def lJ (t : aO) : Bool := wi t.Rounds 1 5 && decide (t.Slots.length = 2 ^ t.Rounds.toNat)
theorem aIs {t : aO} (h : wi t.Rounds 1 5 = true) : w64 (1 * 2 ^ (min t.Rounds.toNat 64)) = ((2 ^ t.Rounds.toNat : Nat) : Int) := by
  rw [iV] at h
  have := aGy ⟨t.Rounds.toNat, by omega⟩
  simpa using this
/-- What is asked of a slot, by the program. -/
def vO (S : List Int) (i : Nat) : Bool :=
  if S.getD i 0 = -1 then !decide (S.getD (if i % 2 = 0 then i + 1 else i - 1) 0 = -1) else !decide (S.getD i 0 ∈ S.take i) && wi (S.getD i 0) 0 999
/-- .. and by the reference. -/
def vP (S : List Int) (i : Nat) : Bool :=
  wi (S.getD i 0) (-1) 999 && !(decide (i % 2 = 1) && decide (S.getD i 0 = -1) && decide (S.getD (i - 1) 0 = -1)) && ((List.range i).all fun k => !(decide (S.getD k 0 = S.getD i 0) && !decide (S.getD i 0 = -1)))

theorem wC {t : aO} (h : lJ t = true) : t.Slots.length ≤ 32 ∧ t.Slots.length % 2 = 0 := by
  simp only [lJ, Bool.and_eq_true, iV, decide_eq_true_eq] at h
  obtain ⟨⟨h1, h2⟩, h3⟩ := h
  have key : ∀ r : Fin 6, 1 ≤ r.val → 2 ^ r.val ≤ 32 ∧ 2 ^ r.val % 2 = 0 := by decide +kernel
  have := key ⟨t.Rounds.toNat, by omega⟩ (by simp; omega)
  rw [h3]
  exact this

theorem aJy (t : aO) : kY t = some (lJ t && (List.range t.Slots.length).all (vO t.Slots)) := by
  unfold kY
  rw [oC]
  cases hw : wi t.Rounds 1 5 with
  | false => simp [lJ, hw]
  | true =>
    have hr := iV.1 hw
    have hch : chk (decide (0 ≤ t.Rounds)) = some () := by unfold chk; rw [decide_eq_true (by omega)]; rfl
    simp only [Option.bind_some, Bool.not_true, cond_false, hch, aIs hw]
    by_cases hl : t.Slots.length = 2 ^ t.Rounds.toNat
    · have hsh : lJ t = true := by simp [lJ, hw, hl]
      obtain ⟨h32, hev⟩ := wC hsh
      have hl' : decide ((t.Slots.length : Int) = ((2 ^ t.Rounds.toNat : Nat) : Int)) = true := decide_eq_true (by rw [hl])
      rw [hl', hsh]
      simp only [Bool.not_true, cond_false, Bool.true_and]
      have main := eQ (S := List (Int × Int)) (fun k i m => gF t.Slots t.Slots.length t k i m) t.Slots.length (fun i _ => some ((List.range' i (t.Slots.length - i)).all (vO t.Slots)))
        (fun i m => ∀ x, x ≠ -1 → cF x 0 m = if x ∈ t.Slots.take i then 1 else 0) ?_ ?_ BIG [] (cW (by omega)) (by simp [cF])
      · simpa [List.range_eq_range'] using main
      · intro k i m hi hI ih
        have hx := aMs ⟨i, by omega⟩
        simp only at hx
        have e : t.Slots.length - i = (t.Slots.length - (i + 1)) + 1 := by omega
        rw [e, List.range'_succ, List.all_cons]
        have hm : ∀ x, x ∈ t.Slots.take (i + 1) ↔ x ∈ t.Slots.take i ∨ x = t.Slots[i] := by
          intro x
          rw [List.take_succ_eq_append_getElem hi, List.mem_append, List.mem_singleton]
        simp only [gF, Int.ofNat_lt, hi, decide_true, cond_true, cK hi, Option.bind_some, cI (show i < 9223372036854775807 by omega), vO, bP hi]
        by_cases hb : t.Slots[i] = -1
        · have hj : (if i % 2 = 0 then i + 1 else i - 1) < t.Slots.length := by split <;> omega
          simp only [hb, decide_true, cond_true, hx, if_true, cK hj, Option.bind_some, bP hj]
          by_cases hc : t.Slots[if i % 2 = 0 then i + 1 else i - 1] = -1
          · simp [hc]
          · simp only [hc, decide_false, cond_false, Bool.not_false, Bool.true_and]
            refine ih m fun x hxn => ?_
            rw [hI x hxn]
            have : (x ∈ t.Slots.take (i + 1)) ↔ (x ∈ t.Slots.take i) := by
              rw [hm x]
              constructor
              · rintro (h | h)
                · exact h
                · rw [hb] at h; exact absurd h hxn
              · exact .inl
            simp [this]
        · have hcnt := hI t.Slots[i] hb
          simp only [hb, decide_false, cond_false, if_false]
          rw [xI]
          simp only [if_true, hcnt]
          by_cases hd : t.Slots[i] ∈ t.Slots.take i
          · have : w64 2 = 2 := by decide +kernel
            simp [hd, this]
          · have h1 : w64 (0 + 1) = 1 := by decide +kernel
            simp only [hd, if_false, h1, oC, Option.bind_some, show decide ((1 : Int) < 1) = false by decide, cond_false, decide_false, Bool.not_false, Bool.true_and]
            cases hwi : wi t.Slots[i] 0 999 with
            | false => simp
            | true =>
              simp only [Bool.not_true, cond_false, Bool.true_and]
              refine ih _ fun x hxn => ?_
              rw [xI, hI x hxn]
              by_cases hxe : x = t.Slots[i]
              · simp [hxe, hm]
              · simp [hxe, hm]
      · intro k m _
        simp [gF, oX]
    · have hl' : decide ((t.Slots.length : Int) = ((2 ^ t.Rounds.toNat : Nat) : Int)) = false := decide_eq_false (by omega)
      rw [hl']
      simp [lJ, hl]

theorem aJz (t : aO) : jF t = some (lJ t && (List.range t.Slots.length).all (vP t.Slots)) := by
  unfold jF
  rw [oP]
  cases hw : wi t.Rounds 1 5 with
  | false => simp [lJ, hw]
  | true =>
    have hr := iV.1 hw
    have hu : IntKind.u64.wrap t.Rounds = t.Rounds := oS (by omega) (by omega)
    have hch : chk (decide (0 ≤ t.Rounds)) = some () := by unfold chk; rw [decide_eq_true (by omega)]; rfl
    simp only [Option.bind_some, Bool.not_true, cond_false, hu, hch, aIs hw]
    by_cases hl : t.Slots.length = 2 ^ t.Rounds.toNat
    · have hsh : lJ t = true := by simp [lJ, hw, hl]
      obtain ⟨h32, hev⟩ := wC hsh
      have hl' : decide ((t.Slots.length : Int) = ((2 ^ t.Rounds.toNat : Nat) : Int)) = true := decide_eq_true (by rw [hl])
      rw [hl', hsh]
      simp only [Bool.not_true, cond_false, Bool.true_and]
      have main := tN (fun k i => eY t k i) t.Slots.length (vP t.Slots) (some false) (some true) ?_ ?_ BIG (cW (by omega))
      · rw [main]
        cases (List.range t.Slots.length).all (vP t.Slots) <;> rfl
      · intro k i hi
        have hin : ∀ ag : Int → Option Bool, eZ ag i t BIG 0 = bif (List.range i).all fun k => !(decide (t.Slots.getD k 0 = t.Slots.getD i 0) && !decide (t.Slots.getD i 0 = -1)) then ag ((i + 1 : Nat) : Int) else some false := by
          intro ag
          refine tN (fun k j => eZ ag i t k j) i _ (some false) (ag ((i + 1 : Nat) : Int)) ?_ ?_ BIG (cW (by omega))
          · intro k j hj
            have hj' : j < t.Slots.length := by omega
            simp only [eZ, Int.ofNat_lt, hj, decide_true, cond_true, cK hj', cK hi, Option.bind_some, fN, cI (show j < 9223372036854775807 by omega), bP hj', bP hi]
            cases (decide (t.Slots[j] = t.Slots[i]) && !decide (t.Slots[i] = -1)) <;> simp
          · intro k
            simp [eZ, nD, nC, cI (show i < 9223372036854775807 by omega)]
        have htm : decide (((i : Nat) : Int).tmod 2 = 1) = decide (i % 2 = 1) := by
          have : ((i : Nat) : Int).tmod 2 = ((i % 2 : Nat) : Int) := by
            rw [Int.tmod_eq_emod_of_nonneg (by omega)]; omega
          rw [this]
          simp
          omega
        simp only [eY, Int.ofNat_lt, hi, decide_true, cond_true, cK hi, Option.bind_some, oP, htm, fN, hin, vP, bP hi]
        cases hwi : wi t.Slots[i] (-1) 999 with
        | false => simp
        | true =>
          by_cases ho : i % 2 = 1
          · have hp : i - 1 < t.Slots.length := by omega
            have hwp : w64 ((i : Int) - 1) = ((i - 1 : Nat) : Int) := zU (by omega) (by omega)
            simp only [ho, decide_true, Bool.true_and, hwp, cK hp, Option.bind_some, fN, Bool.not_true, cond_false, bP hp]
            cases (decide (t.Slots[i] = -1) && decide (t.Slots[i - 1] = -1)) <;> simp
          · simp [ho]
      · intro k
        simp [eY, nB]
    · have hl' : decide ((t.Slots.length : Int) = ((2 ^ t.Rounds.toNat : Nat) : Int)) = false := decide_eq_false (by omega)
      rw [hl']
      simp [lJ, hl]
theorem pZ (l : List Int) (hl : l.length ≤ 9223372036854775807) (v : Int) : fE l v = some (match l.findIdx? (fun x => decide (v = x)) with | some i => (i : Int) | none => -1) := by
  unfold fE
  rw [eQ (S := Unit) (fun k i _ => gM l v l.length k i) l.length (fun i _ => some (match (l.drop i).findIdx? (fun x => decide (v = x)) with | some j => ((i + j : Nat) : Int) | none => -1)) (fun _ _ => True) ?_ ?_ BIG () (cW hl) trivial]
  · simp
  · intro k i _ hi _ ih
    have := ih () trivial
    simp only [gM, cK hi, Option.bind_some, cI (show i < 9223372036854775807 by omega), Int.ofNat_lt, hi, decide_true, cond_true, this]
    rw [List.drop_eq_getElem_cons hi, List.findIdx?_cons]
    by_cases h : v = l[i]
    · simp [h]
    · simp only [h, decide_false, cond_false, Bool.false_eq_true, if_false]
      cases List.findIdx? (fun x => decide (v = x)) (List.drop (i + 1) l) with
      | none => rfl
      | some j => simp; omega
  · intro k _ _
    simp [gM, nW]
theorem pY (l : List Int) (hl : l.length ≤ 9223372036854775807) (v : Int) : gL l v = some (decide (v ∈ l)) := by
  unfold gL
  rw [pZ l hl v]
  cases h : List.findIdx? (fun x => decide (v = x)) l with
  | none =>
    simp at h
    have : v ∉ l := fun hm => h v hm rfl
    simp [this]
  | some j =>
    have : v ∈ l := by
      obtain ⟨h1, h2, _⟩ := List.findIdx?_eq_some_iff_getElem.1 h
      simp at h2
      rw [h2]; exact List.getElem_mem h1
    simp [this]

theorem mW (l : List aE) (hl : l.length ≤ 9223372036854775807) (f : aE → Option Bool) (g : aE → Bool) (hf : ∀ x ∈ l, f x = some (g x)) : fO l f = some (l.any g) := by
  have key : gR l f = some (match l.findIdx? g with | some i => (i : Int) | none => -1) := by
    unfold gR
    rw [eQ (S := Unit) (fun k i _ => dW l f l.length k i) l.length (fun i _ => some (match (l.drop i).findIdx? g with | some j => ((i + j : Nat) : Int) | none => -1)) (fun _ _ => True) ?_ ?_ BIG () (cW hl) trivial]
    · simp
    · intro k i _ hi _ ih
      have := ih () trivial
      simp only [dW, cK hi, Option.bind_some, cI (show i < 9223372036854775807 by omega), Int.ofNat_lt, hi, decide_true, cond_true, this, hf _ (List.getElem_mem hi)]
      rw [List.drop_eq_getElem_cons hi, List.findIdx?_cons]
      cases h : g l[i] with
      | true => simp
      | false =>
        simp only [cond_false, Bool.false_eq_true, if_false]
        cases List.findIdx? g (List.drop (i + 1) l) with
        | none => rfl
        | some j => simp; omega
    · intro k _ _
      simp [dW, jW]
  unfold fO
  rw [key]
  cases h : List.findIdx? g l with
  | none =>
    simp at h
    have : l.any g = false := by simpa using h
    simp [this]
  | some j =>
    have : l.any g = true := by
      obtain ⟨h1, h2, _⟩ := List.findIdx?_eq_some_iff_getElem.1 h
      simp only [List.any_eq_true]
      exact ⟨_, List.getElem_mem h1, h2⟩
    simp [this]

end Go.Am
