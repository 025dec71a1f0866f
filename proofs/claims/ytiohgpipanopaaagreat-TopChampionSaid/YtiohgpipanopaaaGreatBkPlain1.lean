/- Plain laws, one behind the other. -/
import Derived.Test.YtiohgpipanopaaaGreatTlSh
import Derived.Test.YtiohgpipanopaaaGreatAmPlain
section
namespace Go.Am
theorem aEu {α β : Type} [DecidableEq α] (a b : α) (z v : β) : ∀ l : List (α × β), cK b z (fO a v l) = if b = a then v else cK b z l
 | [] => by by_cases h : b = a <;> simp [fO, cK, h]
 | (k, u) :: l => by
  by_cases h1 : a = k
  ·subst h1
   by_cases h2 : b = a
   ·simp [fO, cK, h2]
   ·simp [fO, cK, h2]
  ·by_cases h2 : b = k
   ·subst h2
    simp [fO, cK, h1, Ne.symm h1]
   ·simp [fO, cK, h1, h2, aEu a b z v l]
def wi (n lo hi : Int) : Bool := decide (lo ≤ n) && decide (n ≤ hi)
theorem iX {n lo hi : Int} : wi n lo hi = true ↔ lo ≤ n ∧ n ≤ hi := by simp [wi]
theorem sC (n lo hi : Int) : fC n lo hi = some (wi n lo hi) := by simp [fC, dQ, wi]
theorem sP (n lo hi : Int) : eI n lo hi = some (wi n lo hi) := by simp [eI, dQ, wi]
theorem bT {α : Type} {l : List α} {i : Nat} (h : i < l.length) (d : α) : l.getD i d = l[i] := by simp [List.getD, h]
structure TreeOK (t : aN) : Prop where
 r1 : 1 ≤ t.Rounds
 r5 : t.Rounds ≤ 5
 len : t.Slots.length = 2 ^ t.Rounds.toNat
 rng : ∀ i (h : i < t.Slots.length), -1 ≤ t.Slots[i] ∧ t.Slots[i] ≤ 999
 bye : ∀ j (h : 2 * j + 1 < t.Slots.length), t.Slots[2 * j] = -1 → t.Slots[2 * j + 1] ≠ -1
 dup : ∀ i (h : i < t.Slots.length) k (hk : k < i), t.Slots[k] = t.Slots[i] → t.Slots[i] = -1
theorem TreeOK.len32 {t : aN} (h : TreeOK t) : t.Slots.length ≤ 32 := by
 rw [h.len]
 have h1 := h.r1
 have h5 := h.r5
 have : t.Rounds.toNat ≤ 5 := by omega
 exact Nat.pow_le_pow_right (by omega) this
theorem aYs : ∀ i : Fin 32, aMp ((i.val : Nat) : Int) 1 = ((if i.val % 2 = 0 then i.val + 1 else i.val - 1 : Nat) : Int) := by decide +kernel
theorem aRk : ∀ r : Fin 6, w64 (1 * 2 ^ (min r.val 64)) = ((2 ^ r.val : Nat) : Int) := by decide +kernel
theorem sU {n : Int} (h0 : 0 ≤ n) (h : n ≤ 9223372036854775807) : IntKind.u64.wrap n = n := by
 simp [IntKind.wrap, IntKind.signed, IntKind.bits]
 omega
def nX (t : aN) : Bool := wi t.Rounds 1 5 && decide (t.Slots.length = 2 ^ t.Rounds.toNat)
theorem aTj {t : aN} (h : wi t.Rounds 1 5 = true) : w64 (1 * 2 ^ (min t.Rounds.toNat 64)) = ((2 ^ t.Rounds.toNat : Nat) : Int) := by
 rw [iX] at h
 have := aRk ⟨t.Rounds.toNat, by omega⟩
 simpa using this
def aCn (S : List Int) (i : Nat) : Bool :=
 if S.getD i 0 = -1 then !decide (S.getD (if i % 2 = 0 then i + 1 else i - 1) 0 = -1) else !decide (S.getD i 0 ∈ S.take i) && wi (S.getD i 0) 0 999
def aCo (S : List Int) (i : Nat) : Bool :=
 wi (S.getD i 0) (-1) 999 && !(decide (i % 2 = 1) && decide (S.getD i 0 = -1) && decide (S.getD (i - 1) 0 = -1)) && ((List.range i).all fun k => !(decide (S.getD k 0 = S.getD i 0) && !decide (S.getD i 0 = -1)))
theorem aDc {t : aN} (h : nX t = true) : t.Slots.length ≤ 32 ∧ t.Slots.length % 2 = 0 := by
 simp only [nX, Bool.and_eq_true, iX, decide_eq_true_eq] at h
 obtain ⟨⟨h1, h2⟩, h3⟩ := h
 have key : ∀ r : Fin 6, 1 ≤ r.val → 2 ^ r.val ≤ 32 ∧ 2 ^ r.val % 2 = 0 := by decide +kernel
 have := key ⟨t.Rounds.toNat, by omega⟩ (by simp; omega)
 rw [h3]
 exact this
theorem aUz (t : aN) : nI t = some (nX t && (List.range t.Slots.length).all (aCn t.Slots)) := by
 unfold nI
 rw [sC]
 cases hw : wi t.Rounds 1 5 with
 | false => simp [nX, hw]
 | true =>
  have hr := iX.1 hw
  have hch : chk (decide (0 ≤ t.Rounds)) = some () := by unfold chk; rw [decide_eq_true (by omega)]; rfl
  simp only [Option.bind_some, Bool.not_true, cond_false, hch, aTj hw]
  by_cases hl : t.Slots.length = 2 ^ t.Rounds.toNat
  ·have hsh : nX t = true := by simp [nX, hw, hl]
   obtain ⟨h32, hev⟩ := aDc hsh
   have hl' : decide ((t.Slots.length : Int) = ((2 ^ t.Rounds.toNat : Nat) : Int)) = true := decide_eq_true (by rw [hl])
   rw [hl', hsh]
   simp only [Bool.not_true, cond_false, Bool.true_and]
   have main := fP (S := List (Int × Int)) (fun k i m => gZ t.Slots t.Slots.length t k i m) t.Slots.length (fun i _ => some ((List.range' i (t.Slots.length - i)).all (aCn t.Slots)))
    (fun i m => ∀ x, x ≠ -1 → cK x 0 m = if x ∈ t.Slots.take i then 1 else 0) ?_ ?_ BIG [] (cX (by omega)) (by simp [cK])
   ·simpa [List.range_eq_range'] using main
   ·intro k i m hi hI ih
    have hx := aYs ⟨i, by omega⟩
    simp only at hx
    have e : t.Slots.length - i = (t.Slots.length - (i + 1)) + 1 := by omega
    rw [e, List.range'_succ, List.all_cons]
    have hm : ∀ x, x ∈ t.Slots.take (i + 1) ↔ x ∈ t.Slots.take i ∨ x = t.Slots[i] := by
     intro x
     rw [List.take_succ_eq_append_getElem hi, List.mem_append, List.mem_singleton]
    simp only [gZ, Int.ofNat_lt, hi, decide_true, cond_true, cC hi, Option.bind_some, cI (show i < 9223372036854775807 by omega), aCn, bT hi]
    by_cases hb : t.Slots[i] = -1
    ·have hj : (if i % 2 = 0 then i + 1 else i - 1) < t.Slots.length := by split <;> omega
     simp only [hb, decide_true, cond_true, hx, if_true, cC hj, Option.bind_some, bT hj]
     by_cases hc : t.Slots[if i % 2 = 0 then i + 1 else i - 1] = -1
     ·simp [hc]
     ·simp only [hc, decide_false, cond_false, Bool.not_false, Bool.true_and]
      refine ih m fun x hxn => ?_
      rw [hI x hxn]
      have : (x ∈ t.Slots.take (i + 1)) ↔ (x ∈ t.Slots.take i) := by
       rw [hm x]
       constructor
       ·rintro (h | h)
        ·exact h
        ·rw [hb] at h; exact absurd h hxn
       ·exact .inl
      simp [this]
    ·have hcnt := hI t.Slots[i] hb
     simp only [hb, decide_false, cond_false, if_false]
     rw [aEu]
     simp only [if_true, hcnt]
     by_cases hd : t.Slots[i] ∈ t.Slots.take i
     ·have : w64 2 = 2 := by decide +kernel
      simp [hd, this]
     ·have h1 : w64 (0 + 1) = 1 := by decide +kernel
      simp only [hd, if_false, h1, sC, Option.bind_some, show decide ((1 : Int) < 1) = false by decide, cond_false, decide_false, Bool.not_false, Bool.true_and]
      cases hwi : wi t.Slots[i] 0 999 with
      | false => simp
      | true =>
       simp only [Bool.not_true, cond_false, Bool.true_and]
       refine ih _ fun x hxn => ?_
       rw [aEu, hI x hxn]
       by_cases hxe : x = t.Slots[i]
       ·simp [hxe, hm]
       ·simp [hxe, hm]
   ·intro k m _
    simp [gZ, tI]
  ·have hl' : decide ((t.Slots.length : Int) = ((2 ^ t.Rounds.toNat : Nat) : Int)) = false := decide_eq_false (by omega)
   rw [hl']
   simp [nX, hl]
theorem aVa (t : aN) : jE t = some (nX t && (List.range t.Slots.length).all (aCo t.Slots)) := by
 unfold jE
 rw [sP]
 cases hw : wi t.Rounds 1 5 with
 | false => simp [nX, hw]
 | true =>
  have hr := iX.1 hw
  have hu : IntKind.u64.wrap t.Rounds = t.Rounds := sU (by omega) (by omega)
  have hch : chk (decide (0 ≤ t.Rounds)) = some () := by unfold chk; rw [decide_eq_true (by omega)]; rfl
  simp only [Option.bind_some, Bool.not_true, cond_false, hu, hch, aTj hw]
  by_cases hl : t.Slots.length = 2 ^ t.Rounds.toNat
  ·have hsh : nX t = true := by simp [nX, hw, hl]
   obtain ⟨h32, hev⟩ := aDc hsh
   have hl' : decide ((t.Slots.length : Int) = ((2 ^ t.Rounds.toNat : Nat) : Int)) = true := decide_eq_true (by rw [hl])
   rw [hl', hsh]
   simp only [Bool.not_true, cond_false, Bool.true_and]
   have main := aCt (fun k i => fR t k i) t.Slots.length (aCo t.Slots) (some false) (some true) ?_ ?_ BIG (cX (by omega))
   ·rw [main]
    cases (List.range t.Slots.length).all (aCo t.Slots) <;> rfl
   ·intro k i hi
    have hin : ∀ ag : Int → Option Bool, fS ag i t BIG 0 = bif (List.range i).all fun k => !(decide (t.Slots.getD k 0 = t.Slots.getD i 0) && !decide (t.Slots.getD i 0 = -1)) then ag ((i + 1 : Nat) : Int) else some false := by
     intro ag
     refine aCt (fun k j => fS ag i t k j) i _ (some false) (ag ((i + 1 : Nat) : Int)) ?_ ?_ BIG (cX (by omega))
     ·intro k j hj
      have hj' : j < t.Slots.length := by omega
      simp only [fS, Int.ofNat_lt, hj, decide_true, cond_true, cC hj', cC hi, Option.bind_some, dQ, cI (show j < 9223372036854775807 by omega), bT hj', bT hi]
      cases (decide (t.Slots[j] = t.Slots[i]) && !decide (t.Slots[i] = -1)) <;> simp
     ·intro k
      simp [fS, qQ, qP, cI (show i < 9223372036854775807 by omega)]
    have htm : decide (((i : Nat) : Int).tmod 2 = 1) = decide (i % 2 = 1) := by
     have : ((i : Nat) : Int).tmod 2 = ((i % 2 : Nat) : Int) := by
      rw [Int.tmod_eq_emod_of_nonneg (by omega)]; omega
     rw [this]
     simp
     omega
    simp only [fR, Int.ofNat_lt, hi, decide_true, cond_true, cC hi, Option.bind_some, sP, htm, dQ, hin, aCo, bT hi]
    cases hwi : wi t.Slots[i] (-1) 999 with
    | false => simp
    | true =>
     by_cases ho : i % 2 = 1
     ·have hp : i - 1 < t.Slots.length := by omega
      have hwp : w64 ((i : Int) - 1) = ((i - 1 : Nat) : Int) := uK (by omega) (by omega)
      simp only [ho, decide_true, Bool.true_and, hwp, cC hp, Option.bind_some, dQ, Bool.not_true, cond_false, bT hp]
      cases (decide (t.Slots[i] = -1) && decide (t.Slots[i - 1] = -1)) <;> simp
     ·simp [ho]
   ·intro k
    simp [fR, qO]
  ·have hl' : decide ((t.Slots.length : Int) = ((2 ^ t.Rounds.toNat : Nat) : Int)) = false := decide_eq_false (by omega)
   rw [hl']
   simp [nX, hl]
theorem uW (l : List Int) (hl : l.length ≤ 9223372036854775807) (v : Int) : fZ l v = some (match l.findIdx? (fun x => decide (v = x)) with | some i => (i : Int) | none => -1) := by
 unfold fZ
 rw [fP (S := Unit) (fun k i _ => iF l v l.length k i) l.length (fun i _ => some (match (l.drop i).findIdx? (fun x => decide (v = x)) with | some j => ((i + j : Nat) : Int) | none => -1)) (fun _ _ => True) ?_ ?_ BIG () (cX hl) trivial]
 ·simp
 ·intro k i _ hi _ ih
  have := ih () trivial
  simp only [iF, cC hi, Option.bind_some, cI (show i < 9223372036854775807 by omega), Int.ofNat_lt, hi, decide_true, cond_true, this]
  rw [List.drop_eq_getElem_cons hi, List.findIdx?_cons]
  by_cases h : v = l[i]
  ·simp [h]
  ·simp only [h, decide_false, cond_false, Bool.false_eq_true, if_false]
   cases List.findIdx? (fun x => decide (v = x)) (List.drop (i + 1) l) with
   | none => rfl
   | some j => simp; omega
 ·intro k _ _
  simp [iF, rU]
theorem uV (l : List Int) (hl : l.length ≤ 9223372036854775807) (v : Int) : fJ l v = some (decide (v ∈ l)) := by
 unfold fJ
 rw [uW l hl v]
 cases h : List.findIdx? (fun x => decide (v = x)) l with
 | none =>
  simp at h
  have : v ∉ l := fun hm => h v hm rfl
  simp [this]
 | some j =>
  have : v ∈ l := by
   obtain ⟨h1, h2, _⟩ := List.findIdx?_eq_some_iff_getElem.1 h
   simp at h2
   rw [h2]; exact List.getElem_mem h1
  simp [this]
theorem qG (l : List aF) (hl : l.length ≤ 9223372036854775807) (f : aF → Option Bool) (g : aF → Bool) (hf : ∀ x ∈ l, f x = some (g x)) : gI l f = some (l.any g) := by
 have key : iJ l f = some (match l.findIdx? g with | some i => (i : Int) | none => -1) := by
  unfold iJ
  rw [fP (S := Unit) (fun k i _ => eN l f l.length k i) l.length (fun i _ => some (match (l.drop i).findIdx? g with | some j => ((i + j : Nat) : Int) | none => -1)) (fun _ _ => True) ?_ ?_ BIG () (cX hl) trivial]
  ·simp
  ·intro k i _ hi _ ih
   have := ih () trivial
   simp only [eN, cC hi, Option.bind_some, cI (show i < 9223372036854775807 by omega), Int.ofNat_lt, hi, decide_true, cond_true, this, hf _ (List.getElem_mem hi)]
   rw [List.drop_eq_getElem_cons hi, List.findIdx?_cons]
   cases h : g l[i] with
   | true => simp
   | false =>
    simp only [cond_false, Bool.false_eq_true, if_false]
    cases List.findIdx? g (List.drop (i + 1) l) with
    | none => rfl
    | some j => simp; omega
  ·intro k _ _
   simp [eN, lT]
 unfold gI
 rw [key]
 cases h : List.findIdx? g l with
 | none =>
  simp at h
  have : l.any g = false := by simpa using h
  simp [this]
 | some j =>
  have : l.any g = true := by
   obtain ⟨h1, h2, _⟩ := List.findIdx?_eq_some_iff_getElem.1 h
   simp only [List.any_eq_true]
   exact ⟨_, List.getElem_mem h1, h2⟩
  simp [this]
end Go.Am
end
section
namespace Go.Am
structure yO (S : List Int) : Prop where
 rng : ∀ i (h : i < S.length), -1 ≤ S[i] ∧ S[i] ≤ 999
 bye : ∀ j (h : 2 * j + 1 < S.length), S[2 * j] = -1 → S[2 * j + 1] ≠ -1
 dup : ∀ i (h : i < S.length) k (hk : k < i), S[k] = S[i] → S[i] = -1
theorem aMo {S : List Int} (hev : S.length % 2 = 0) : (List.range S.length).all (aCn S) = true ↔ yO S := by
 rw [uU]
 constructor
 ·intro h
  have hd : ∀ i (hi : i < S.length), (if S[i] = -1 then !decide (S.getD (if i % 2 = 0 then i + 1 else i - 1) 0 = -1) else !decide (S[i] ∈ S.take i) && wi S[i] 0 999) = true := by
   intro i hi
   have := h i hi
   simpa only [aCn, bT hi] using this
  refine ⟨fun i hi => ?_, fun j hj hb => ?_, fun i hi k hk he => ?_⟩
  ·have := hd i hi
   split at this
   ·rename_i hb; omega
   ·rw [Bool.and_eq_true, iX] at this; omega
  ·have := hd (2 * j) (by omega)
   rw [if_pos hb, if_pos (by omega), bT hj] at this
   simpa using this
  ·have := hd i hi
   by_cases hb : S[i] = -1
   ·exact hb
   ·rw [if_neg hb, Bool.and_eq_true] at this
    have hm : S[i] ∈ S.take i := by
     rw [← he, List.mem_take_iff_getElem]
     exact ⟨k, by omega, rfl⟩
    simp [hm] at this
 ·intro h i hi
  simp only [aCn, bT hi]
  by_cases hb : S[i] = -1
  ·rw [if_pos hb]
   by_cases he : i % 2 = 0
   ·rw [if_pos he]
    obtain ⟨j, rfl⟩ : ∃ j, i = 2 * j := ⟨i / 2, by omega⟩
    rw [bT (by omega)]
    have := h.bye j (by omega) hb
    simpa using this
   ·rw [if_neg he]
    obtain ⟨j, rfl⟩ : ∃ j, i = 2 * j + 1 := ⟨i / 2, by omega⟩
    have e : 2 * j + 1 - 1 = 2 * j := by omega
    rw [e, bT (by omega)]
    have := h.bye j hi
    simp only [Bool.not_eq_true', decide_eq_false_iff_not]
    intro hc
    exact this hc hb
  ·rw [if_neg hb, Bool.and_eq_true, iX]
   refine ⟨?_, ?_⟩
   ·simp only [Bool.not_eq_true', decide_eq_false_iff_not]
    intro hm
    rw [List.mem_take_iff_getElem] at hm
    obtain ⟨k, hk, he⟩ := hm
    exact hb (h.dup i hi k (by omega) he)
   ·have := h.rng i hi; omega
theorem aUg {S : List Int} (hev : S.length % 2 = 0) : (List.range S.length).all (aCo S) = true ↔ yO S := by
 rw [uU]
 constructor
 ·intro h
  have hd : ∀ i (hi : i < S.length), (wi S[i] (-1) 999 = true ∧ ¬ (i % 2 = 1 ∧ S[i] = -1 ∧ S.getD (i - 1) 0 = -1)) ∧ ∀ k, k < i → ¬ (S.getD k 0 = S[i] ∧ S[i] ≠ -1) := by
   intro i hi
   have := h i hi
   simp only [aCo, bT hi, Bool.and_eq_true, uU, Bool.not_eq_true', Bool.and_eq_false_iff, decide_eq_false_iff_not, Bool.not_eq_false', decide_eq_true_eq] at this
   refine ⟨⟨this.1.1, fun ⟨a, b, c⟩ => ?_⟩, fun k hk ⟨a, b⟩ => ?_⟩
   ·rcases this.1.2 with (h1 | h1) | h1
    ·exact h1 a
    ·exact h1 b
    ·exact h1 c
   ·rcases this.2 k hk with h1 | h1
    ·exact h1 a
    ·exact b h1
  refine ⟨fun i hi => iX.1 (hd i hi).1.1, fun j hj hb hc => ?_, fun i hi k hk he => ?_⟩
  ·refine (hd (2 * j + 1) hj).1.2 ⟨by omega, hc, ?_⟩
   have e : 2 * j + 1 - 1 = 2 * j := by omega
   rw [e, bT (by omega)]
   exact hb
  ·have := (hd i hi).2 k hk
   rw [bT (by omega)] at this
   by_cases hb : S[i] = -1
   ·exact hb
   ·exact absurd ⟨he, hb⟩ this
 ·intro h i hi
  simp only [aCo, bT hi, Bool.and_eq_true, uU, Bool.not_eq_true', Bool.and_eq_false_iff, decide_eq_false_iff_not, Bool.not_eq_false', decide_eq_true_eq]
  refine ⟨⟨iX.2 (h.rng i hi), ?_⟩, fun k hk => ?_⟩
  ·by_cases ho : i % 2 = 1
   ·obtain ⟨j, rfl⟩ : ∃ j, i = 2 * j + 1 := ⟨i / 2, by omega⟩
    have e : 2 * j + 1 - 1 = 2 * j := by omega
    rw [e, bT (by omega)]
    by_cases hc : S[2 * j] = -1
    ·exact .inl (.inr (h.bye j hi hc))
    ·exact .inr hc
   ·exact .inl (.inl ho)
  ·rw [bT (by omega)]
   by_cases he : S[k] = S[i]
   ·exact .inr (h.dup i hi k hk he)
   ·exact .inl he
def sB (t : aN) : Bool := nX t && (List.range t.Slots.length).all (aCn t.Slots)
theorem aLb (t : aN) : nI t = some (sB t) := aUz t
theorem aDv (t : aN) : jE t = some (sB t) := by
 rw [aVa, sB]
 cases hs : nX t with
 | false => rfl
 | true =>
  obtain ⟨_, hev⟩ := aDc hs
  congr 1
  rw [Bool.true_and, Bool.true_and, Bool.eq_iff_iff, aMo hev, aUg hev]
theorem oN {t : aN} (h : sB t = true) : TreeOK t := by
 rw [sB, Bool.and_eq_true] at h
 obtain ⟨hs, ha⟩ := h
 obtain ⟨_, hev⟩ := aDc hs
 obtain ⟨h1, h2, h3⟩ := (aMo hev).1 ha
 simp only [nX, Bool.and_eq_true, iX, decide_eq_true_eq] at hs
 exact ⟨hs.1.1, hs.1.2, hs.2, h1, h2, h3⟩
def bV (t : aN) (r : Int) : Nat := 2 ^ (t.Rounds.toNat - 1 - r.toNat)
def gB (t : aN) (r p : Int) : Bool := wi r 0 (t.Rounds - 1) && wi p 0 (bV t r - 1)
def fK (t : aN) (s : aF) : Bool :=
 wi s.Player 0 999 && (if s.Kind = 5 then decide (s.Round = 0) && wi s.Place 0 (t.Slots.length - 1) && wi s.Old 0 999
  else wi s.Kind 1 4 && gB t s.Round s.Place && decide (s.Old = 0) && (decide (0 < s.Round) || !decide (t.Slots.getD (2 * s.Place).toNat 0 = -1) && !decide (t.Slots.getD (2 * s.Place + 1).toNat 0 = -1)))
theorem aXj : ∀ R : Fin 6, ∀ r : Fin 6, r.val < R.val → ((2 ^ R.val : Nat) : Int).fdiv (2 ^ (min (r.val + 1) 64)) = ((2 ^ (R.val - 1 - r.val) : Nat) : Int) := by decide +kernel
theorem aRf : ∀ n : Fin 6, w64 (1 * 2 ^ (min n.val 64)) = ((2 ^ n.val : Nat) : Int) := by decide +kernel
section
variable {t : aN} (ht : TreeOK t)
include ht
theorem aWx : (t.Slots.length : Int) = ((2 ^ t.Rounds.toNat : Nat) : Int) := by rw [ht.len]
theorem aQb {r : Int} (h0 : 0 ≤ r) (h1 : r < t.Rounds) : (t.Slots.length : Int).fdiv (2 ^ (min (w64 (r + 1)).toNat 64)) = ((bV t r : Nat) : Int) := by
 have h5 := ht.r5
 have hw : w64 (r + 1) = r + 1 := dJ (by omega) (by omega)
 have := aXj ⟨t.Rounds.toNat, by omega⟩ ⟨r.toNat, by omega⟩ (by simp; omega)
 rw [hw, aWx ht]
 have e : (r + 1).toNat = r.toNat + 1 := by omega
 rw [e]
 exact this
theorem kF {r : Int} : bV t r ≤ 16 := by
 have h5 := ht.r5
 have : t.Rounds.toNat - 1 - r.toNat ≤ 4 := by omega
 exact Nat.pow_le_pow_right (by omega) this
omit ht in
theorem yF {t : aN} {r : Int} : 1 ≤ bV t r := Nat.one_le_two_pow
theorem aWf (r p : Int) : lM ⟨r, p⟩ t = some (gB t r p) := by
 have h1 := ht.r1
 have h5 := ht.r5
 have hw : w64 (t.Rounds - 1) = t.Rounds - 1 := dJ (by omega) (by omega)
 unfold lM
 simp only [sC, hw, Option.bind_some, gB]
 cases hr : wi r 0 (t.Rounds - 1) with
 | false => simp
 | true =>
  have hr' := iX.1 hr
  have hch : chk (decide (0 ≤ w64 (r + 1))) = some () := by
   rw [dJ (by omega) (by omega)]
   unfold chk; rw [decide_eq_true (by omega)]; rfl
  have hpl := kF ht (r := r)
  have hpp := yF (t := t) (r := r)
  have hw2 : w64 ((bV t r : Int) - 1) = (bV t r : Int) - 1 := dJ (by omega) (by omega)
  simp only [hch, Option.bind_some, cond_true, aQb ht hr'.1 (by omega), hw2, Bool.true_and]
theorem wQ {r : Int} (h0 : 0 ≤ r) (h1 : r < t.Rounds) : fL t r = some ((bV t r : Nat) : Int) := by
 have h5 := ht.r5
 have hw : w64 (t.Rounds - 1) = t.Rounds - 1 := dJ (by omega) (by omega)
 have hw2 : w64 (t.Rounds - 1 - r) = t.Rounds - 1 - r := dJ (by omega) (by omega)
 have hu : IntKind.u64.wrap (t.Rounds - 1 - r) = t.Rounds - 1 - r := sU (by omega) (by omega)
 have hch : chk (decide (0 ≤ t.Rounds - 1 - r)) = some () := by unfold chk; rw [decide_eq_true (by omega)]; rfl
 unfold fL
 simp only [hw, hw2, hu, hch, Option.bind_some]
 have := aRf ⟨(t.Rounds - 1 - r).toNat, by omega⟩
 simp only at this
 rw [this]
 unfold bV
 have e : (t.Rounds - 1 - r).toNat = t.Rounds.toNat - 1 - r.toNat := by omega
 rw [e]
theorem aHz (r p : Int) : oS t r p = some (gB t r p) := by
 have h1 := ht.r1
 have h5 := ht.r5
 have hw : w64 (t.Rounds - 1) = t.Rounds - 1 := dJ (by omega) (by omega)
 unfold oS
 simp only [sP, hw, Option.bind_some, gB]
 cases hr : wi r 0 (t.Rounds - 1) with
 | false => simp
 | true =>
  have hr' := iX.1 hr
  have hpl := kF ht (r := r)
  have hpp := yF (t := t) (r := r)
  have hw2 : w64 ((bV t r : Int) - 1) = (bV t r : Int) - 1 := dJ (by omega) (by omega)
  simp only [cond_true, wQ ht hr'.1 (by omega), Option.bind_some, hw2, Bool.true_and]
theorem aGo {p : Int} (h : gB t 0 p = true) : 0 ≤ p ∧ (2 * p + 1).toNat < t.Slots.length ∧ p ≤ 15 := by
 simp only [gB, Bool.and_eq_true, iX] at h
 have hl := ht.len
 have h1 := ht.r1
 have hpl := kF ht (r := 0)
 have e : 2 ^ t.Rounds.toNat = 2 * bV t 0 := by
  unfold bV
  have : t.Rounds.toNat = (t.Rounds.toNat - 1 - (0 : Int).toNat) + 1 := by simp; omega
  rw [this, Nat.pow_succ]
  simp
  omega
 omega
theorem aEl (s : aF) : pO t s = some (fK t s) := by
 have h32 := ht.len32
 have hw : w64 ((t.Slots.length : Int) - 1) = (t.Slots.length : Int) - 1 := dJ (by omega) (by omega)
 unfold pO fK
 simp only [sC, Option.bind_some, hw]
 cases hp : wi s.Player 0 999 with
 | false => simp
 | true =>
  by_cases hk : s.Kind = 5
  ·simp only [hk, decide_true, cond_true, if_true, Bool.not_true, cond_false, Bool.true_and, dQ, Option.bind_some]
  ·simp only [hk, decide_false, cond_false, if_false, Bool.not_true, Bool.true_and, oK, Option.bind_some, aWf ht]
   cases wi s.Kind 1 4 with
   | false => simp
   | true =>
    by_cases ho : s.Old = 0
    ·simp only [ho, decide_true, Bool.not_true, Bool.or_false, cond_false, Option.bind_some, Bool.true_and, Bool.and_true]
     cases hm : gB t s.Round s.Place with
     | false => simp
     | true =>
      simp only [Bool.not_true, cond_false, Bool.true_and]
      by_cases hr : 0 < s.Round
      ·simp [hr]
      ·have hm0 : s.Round = 0 := by
        simp only [gB, Bool.and_eq_true, iX] at hm
        omega
       rw [hm0] at hm
       obtain ⟨p0, p1, p2⟩ := aGo ht hm
       have e1 : w64 (2 * s.Place) = 2 * s.Place := dJ (by omega) (by omega)
       have e2 : w64 (2 * s.Place + 2) = 2 * s.Place + 2 := dJ (by omega) (by omega)
       have hsub : sub t.Slots (2 * s.Place) (2 * s.Place + 2) = some [t.Slots.getD (2 * s.Place).toNat 0, t.Slots.getD (2 * s.Place + 1).toNat 0] := by
        obtain ⟨q, hq⟩ : ∃ q : Nat, s.Place = q := ⟨s.Place.toNat, by omega⟩
        rw [hq] at p1 ⊢
        have a1 : 2 * q + 1 < t.Slots.length := by omega
        have b1 : (2 * (q : Int)).toNat = 2 * q := by omega
        have b2 : (2 * (q : Int) + 1).toNat = 2 * q + 1 := by omega
        have b3 : (2 * (q : Int) + 2).toNat = 2 * q + 2 := by omega
        rw [b1, b2, bT (by omega), bT a1]
        unfold sub
        rw [if_pos ⟨by omega, by omega, by omega⟩, b1, b3]
        congr 1
        apply List.ext_getElem
        ·simp; omega
        ·intro i h1 h2
         simp at h2
         have : i = 0 ∨ i = 1 := by omega
         rcases this with rfl | rfl <;> simp
       simp only [hr, decide_false, cond_false, Bool.false_or, e1, e2, hsub, Option.bind_some]
       have hc : ∀ a b : Int, fJ [a, b] (-1) = some (decide (a = -1) || decide (b = -1)) := by
        intro a b
        rw [uV [a, b] (show (2 : Nat) ≤ 9223372036854775807 by omega)]
        congr 1
        rw [Bool.eq_iff_iff]
        simp only [decide_eq_true_eq, List.mem_cons, List.not_mem_nil, or_false, Bool.or_eq_true]
        exact ⟨fun h => h.imp Eq.symm Eq.symm, fun h => h.imp Eq.symm Eq.symm⟩
       rw [hc]
       cases decide (t.Slots.getD (2 * s.Place).toNat 0 = -1) <;> cases decide (t.Slots.getD (2 * s.Place + 1).toNat 0 = -1) <;> rfl
    ·simp [ho]
theorem aQu (s : aF) : tL t s = some (fK t s) := by
 have h32 := ht.len32
 have hw : w64 ((t.Slots.length : Int) - 1) = (t.Slots.length : Int) - 1 := dJ (by omega) (by omega)
 unfold tL fK
 simp only [sP, Option.bind_some, hw]
 cases hp : wi s.Player 0 999 with
 | false => simp
 | true =>
  by_cases hk : s.Kind = 5
  ·simp only [hk, decide_true, cond_true, if_true, Bool.not_true, cond_false, Bool.true_and, dQ, Option.bind_some]
  ·simp only [hk, decide_false, cond_false, if_false, Bool.not_true, Bool.true_and, oK, Option.bind_some, aHz ht]
   cases wi s.Kind 1 4 with
   | false => simp
   | true =>
    cases hm : gB t s.Round s.Place with
    | false => simp
    | true =>
     by_cases ho : s.Old = 0
     ·simp only [ho, decide_true, Bool.not_true, Bool.or_false, cond_false, Option.bind_some, Bool.true_and, Bool.and_true]
      by_cases hr : 0 < s.Round
      ·simp [hr]
      ·have hm0 : s.Round = 0 := by
        simp only [gB, Bool.and_eq_true, iX] at hm
        omega
       rw [hm0] at hm
       obtain ⟨p0, p1, p2⟩ := aGo ht hm
       have e1 : w64 (2 * s.Place) = 2 * s.Place := dJ (by omega) (by omega)
       have e2 : w64 (2 * s.Place + 1) = 2 * s.Place + 1 := dJ (by omega) (by omega)
       have i1 : idx t.Slots (2 * s.Place) = some (t.Slots.getD (2 * s.Place).toNat 0) := by
        rw [aKb (by omega) (by omega), bT (by omega)]
       have i2 : idx t.Slots (2 * s.Place + 1) = some (t.Slots.getD (2 * s.Place + 1).toNat 0) := by
        rw [aKb (by omega) p1, bT p1]
       simp only [hr, decide_false, cond_false, Bool.false_or, e1, e2, i1, i2, Option.bind_some, dQ]
     ·simp [ho]
end
end Go.Am
end
section
namespace Go.Am
def nV (out : List aF) (x : aF) : List aF := if x ∈ out then out else out ++ [x]
def cD (l : List aF) : List aF := l.foldl nV []
theorem aEz (l : List aF) : ∀ out, out.Nodup → (l.foldl nV out).Nodup ∧ (∀ x, x ∈ l.foldl nV out ↔ x ∈ out ∨ x ∈ l) ∧ (l.foldl nV out).length ≤ out.length + l.length := by
 induction l with
 | nil => intro out h; exact ⟨h, by simp, by simp⟩
 | cons a l ih =>
  intro out h
  have hs : (nV out a).Nodup ∧ (∀ x, x ∈ nV out a ↔ x ∈ out ∨ x = a) ∧ (nV out a).length ≤ out.length + 1 := by
   unfold nV
   split
   ·rename_i hm
    exact ⟨h, fun x => ⟨.inl, fun h => h.elim id fun e => e ▸ hm⟩, by omega⟩
   ·rename_i hm
    refine ⟨List.nodup_append.2 ⟨h, by simp, fun x hx y hy => ?_⟩, by simp, by simp⟩
    simp at hy; subst hy; exact fun e => hm (e ▸ hx)
  obtain ⟨h1, h2, h3⟩ := ih _ hs.1
  refine ⟨h1, fun x => ?_, ?_⟩
  ·rw [List.foldl_cons, h2, hs.2.1, List.mem_cons, or_assoc]
  ·rw [List.foldl_cons]; simp only [List.length_cons]; omega
theorem aAx (l : List aF) : (cD l).Nodup := (aEz l [] List.nodup_nil).1
theorem nG (l : List aF) (x : aF) : x ∈ cD l ↔ x ∈ l := by
 have := (aEz l [] List.nodup_nil).2.1 x
 simpa [cD] using this
theorem xC (l : List aF) : (cD l).length ≤ l.length := by
 have := (aEz l [] List.nodup_nil).2.2
 simpa [cD] using this
theorem aPv (l : List aF) (hl : l.length ≤ 1000) : rZ l = some (cD l) := by
 unfold rZ
 have main := fP (S := List aF) (fun k i out => fU l k i out) l.length (fun i out => some ((l.drop i).foldl nV out)) (fun i out => out.length ≤ i) ?_ ?_ BIG [] (cX (by omega)) (by simp)
 ·simpa [cD] using main
 ·intro k i out hi hI ih
  have hin : kE (fU l k) l i out BIG false 0 = oW (fU l k) l i (decide (l[i] ∈ out)) out := by
   have h := fP (S := Bool) (fun q j tw => kE (fU l k) l i out q tw j) out.length (fun j tw => oW (fU l k) l i (tw || decide (l[i] ∈ out.drop j)) out) (fun _ _ => True) ?_ ?_ BIG false (cX (by omega)) trivial
   ·simpa using h
   ·intro q j tw hj _ ih2
    have e : out.drop j = out[j] :: out.drop (j + 1) := List.drop_eq_getElem_cons hj
    simp only [kE, Int.ofNat_lt, hj, decide_true, cond_true, cC hj, cC hi, Option.bind_some, oK, cI (show j < 9223372036854775807 by omega), ih2 _ trivial]
    congr 1
    rw [e]
    by_cases h1 : out[j] = l[i]
    ·simp [h1]
    ·rw [← e]
     have : l[i] ∈ out.drop j ↔ l[i] ∈ out.drop (j + 1) := by
      rw [e, List.mem_cons]
      exact ⟨fun h => h.resolve_left fun e => h1 e.symm, .inr⟩
     simp [h1, this]
   ·intro q tw _
    simp [kE]
  have e : l.drop i = l[i] :: l.drop (i + 1) := List.drop_eq_getElem_cons hi
  simp only [fU, Int.ofNat_lt, hi, decide_true, cond_true, hin]
  unfold oW
  rw [e, List.foldl_cons]
  by_cases hm : l[i] ∈ out
  ·simp only [hm, decide_true, Bool.not_true, cond_false, oV, cI (show i < 9223372036854775807 by omega)]
   rw [ih out (by omega), nV, if_pos hm]
  ·simp only [hm, decide_false, Bool.not_false, cond_true, oV, cI (show i < 9223372036854775807 by omega), cC hi, Option.bind_some]
   rw [fQ (by simp; omega), Option.bind_some, ih _ (by simp; omega), nV, if_neg hm]
 ·intro k out _
  simp [fU, wY]
def isL (s : aF) : Bool := decide (s.Kind = 5)
def dL (l : List aF) : List aF := (cD l).filter isL
structure LA (pre : List aF) (lucky : List (aF × Int)) (about : List (aD × aF)) : Prop where
 lm : ∀ s, s ∈ lucky.map (·.1) ↔ s ∈ pre ∧ s.Kind = 5
 ln : (lucky.map (·.1)).Nodup
 am : ∀ m s, (m, s) ∈ about ↔ (s ∈ pre ∧ s.Kind ≠ 5 ∧ m = ⟨s.Round, s.Place⟩)
 an : (about.map (·.1)).Nodup
theorem aEv {α β : Type} [DecidableEq α] (a : α) (v : β) : ∀ l : List (α × β), (fO a v l).map (·.1) = if a ∈ l.map (·.1) then l.map (·.1) else l.map (·.1) ++ [a]
 | [] => by simp [fO]
 | (k, u) :: l => by
  by_cases h : a = k
  ·subst h; simp [fO]
  ·have := aEv a v l
   simp only [fO, h, decide_false, cond_false, List.map_cons, this, List.mem_cons, false_or]
   split <;> simp
theorem zM {α β : Type} [DecidableEq α] (a : α) : ∀ l : List (α × β), cO a l = decide (a ∈ l.map (·.1))
 | [] => by simp [cO]
 | (k, u) :: l => by
  simp only [cO, zM a l, List.map_cons, List.mem_cons]
  by_cases h : a = k <;> simp [h]
theorem aHq {α β : Type} [DecidableEq α] {a : α} {v z : β} : ∀ {l : List (α × β)}, (l.map (·.1)).Nodup → (a, v) ∈ l → cK a z l = v
 | (k, u) :: l, hn, hm => by
  rw [List.map_cons, List.nodup_cons] at hn
  rcases List.mem_cons.1 hm with h | h
  ·cases h; simp [cK]
  ·have hne : a ≠ k := fun e => hn.1 (e ▸ List.mem_map.2 ⟨_, h, rfl⟩)
   simp only [cK, hne, decide_false, cond_false]
   exact aHq hn.2 h
theorem aLd {α β : Type} [DecidableEq α] {a : α} {v : β} {l : List (α × β)} (h : a ∉ l.map (·.1)) : fO a v l = l ++ [(a, v)] :=
 aHr a v l (by rw [zM]; simpa using h)
theorem aEw {α β : Type} [DecidableEq α] {a : α} {v : β} : ∀ {l : List (α × β)}, (l.map (·.1)).Nodup → (a, v) ∈ l → fO a v l = l
 | (k, u) :: l, hn, hm => by
  rw [List.map_cons, List.nodup_cons] at hn
  rcases List.mem_cons.1 hm with h | h
  ·cases h; simp [fO]
  ·have hne : a ≠ k := fun e => hn.1 (e ▸ List.mem_map.2 ⟨_, h, rfl⟩)
   simp only [fO, hne, decide_false, cond_false]
   rw [aEw hn.2 h]
def aFr (l : List aF) : Prop := ∀ x ∈ l, ∀ y ∈ l, x.Kind ≠ 5 → y.Kind ≠ 5 → x.Round = y.Round → x.Place = y.Place → x = y
theorem aQn {l : List aF} (hl : l.length ≤ 1000) {Q : (Option bA × Bool) → Prop} {pl : List Int} {won : List (aD × Int)} {t : aN}
  (hbad : ¬ aFr l → Q (none, false)) (hgood : aFr l → ∀ lucky about, LA l lucky about → qH Q pl won t lucky about) : gR Q l l.length pl won t BIG 0 [] [] := by
 refine qB (S := List (aF × Int) × List (aD × aF)) (fun k i s => gR Q l l.length pl won t k i s.1 s.2) l.length (fun p => p) (fun i s => LA (l.take i) s.1 s.2 ∧ aFr (l.take i)) ?_ ?_ BIG 0 ([], []) (cX (by omega)) ?_
 ·rintro k i ⟨lucky, about⟩ hi ⟨⟨h1, h2, h3, h4⟩, hno⟩ ih
  have ht : ∀ x, x ∈ l.take (i + 1) ↔ x ∈ l.take i ∨ x = l[i] := fun x => by
   rw [List.take_succ_eq_append_getElem hi, List.mem_append, List.mem_singleton]
  have hmi : l[i] ∈ l.take (i + 1) := (ht _).2 (.inr rfl)
  simp only [gR, Int.ofNat_lt, hi, decide_true, cond_true, cC hi, cI (show i < 9223372036854775807 by omega)]
  refine ⟨_, rfl, ?_⟩
  by_cases hk : l[i].Kind = 5
  ·simp only [hk, decide_true, cond_true]
   refine ih (_, _) ⟨⟨fun s => ?_, ?_, fun m s => ?_, h4⟩, fun x hx y hy kx ky => ?_⟩
   ·rw [aEv]
    split
    ·rename_i hm
     rw [h1, ht]
     constructor
     ·rintro ⟨a, b⟩; exact ⟨.inl a, b⟩
     ·rintro ⟨a | a, b⟩
      ·exact ⟨a, b⟩
      ·exact (h1 s).1 (a ▸ hm)
    ·rw [List.mem_append, List.mem_singleton, h1, ht]
     constructor
     ·rintro (⟨a, b⟩ | rfl)
      ·exact ⟨.inl a, b⟩
      ·exact ⟨.inr rfl, hk⟩
     ·rintro ⟨a | a, b⟩
      ·exact .inl ⟨a, b⟩
      ·exact .inr a
   ·rw [aEv]
    split
    ·exact h2
    ·rename_i hm
     exact List.nodup_append.2 ⟨h2, by simp, fun x hx y hy => by simp at hy; subst hy; exact fun e => hm (e ▸ hx)⟩
   ·rw [h3, ht]
    constructor
    ·rintro ⟨a, b⟩; exact ⟨.inl a, b⟩
    ·rintro ⟨a | a, b, c⟩
     ·exact ⟨a, b, c⟩
     ·exact absurd (a ▸ hk) b
   ·have hx' : x ∈ l.take i := ((ht x).1 hx).resolve_right fun e => kx (e ▸ hk)
    have hy' : y ∈ l.take i := ((ht y).1 hy).resolve_right fun e => ky (e ▸ hk)
    exact hno x hx' y hy' kx ky
  ·simp only [hk, decide_false, cond_false]
   by_cases hm : (⟨l[i].Round, l[i].Place⟩ : aD) ∈ about.map (·.1)
   ·have hhas : cO (⟨l[i].Round, l[i].Place⟩ : aD) about = true := by rw [zM]; simpa using hm
    obtain ⟨⟨m0, y⟩, hy, hmy⟩ := List.mem_map.1 hm
    simp only at hmy
    subst hmy
    have hget := aHq (z := (⟨0, 0, 0, 0, 0⟩ : aF)) h4 hy
    obtain ⟨y1, y2, y3⟩ := (h3 _ _).1 hy
    simp only [hhas, cond_true, hget]
    refine ⟨_, rfl, ?_⟩
    by_cases he : y = l[i]
    ·simp only [he, decide_true, Bool.not_true, cond_false]
     rw [aEw h4 (by rw [he] at hy; exact hy)]
     have hin : ∀ x, x ∈ l.take (i + 1) ↔ x ∈ l.take i := fun x => by
      rw [ht]
      exact ⟨fun h => h.elim id fun e => by rw [e, ← he]; exact y1, .inl⟩
     exact ih (_, _) ⟨⟨fun s => by rw [h1, hin], h2, fun m s => by rw [h3, hin], h4⟩, fun x hx y hy => hno x ((hin x).1 hx) y ((hin y).1 hy)⟩
    ·simp only [he, decide_false, Bool.not_false, cond_true]
     refine hbad fun hN => he ?_
     simp only [aD.mk.injEq] at y3
     exact hN y (List.mem_of_mem_take y1) l[i] (List.getElem_mem hi) y2 hk y3.1.symm y3.2.symm
   ·have hhas : cO (⟨l[i].Round, l[i].Place⟩ : aD) about = false := by rw [zM]; simpa using hm
    simp only [hhas, cond_false]
    refine ⟨_, rfl, ?_⟩
    simp only [cond_false]
    rw [aLd hm]
    refine ih (_, _) ⟨⟨fun s => ?_, h2, fun m s => ?_, ?_⟩, fun x hx y hy kx ky er ep => ?_⟩
    ·rw [h1, ht]
     constructor
     ·rintro ⟨a, b⟩; exact ⟨.inl a, b⟩
     ·rintro ⟨a | a, b⟩
      ·exact ⟨a, b⟩
      ·exact absurd (a ▸ b) hk
    ·rw [List.mem_append, List.mem_singleton, h3, ht]
     constructor
     ·rintro (⟨a, b, c⟩ | h)
      ·exact ⟨.inl a, b, c⟩
      ·cases h; exact ⟨.inr rfl, hk, rfl⟩
     ·rintro ⟨a | a, b, c⟩
      ·exact .inl ⟨a, b, c⟩
      ·subst a; exact .inr (by rw [c])
    ·rw [List.map_append]
     exact List.nodup_append.2 ⟨h4, by simp, fun x hx y hy => by simp at hy; subst hy; exact fun e => hm (e ▸ hx)⟩
    ·have fresh : ∀ z, z ∈ l.take i → z.Kind ≠ 5 → ¬ (z.Round = l[i].Round ∧ z.Place = l[i].Place) := by
      rintro z hz kz ⟨e1, e2⟩
      refine hm (List.mem_map.2 ⟨(⟨z.Round, z.Place⟩, z), (h3 _ _).2 ⟨hz, kz, rfl⟩, ?_⟩)
      rw [← e1, ← e2]
     rcases (ht x).1 hx with hx' | rfl
     ·rcases (ht y).1 hy with hy' | rfl
      ·exact hno x hx' y hy' kx ky er ep
      ·exact absurd ⟨er, ep⟩ (fresh x hx' kx)
     ·rcases (ht y).1 hy with hy' | hy'
      ·exact absurd ⟨er.symm, ep.symm⟩ (fresh y hy' ky)
      ·exact hy'.symm
 ·rintro k i ⟨lucky, about⟩ hi ⟨hL, hno⟩
  have hlt : decide ((i : Int) < (l.length : Int)) = false := decide_eq_false (by omega)
  have hta : l.take i = l := List.take_of_length_le (by omega)
  rw [hta] at hL hno
  simp only [gR, hlt, cond_false]
  exact hgood hno lucky about hL
 ·exact ⟨⟨by simp, by simp, by simp, by simp⟩, fun x hx => by simp at hx⟩
end Go.Am
end
section
namespace Go.Am
def gK (L : List aF) (i now : Int) : List aF := L.filter fun s => decide (s.Place = i) && decide (s.Old = now)
def gX (L : List aF) (i : Int) : Nat → Int → List Int → List aF → Option (Int × List Int × List aF)
 | 0, _, _, _ => none
 | n + 1, now, ever, U => match gK L i now with
  | [] => some (now, ever, U)
  | [s] => if s.Player ∈ ever then none else gX L i n s.Player (ever ++ [s.Player]) (U ++ [s])
  | _ :: _ :: _ => none
structure SI (L : List aF) (T : Nat) (i now : Int) (ever : List Int) (U : List aF) : Prop where
 un : U.Nodup
 us : ∀ u ∈ U, u ∈ L
 ne : now ∈ ever
 pl : ∀ u ∈ U, u.Place ≤ i
 old : ∀ u ∈ U, u.Place = i → u.Old ∈ ever ∧ u.Old ≠ now
 el : ever.length = T + U.length
theorem nU {α : Type} [DecidableEq α] : ∀ {l m : List α}, l.Nodup → (∀ x ∈ l, x ∈ m) → l.length ≤ m.length
 | [], _, _, _ => by simp
 | a :: l, m, hn, hs => by
  rw [List.nodup_cons] at hn
  have hm : a ∈ m := hs a (by simp)
  have := nU (l := l) (m := m.erase a) hn.2 fun x hx => (List.mem_erase_of_ne (show x ≠ a from fun e => hn.1 (e ▸ hx))).2 (hs x (by simp [hx]))
  rw [List.length_erase_of_mem hm] at this
  have : 0 < m.length := List.length_pos_of_mem hm
  simp only [List.length_cons]; omega
theorem qC {L : List aF} {i now : Int} {s : aF} : s ∈ gK L i now ↔ s ∈ L ∧ s.Place = i ∧ s.Old = now := by simp [gK]
theorem SI.next {L : List aF} {T : Nat} {i now : Int} {ever : List Int} {U : List aF} (h : SI L T i now ever U) {s : aF} (hs : s ∈ gK L i now) (hp : s.Player ∉ ever) :
  SI L T i s.Player (ever ++ [s.Player]) (U ++ [s]) := by
 obtain ⟨h1, h2, h3, h4, h5, h6⟩ := h
 obtain ⟨m1, m2, m3⟩ := qC.1 hs
 have hsu : s ∉ U := fun hu => (h5 s hu m2).2 m3
 refine ⟨List.nodup_append.2 ⟨h1, by simp, fun x hx y hy => ?_⟩, fun u hu => ?_, by simp, fun u hu => ?_, fun u hu hpl => ?_, by simp; omega⟩
 ·simp at hy; subst hy; exact fun e => hsu (e ▸ hx)
 ·rcases List.mem_append.1 hu with hu | hu
  ·exact h2 u hu
  ·simp at hu; exact hu ▸ m1
 ·rcases List.mem_append.1 hu with hu | hu
  ·exact h4 u hu
  ·simp at hu; subst hu; omega
 ·rcases List.mem_append.1 hu with hu | hu
  ·obtain ⟨a, b⟩ := h5 u hu hpl
   exact ⟨List.mem_append_left _ a, fun e => hp (e ▸ a)⟩
  ·simp at hu; subst hu
   exact ⟨List.mem_append_left _ (m3 ▸ h3), fun e => hp (e ▸ m3 ▸ h3)⟩
theorem SI.le {L : List aF} {T : Nat} {i now : Int} {ever : List Int} {U : List aF} (h : SI L T i now ever U) : U.length ≤ L.length := nU h.un h.us
def iO (L : List aF) : Nat → Nat → List Int → List Int → List aF → Option (List Int × List aF)
 | 0, _, d, _, U => some (d, U)
 | n + 1, i, d, ever, U => match gX L i (L.length + 1) (d.getD i 0) ever U with
  | none => none
  | some (now, ever', U') => iO L n (i + 1) (d.set i now) ever' U'
section
variable {t : aN} {l : List aF} (hl : l.length ≤ 1000) (h32 : t.Slots.length ≤ 32)
theorem aYh (o : List Int) (ho : o.length ≤ 2000) (v : Int) : xM o v = some (decide (v ∈ o)) := by
 unfold xM
 have := fP (S := Unit) (fun k i _ => nQ o v k i) o.length (fun i _ => some (decide (v ∈ o.drop i))) (fun _ _ => True) ?_ ?_ BIG () (cX (by omega)) trivial
 ·simpa using this
 ·intro k i _ hi _ ih
  have := ih () trivial
  simp only [nQ, Int.ofNat_lt, hi, decide_true, cond_true, cC hi, Option.bind_some, cI (show i < 9223372036854775807 by omega), this]
  have e : o.drop i = o[i] :: o.drop (i + 1) := List.drop_eq_getElem_cons hi
  by_cases h : o[i] = v
  ·simp [h, e]
  ·have : v ∈ o.drop i ↔ v ∈ o.drop (i + 1) := by
    rw [e, List.mem_cons]
    exact ⟨fun q => q.resolve_left fun e => h e.symm, .inr⟩
   simp [h, this]
 ·intro k _ _
  simp [nQ, yZ]
include hl in
theorem aSj (a0 : Int → Int → List Int → List Int → Option (List Int × Bool)) (a2 : Int → Int → Bool → List Int → Option (List Int × Bool)) (used i now : Int) (ag : Bool) (out ever : List Int) :
  gG a0 a2 (cD l) used i now ag t out ever BIG 0 [] = mM a0 a2 (cD l) used i now ag t out ((gK (dL l) i now).map (·.Player)) ever := by
 have hol := xC l
 have := fP (S := List Int) (fun k j nx => gG a0 a2 (cD l) used i now ag t out ever k j nx) (cD l).length
  (fun j nx => mM a0 a2 (cD l) used i now ag t out (nx ++ (gK (((cD l).drop j).filter isL) i now).map (·.Player)) ever) (fun j nx => nx.length ≤ j) ?_ ?_ BIG [] (cX (by omega)) (by simp)
 ·simpa [dL] using this
 ·intro k j nx hj hI ih
  have hj' : j < 1000 := by omega
  rw [List.drop_eq_getElem_cons hj, List.filter_cons]
  simp only [gG, Int.ofNat_lt, hj, decide_true, cond_true, cC hj, Option.bind_some, cI (show j < 9223372036854775807 by omega), dQ]
  by_cases hk : (cD l)[j].Kind = 5
  ·have hL : isL (cD l)[j] = true := by simp [isL, hk]
   simp only [hk, hL, decide_true, if_true, Bool.true_and]
   unfold gK
   rw [List.filter_cons]
   cases hc : (decide ((cD l)[j].Place = i) && decide ((cD l)[j].Old = now)) with
   | false =>
    simp only [cond_false, Bool.false_eq_true, if_false]
    exact ih nx (by omega)
   | true =>
    simp only [cond_true, if_true]
    rw [fQ (by simp; omega), Option.bind_some, ih _ (by simp; omega)]
    simp [gK]
  ·have hL : isL (cD l)[j] = false := by simp [isL, hk]
   simp only [hk, hL, decide_false, Bool.false_and, cond_false, Bool.false_eq_true, if_false]
   exact ih nx (by omega)
 ·intro k nx _
  simp [gG, gK]
include hl h32 in
theorem aVv (a0 : Int → Int → List Int → List Int → Option (List Int × Bool)) (i : Int) (out : List Int) :
  ∀ n k now ever U, SI (dL l) t.Slots.length i now ever U → (dL l).length < n + U.length → n < k →
  kA a0 (cD l) i t out k U.length now true ever = match gX (dL l) i n now ever U with
   | none => some ([], false)
   | some (now', ever', U') => pQ a0 (cD l) U'.length i now' t out ever' := by
 have hLl : (dL l).length ≤ 1000 := by
  have h1 := xC l
  have h2 : (dL l).length ≤ (cD l).length := List.length_filter_le _ _
  omega
 intro n
 induction n with
 | zero =>
  intro k now ever U hS hn hk
  have := hS.le
  omega
 | succ n ih =>
  intro k now ever U hS hn hk
  cases k with
  | zero => omega
  | succ k =>
   have hU := hS.le
   have hel := hS.el
   simp only [kA, cond_true, aSj hl, gX]
   unfold mM
   cases hc : gK (dL l) i now with
   | nil =>
    simp only [List.map_nil, List.length_nil, mL]
    simp only [Int.natCast_zero, show decide ((1 : Int) < 0) = false by decide, show decide ((0 : Int) = 1) = false by decide, cond_false, Option.bind_some]
    cases k with
    | zero => omega
    | succ k => simp [kA]
   | cons s cs =>
    cases cs with
    | cons s2 cs =>
     simp only [List.map_cons, List.length_cons]
     have : decide ((1 : Int) < ((((cs.map (·.Player)).length + 1 + 1 : Nat)) : Int)) = true := decide_eq_true (by omega)
     rw [this]
     rfl
    | nil =>
     have hs : s ∈ gK (dL l) i now := by rw [hc]; simp
     simp only [List.map_cons, List.map_nil, List.length_cons, List.length_nil, mL, aHn, Option.bind_some, aYh ever (by omega)]
     simp only [Nat.zero_add, Int.natCast_one, show decide ((1 : Int) < 1) = false by decide, decide_true, cond_true, cond_false, Option.bind_some]
     by_cases hp : s.Player ∈ ever
     ·simp [hp]
     ·simp only [hp, decide_false, cond_false, if_false]
      rw [fQ (by simp; omega), Option.bind_some, dJ (by omega) (by omega)]
      have := ih k s.Player (ever ++ [s.Player]) (U ++ [s]) (hS.next hs hp) (by simp; omega) (by omega)
      have e : (((U ++ [s]).length : Nat) : Int) = (U.length : Int) + 1 := by simp
      rw [e] at this
      exact this
end
end Go.Am
end
section
namespace Go.Am
def LOK (L : List aF) : Prop := ∀ s ∈ L, 0 ≤ s.Player ∧ 0 ≤ s.Old
theorem aDk {L : List aF} (hL : LOK L) {T : Nat} {i : Int} : ∀ {n : Nat} {now : Int} {ever : List Int} {U : List aF} {now' : Int} {ever' : List Int} {U' : List aF},
  SI L T i now ever U → gX L i n now ever U = some (now', ever', U') →
  SI L T i now' ever' U' ∧ (∀ x ∈ ever, x ∈ ever') ∧ (now' = now ∨ (now' ∉ ever ∧ 0 ≤ now' ∧ now ≠ -1)) ∧ gK L i now' = []
 | 0, _, _, _, _, _, _, _, h => by simp [gX] at h
 | n + 1, now, ever, U, now', ever', U', hS, h => by
  unfold gX at h
  cases hc : gK L i now with
  | nil =>
   rw [hc] at h
   simp only [Option.some.injEq, Prod.mk.injEq] at h
   obtain ⟨rfl, rfl, rfl⟩ := h
   exact ⟨hS, fun x hx => hx, .inl rfl, hc⟩
  | cons s cs =>
   cases cs with
   | cons s2 cs => simp [hc] at h
   | nil =>
    have hs : s ∈ gK L i now := by rw [hc]; simp
    obtain ⟨m1, m2, m3⟩ := qC.1 hs
    obtain ⟨p1, p2⟩ := hL s m1
    rw [hc] at h
    by_cases hp : s.Player ∈ ever
    ·simp [hp] at h
    ·simp only [hp, if_false] at h
     obtain ⟨r1, r2, r3, r4⟩ := aDk hL (hS.next hs hp) h
     refine ⟨r1, fun x hx => r2 x (List.mem_append_left _ hx), ?_, r4⟩
     rcases r3 with rfl | ⟨a, b, c⟩
     ·exact .inr ⟨hp, p1, by omega⟩
     ·exact .inr ⟨fun hx => a (List.mem_append_left _ hx), b, by omega⟩
structure GI (L : List aF) (S : List Int) (i : Nat) (d ever : List Int) (U : List aF) : Prop where
 un : U.Nodup
 us : ∀ u ∈ U, u ∈ L
 el : ever.length = S.length + U.length
 pl : ∀ u ∈ U, u.Place < i
 len : d.length = S.length
 dr : ∀ j, i ≤ j → d.getD j 0 = S.getD j 0
 mem : ∀ x ∈ d, x ∈ ever
 dup : ∀ a b, a < b → b < d.length → d.getD a 0 = d.getD b 0 → d.getD b 0 = -1
 bye : ∀ a, a < d.length → (d.getD a 0 = -1 ↔ S.getD a 0 = -1)
 don : ∀ a : Nat, a < i → gK L a (d.getD a 0) = []
theorem aCm {l : List Int} {i : Nat} (h : i < l.length) : l.getD i 0 ∈ l := by rw [bT h]; exact List.getElem_mem h
theorem GI.start {L : List aF} {S : List Int} {i : Nat} {d ever : List Int} {U : List aF} (h : GI L S i d ever U) (hi : i < S.length) : SI L S.length i (d.getD i 0) ever U :=
 ⟨h.un, h.us, h.mem _ (aCm (by rw [h.len]; exact hi)), fun u hu => by have := h.pl u hu; omega, fun u hu e => by have := h.pl u hu; omega, h.el⟩
theorem lB {l : List Int} {i j : Nat} {v : Int} (hi : i < l.length) : (l.set i v).getD j 0 = if j = i then v else l.getD j 0 := by
 by_cases h : j = i
 ·subst h; simp [List.getD, hi]
 ·simp [List.getD, h, List.getElem?_set, Ne.symm h]
theorem GI.next {L : List aF} (hL : LOK L) {S : List Int} {i : Nat} {d ever : List Int} {U : List aF} (h : GI L S i d ever U) (hi : i < S.length) {n : Nat} {now' : Int} {ever' : List Int} {U' : List aF}
  (hs : gX L i n (d.getD i 0) ever U = some (now', ever', U')) : GI L S (i + 1) (d.set i now') ever' U' := by
 obtain ⟨hS, hev, hn, hc⟩ := aDk hL (h.start hi) hs
 have hid : i < d.length := by rw [h.len]; exact hi
 refine ⟨hS.un, hS.us, hS.el, fun u hu => by have := hS.pl u hu; omega, by rw [List.length_set, h.len], fun j hj => ?_, fun x hx => ?_, fun a b hab hb => ?_, fun a ha => ?_, fun a ha => ?_⟩
 ·rw [lB hid, if_neg (by omega)]; exact h.dr j (by omega)
 ·rcases List.mem_or_eq_of_mem_set hx with hx | rfl
  ·exact hev x (h.mem x hx)
  ·exact hS.ne
 ·rw [List.length_set] at hb
  rw [lB hid, lB hid]
  by_cases ha' : a = i
  ·subst ha'
   rw [if_pos rfl, if_neg (by omega)]
   intro e
   rcases hn with hn | ⟨n1, n2, n3⟩
   ·rw [hn] at e; exact h.dup a b hab hb e
   ·exact absurd (h.mem _ (aCm hb)) (e ▸ n1)
  ·rw [if_neg ha']
   by_cases hb' : b = i
   ·subst hb'
    rw [if_pos rfl]
    intro e
    rcases hn with hn | ⟨n1, n2, n3⟩
    ·rw [hn] at e ⊢; exact h.dup a b hab hb e
    ·exact absurd (h.mem _ (aCm (show a < d.length by omega))) (e ▸ n1)
   ·rw [if_neg hb']; exact h.dup a b hab hb
 ·rw [List.length_set] at ha
  rw [lB hid]
  by_cases ha' : a = i
  ·subst ha'
   rw [if_pos rfl, ← h.bye a ha]
   rcases hn with hn | ⟨n1, n2, n3⟩
   ·rw [hn]
   ·constructor
    ·intro e; omega
    ·intro e; exact absurd e n3
  ·rw [if_neg ha']; exact h.bye a ha
 ·rw [lB hid]
  by_cases ha' : a = i
  ·subst ha'; rw [if_pos rfl]; exact hc
  ·rw [if_neg ha']; exact h.don a (by omega)
theorem aDb {L : List aF} (hL : LOK L) {S : List Int} : ∀ {n i : Nat} {d ever : List Int} {U : List aF} {d' : List Int} {U' : List aF}, GI L S i d ever U → i + n = S.length → iO L n i d ever U = some (d', U') → ∃ ever', GI L S S.length d' ever' U'
 | 0, i, d, ever, U, d', U', h, hn, he => by
  simp only [iO, Option.some.injEq, Prod.mk.injEq] at he
  obtain ⟨rfl, rfl⟩ := he
  have : i = S.length := by omega
  subst this
  exact ⟨ever, h⟩
 | n + 1, i, d, ever, U, d', U', h, hn, he => by
  unfold iO at he
  cases hs : gX L i (L.length + 1) (d.getD i 0) ever U with
  | none => rw [hs] at he; simp at he
  | some q =>
   obtain ⟨now', ever', U1⟩ := q
   rw [hs] at he
   exact aDb hL (h.next hL (by omega) hs) (by omega) he
theorem aCu {l : List aF} : (dL l).length ≤ l.length := by
 have h1 := xC l
 have h2 : (dL l).length ≤ (cD l).length := List.length_filter_le _ _
 omega
section
variable {t : aN} {l : List aF} (hl : l.length ≤ 1000) (h32 : t.Slots.length ≤ 32)
include hl in
theorem aSm (out : List Int) (used : Nat) (hu : used ≤ (dL l).length) : gH (cD l) out BIG used 0 = some (out, decide (used = (dL l).length)) := by
 have hol := xC l
 have hll := aCu (l := l)
 have := fP (S := Int) (fun k j us => gH (cD l) out k us j) (cD l).length (fun j us => some (out, decide (us = ((((cD l).drop j).filter isL).length : Int)))) (fun j us => -(j : Int) ≤ us ∧ us ≤ 1000) ?_ ?_ BIG used (cX (by omega)) ?_
 ·rw [List.drop_zero] at this
  have e : decide ((used : Int) = (((cD l).filter isL).length : Int)) = decide (used = (dL l).length) := by
   unfold dL
   rw [Bool.eq_iff_iff]; simp only [decide_eq_true_eq]; omega
  rw [← e]
  exact this
 ·intro k j us hj ⟨hI1, hI2⟩ ih
  rw [List.drop_eq_getElem_cons hj, List.filter_cons]
  simp only [gH, Int.ofNat_lt, hj, decide_true, cond_true, cC hj, Option.bind_some, cI (show j < 9223372036854775807 by omega)]
  by_cases hk : (cD l)[j].Kind = 5
  ·have hL : isL (cD l)[j] = true := by simp [isL, hk]
   simp only [hk, hL, decide_true, cond_true, if_true]
   rw [dJ (by omega) (by omega), ih _ (by omega)]
   simp only [List.length_cons]
   congr 2
   rw [Bool.eq_iff_iff]; simp only [decide_eq_true_eq]; omega
  ·have hL : isL (cD l)[j] = false := by simp [isL, hk]
   simp only [hk, hL, decide_false, cond_false, Bool.false_eq_true, if_false]
   exact ih us (by omega)
 ·intro k us _
  simp [gH, uO]
 ·omega
def aAh (t : aN) (l : List aF) : Option (List Int × List aF) := iO (dL l) t.Slots.length 0 t.Slots t.Slots []
theorem aBt (L : List aF) {S : List Int} (h : yO S) : GI L S 0 S S [] := by
 refine ⟨by simp, by simp, by simp, by simp, rfl, fun _ _ => rfl, fun x h => h, fun a b hab hb e => ?_, fun _ _ => .rfl, by simp⟩
 rw [bT (by omega), bT hb] at e
 rw [bT hb]
 exact h.dup b hb a hab e
include hl h32 in
theorem aQi (hT : yO t.Slots) (hL : LOK (dL l)) : sI t l = some (match aAh t l with
  | none => ([], false)
  | some (d, U) => (d, decide (U.length = (dL l).length))) := by
 have hll := aCu (l := l)
 unfold sI
 rw [aPv l hl, Option.bind_some, fQ (by simp; omega), Option.bind_some, List.nil_append]
 have key : ∀ n i d ever U k, GI (dL l) t.Slots i d ever U → i + n = t.Slots.length → n < k → iM (cD l) t k U.length i (d.take i) ever = some (match iO (dL l) n i d ever U with
   | none => ([], false)
   | some (d, U) => (d, decide (U.length = (dL l).length))) := by
  intro n
  induction n with
  | zero =>
   intro i d ever U k hG hi hk
   cases k with
   | zero => omega
   | succ k =>
    have hlt : decide ((i : Int) < (t.Slots.length : Int)) = false := decide_eq_false (by omega)
    have hta : d.take i = d := List.take_of_length_le (by rw [hG.len]; omega)
    simp only [iM, hlt, cond_false, uM, hta, iO]
    exact aSm hl d U.length (nU hG.un hG.us)
  | succ n ih =>
   intro i d ever U k hG hi hk
   cases k with
   | zero => omega
   | succ k =>
    have hlt : i < t.Slots.length := by omega
    have hid : i < d.length := by rw [hG.len]; exact hlt
    have hnow : t.Slots[i] = d.getD i 0 := by rw [hG.dr i (by omega), bT hlt]
    have hsl := aVv hl h32 (iM (cD l) t k) i (d.take i) ((dL l).length + 1) BIG (d.getD i 0) ever U (hG.start hlt) (by omega) (cX (by omega))
    simp only [iM, Int.ofNat_lt, hlt, decide_true, cond_true, cC hlt, Option.bind_some, hnow, hsl, iO]
    cases hs : gX (dL l) i ((dL l).length + 1) (d.getD i 0) ever U with
    | none => rfl
    | some q =>
     obtain ⟨now', ever', U'⟩ := q
     simp only [pQ, uN]
     rw [fQ (by simp; omega), Option.bind_some, cI (by omega)]
     have ht : d.take i ++ [now'] = (d.set i now').take (i + 1) := by
      rw [List.take_succ_eq_append_getElem (by rw [List.length_set]; exact hid), List.take_set_of_le (Nat.le_refl i)]
      simp
     rw [ht]
     exact ih (i + 1) (d.set i now') ever' U' k (hG.next hL hlt hs) (by omega) (by omega)
 have := key t.Slots.length 0 t.Slots t.Slots [] BIG (aBt _ hT) (by omega) (cX (by omega))
 simpa [aAh] using this
end
end Go.Am
end
section
namespace Go.Am
theorem aAd {α β : Type} [DecidableEq α] (a : α) : ∀ l : List (α × β), (pF a l).map (·.1) = (l.map (·.1)).erase a
 | [] => by simp [pF, fF]
 | (k, u) :: l => by
  have ih := aAd a l
  unfold pF at ih ⊢
  simp only [List.map_cons, fF]
  by_cases h : a = k
  ·subst h; simp
  ·rw [decide_eq_false h, cond_false, List.erase_cons_tail (by simpa using Ne.symm h), ← ih]
   cases fF a (l.map (·.1)) with
   | none => simp
   | some j => simp
theorem aHp {α β : Type} [DecidableEq α] {a x : α} {l : List (α × β)} (hn : (l.map (·.1)).Nodup) : x ∈ (pF a l).map (·.1) ↔ x ∈ l.map (·.1) ∧ x ≠ a := by
 rw [aAd, hn.mem_erase_iff]; exact And.comm
theorem aIz {α β : Type} [DecidableEq α] {a : α} {l : List (α × β)} (hn : (l.map (·.1)).Nodup) : ((pF a l).map (·.1)).Nodup := by
 rw [aAd]; exact hn.erase a
theorem aCw {α β : Type} [DecidableEq α] {a : α} {l : List (α × β)} (h : a ∈ l.map (·.1)) : (pF a l).length + 1 = l.length := by
 have h1 := congrArg List.length (aAd a l)
 rw [List.length_map, List.length_erase_of_mem h, List.length_map] at h1
 have : 0 < l.length := by
  cases l with
  | nil => simp at h
  | cons => simp
 omega
theorem aLf {t : aN} {d : List Int} {lk : List (aF × Int)} {i : Nat} {Q : aF × Bool → Prop} (hi : i < d.length) (hlen : lk.length ≤ 3000)
  (h1 : ∀ s : aF, s ∈ lk.map (·.1) → s.Place = (i : Int) → s.Old = d.getD i 0 → Q (s, true))
  (h0 : (∀ s : aF, s ∈ lk.map (·.1) → s.Place = (i : Int) → s.Old ≠ d.getD i 0) → Q (⟨0, 0, 0, 0, 0⟩, false)) : gY t d lk i Q := by
 have key : ∀ n k left, left.length = n → n < k → (∀ p ∈ left, p ∈ lk) → (∀ s : aF, s ∈ lk.map (·.1) → s.Place = (i : Int) → s.Old = d.getD i 0 → s ∈ left.map (·.1)) → gT Q i d t lk k ⟨0, 0, 0, 0, 0⟩ left := by
  intro n
  induction n with
  | zero =>
   intro k left hn hk hsub hall
   cases k with
   | zero => omega
   | succ k =>
    have : left = [] := List.length_eq_zero_iff.1 hn
    subst this
    simp only [gT, nD]
    refine ⟨fun _ => h0 fun s hs hp ho => ?_, fun j p hj => by simp at hj⟩
    simpa using hall s hs hp ho
  | succ n ih =>
   intro k left hn hk hsub hall
   cases k with
   | zero => omega
   | succ k =>
    simp only [gT, nD]
    refine ⟨fun e => by subst e; simp at hn, fun j p hj => ?_⟩
    have hjl : j < left.length := by
     rcases Nat.lt_or_ge j left.length with h | h
     ·exact h
     ·rw [List.getElem?_eq_none h] at hj; cases hj
    have hpm : p ∈ left := List.mem_of_getElem? hj
    have hkey : p.1 ∈ lk.map (·.1) := List.mem_map.2 ⟨p, hsub p hpm, rfl⟩
    simp only [cC hi, Option.bind_some, dQ]
    refine ⟨_, rfl, ?_⟩
    rw [← bT hi 0]
    by_cases hm : p.1.Place = i ∧ p.1.Old = d.getD i 0
    ·simp only [hm.1, hm.2, decide_true, Bool.and_self, cond_true]
     exact h1 _ hkey hm.1 hm.2
    ·have : (decide (p.1.Place = (i : Int)) && decide (p.1.Old = d.getD i 0)) = false := by
      rw [Bool.and_eq_false_iff, decide_eq_false_iff_not, decide_eq_false_iff_not]
      by_cases h : p.1.Place = i
      ·exact .inr fun h' => hm ⟨h, h'⟩
      ·exact .inl h
     simp only [this, cond_false]
     refine ih k _ (by rw [List.length_eraseIdx]; simp [hjl]; omega) (by omega) (fun q hq => hsub q (List.mem_of_mem_eraseIdx hq)) fun s hs hp ho => ?_
     obtain ⟨q, hq, rfl⟩ := List.mem_map.1 (hall s hs hp ho)
     refine List.mem_map.2 ⟨q, ?_, rfl⟩
     obtain ⟨j', hj', rfl⟩ := List.mem_iff_getElem.1 hq
     rw [List.mem_eraseIdx_iff_getElem]
     refine ⟨j', hj', ?_, rfl⟩
     rintro rfl
     rw [List.getElem?_eq_getElem hj'] at hj
     cases hj
     exact hm ⟨hp, ho⟩
 unfold gY aBl
 exact key lk.length BIG lk rfl (cX (by omega)) (fun p hp => hp) fun s hs _ _ => hs
structure LK (L : List aF) (lk : List (aF × Int)) (U : List aF) : Prop where
 nd : (lk.map (·.1)).Nodup
 mem : ∀ s : aF, s ∈ lk.map (·.1) ↔ s ∈ L ∧ s ∉ U
def aMi (i : Nat) (d ever : List Int) (lk : List (aF × Int)) : Prop :=
 ∃ x : aF, x ∈ lk.map (·.1) ∧ (x.Place < (i : Int) ∨ (x.Place = (i : Int) ∧ x.Old ∈ ever ∧ x.Old ≠ d.getD i 0))
structure PS (D : Nat) (d ever : List Int) (lk : List (aF × Int)) : Prop where
 dl : d.length = D
 sz : D + lk.length + ever.length ≤ 3000
 mem : ∀ x ∈ d, x ∈ ever
 nd : (lk.map (·.1)).Nodup
theorem PS.step {D : Nat} {d ever : List Int} {lk : List (aF × Int)} (h : PS D d ever lk) {s : aF} (hs : s ∈ lk.map (·.1)) (i : Nat) : PS D (d.set i s.Player) (ever ++ [s.Player]) (pF s lk) := by
 have hml := aCw hs
 obtain ⟨h1, h2, h3, h4⟩ := h
 refine ⟨by simpa using h1, by simp; omega, fun x hx => ?_, aIz h4⟩
 rcases List.mem_or_eq_of_mem_set hx with hx | rfl
 ·exact List.mem_append_left _ (h3 x hx)
 ·simp
section
variable {t : aN} {L : List aF} (hLn : L.Nodup)
variable (Q : (Bool × List Int × List (aF × Int)) → Prop) (hbad : ∀ d lk, Q (false, d, lk))
include hbad in
theorem aLn (a0 : Int → List Int → List (aF × Int) → List Int → Prop) (T : Int) {i D : Nat} (hiD : i < D)
  (hgo : ∀ d lk ever, PS D d ever lk → aMi (i + 1) d ever lk → a0 ((i + 1 : Nat) : Int) d lk ever) :
  ∀ n k d lk ever, lk.length ≤ n → n < k → PS D d ever lk → aMi i d ever lk →
  gY t d lk i fun r => dX Q a0 i T i t k r.2 d lk r.1 ever := by
 intro n
 induction n with
 | zero =>
  intro k d lk ever hn hk hP ⟨x, hx, _⟩
  have : lk = [] := List.length_eq_zero_iff.1 (by omega)
  subst this
  simp at hx
 | succ n ih =>
  intro k d lk ever hn hk hP hD
  have hi : i < d.length := by rw [hP.dl]; exact hiD
  have hnd := hP.nd
  have hlen := hP.sz
  obtain ⟨x, hx, hxp⟩ := hD
  cases k with
  | zero => omega
  | succ k =>
   refine aLf hi (by omega) (fun s hs hp ho => ?_) fun _ => ?_
   ·simp only [dX, cond_true]
    refine ⟨_, uV ever (by omega) _, ?_⟩
    by_cases hpe : s.Player ∈ ever
    ·simp only [hpe, decide_true, cond_true]; exact hbad _ _
    ·simp only [hpe, decide_false, cond_false]
     refine ⟨_, cC hi, _, fQ (by simp; omega), ?_⟩
     have hml := aCw hs
     have e : ((i : Int)).toNat = i := by simp
     rw [e]
     refine ih k (d.set i s.Player) (pF s lk) (ever ++ [s.Player]) (by omega) (by omega) (hP.step hs i) ⟨x, (aHp hnd).2 ⟨hx, ?_⟩, ?_⟩
     ·rintro rfl
      rcases hxp with h | ⟨_, _, h⟩
      ·omega
      ·exact h ho
     ·rcases hxp with h | ⟨h1, h2, h3⟩
      ·exact .inl h
      ·rw [lB hi, if_pos rfl]
       exact .inr ⟨h1, List.mem_append_left _ h2, fun e => hpe (e ▸ h2)⟩
   ·simp only [dX, cond_false, lF, lE, cI (show i < 9223372036854775807 by omega)]
    refine hgo d lk ever hP ⟨x, hx, .inl ?_⟩
    rcases hxp with h | ⟨h, _⟩ <;> omega
include hLn in
theorem aTu (a0 : Int → List Int → List (aF × Int) → List Int → Prop) (T : Int) {i D : Nat} (hiD : i < D) :
  ∀ n k d lk now ever U, lk.length + n + 1 ≤ k → PS D d ever lk → now = d.getD i 0 → SI L t.Slots.length i now ever U → LK L lk U → L.length < n + U.length →
  (∀ now' ever' U' lk', gX L i n now ever U = some (now', ever', U') → LK L lk' U' → PS D (d.set i now') ever' lk' → a0 ((i + 1 : Nat) : Int) (d.set i now') lk' ever') →
  (gX L i n now ever U = none → (∀ d lk, Q (false, d, lk)) ∧ ∀ d lk ever, PS D d ever lk → aMi (i + 1) d ever lk → a0 ((i + 1 : Nat) : Int) d lk ever) →
  gY t d lk i fun r => dX Q a0 i T i t k r.2 d lk r.1 ever := by
 intro n
 induction n with
 | zero =>
  intro k d lk now ever U hk hP hnow hS hK hn hok hbd
  have := hS.le
  omega
 | succ n ih =>
  intro k d lk now ever U hk hP hnow hS hK hn hok hbd
  have hi : i < d.length := by rw [hP.dl]; exact hiD
  have hlen := hP.sz
  have hc : ∀ s : aF, s ∈ lk.map (·.1) → s.Place = (i : Int) → s.Old = d.getD i 0 → s ∈ gK L i now := fun s hs hp ho => qC.2 ⟨((hK.mem s).1 hs).1, hp, by rw [hnow]; exact ho⟩
  have hc' : ∀ s : aF, s ∈ gK L i now → s ∈ lk.map (·.1) := by
   intro s hs
   obtain ⟨m1, m2, m3⟩ := qC.1 hs
   exact (hK.mem s).2 ⟨m1, fun hu => (hS.old s hu m2).2 m3⟩
  cases k with
  | zero => omega
  | succ k =>
   refine aLf hi (by omega) (fun s hs hp ho => ?_) fun hno => ?_
   ·have hsc := hc s hs hp ho
    simp only [dX, cond_true]
    refine ⟨_, uV ever (by omega) _, ?_⟩
    have e : ((i : Int)).toNat = i := by simp
    by_cases hone : ∃ s2, s2 ∈ gK L i now ∧ s2 ≠ s
    ·obtain ⟨s2, h2, hne⟩ := hone
     obtain ⟨m1, m2, m3⟩ := qC.1 h2
     have hnone : gX L i (n + 1) now ever U = none := by
      rw [gX]
      cases h : gK L i now with
      | nil => rw [h] at h2; simp at h2
      | cons a cs =>
       cases cs with
       | cons b cs => rfl
       | nil =>
        rw [h] at h2 hsc
        simp at h2 hsc
        exact absurd (h2.trans hsc.symm) hne
     obtain ⟨hbad, hgo⟩ := hbd hnone
     by_cases hpe : s.Player ∈ ever
     ·simp only [hpe, decide_true, cond_true]; exact hbad _ _
     ·simp only [hpe, decide_false, cond_false]
      refine ⟨_, cC hi, _, fQ (by simp; omega), ?_⟩
      have hml := aCw hs
      rw [e]
      refine aLn Q hbad a0 T hiD hgo (pF s lk).length k _ _ _ (Nat.le_refl _) (by omega) (hP.step hs i) ⟨s2, (aHp hK.nd).2 ⟨hc' s2 h2, hne⟩, .inr ⟨m2, ?_, ?_⟩⟩
      ·rw [m3]; exact List.mem_append_left _ hS.ne
      ·rw [lB hi, if_pos rfl, m3]; exact fun e => hpe (e ▸ hS.ne)
    ·have hall : ∀ x ∈ gK L i now, x = s := fun x hx => Classical.byContradiction fun h => hone ⟨x, hx, h⟩
     have hcs : gK L i now = [s] := by
      have hnd : (gK L i now).Nodup := hLn.filter _
      cases h : gK L i now with
      | nil => rw [h] at hsc; simp at hsc
      | cons a cs =>
       rw [h] at hall hnd
       have ha := hall a (by simp)
       subst ha
       cases cs with
       | nil => rfl
       | cons b cs =>
        have := hall b (by simp)
        subst this
        simp at hnd
     by_cases hpe : s.Player ∈ ever
     ·simp only [hpe, decide_true, cond_true]
      exact (hbd (by rw [gX, hcs]; simp only [hpe, if_true])).1 _ _
     ·simp only [hpe, decide_false, cond_false]
      refine ⟨_, cC hi, _, fQ (by simp; omega), ?_⟩
      have hml := aCw hs
      rw [e]
      have hslot : gX L i (n + 1) now ever U = gX L i n s.Player (ever ++ [s.Player]) (U ++ [s]) := by
       rw [gX, hcs]; simp only [hpe, if_false]
      rw [hslot] at hok hbd
      refine ih k (d.set i s.Player) (pF s lk) s.Player (ever ++ [s.Player]) (U ++ [s]) (by omega) (hP.step hs i) (by rw [lB hi, if_pos rfl]) (hS.next hsc hpe) ⟨aIz hK.nd, fun x => ?_⟩ (by simp; omega) (fun now' ever' U' lk' h1 h2 h3 => ?_) hbd
      ·rw [aHp hK.nd, hK.mem, List.mem_append, List.mem_singleton, not_or, and_assoc]
      ·rw [List.set_set] at h3 ⊢
       exact hok now' ever' U' lk' h1 h2 h3
   ·have hcs : gK L i now = [] := by
     cases h : gK L i now with
     | nil => rfl
     | cons s cs =>
      have hs : s ∈ gK L i now := by rw [h]; simp
      obtain ⟨m1, m2, m3⟩ := qC.1 hs
      exact absurd (by rw [m3, hnow]) (hno s (hc' s hs) m2)
    have hslot : gX L i (n + 1) now ever U = some (now, ever, U) := by rw [gX, hcs]
    simp only [dX, cond_false, lF, lE, cI (show i < 9223372036854775807 by omega)]
    have e : d.set i now = d := by rw [hnow, bT hi]; exact List.set_getElem_self hi
    have := hok now ever U lk hslot hK
    rw [e] at this
    exact this hP
theorem aUm {i : Nat} {d ever : List Int} {lk : List (aF × Int)} (h : aMi i d ever lk) : decide ((lk.length : Int) = 0) = false := by
 obtain ⟨x, hx, _⟩ := h
 cases lk with
 | nil => simp at hx
 | cons => exact decide_eq_false (by simp; omega)
theorem aUl (hbad : ∀ d lk, Q (false, d, lk)) {D : Nat} (hD : D ≤ 3000) : ∀ n i k d lk ever, i + n = D → n < k → PS D d ever lk → aMi i d ever lk → dA Q D t k i d lk ever := by
 intro n
 induction n with
 | zero =>
  intro i k d lk ever hi hk hP hd
  cases k with
  | zero => omega
  | succ k =>
   have hlt : decide ((i : Int) < (D : Int)) = false := decide_eq_false (by omega)
   simp only [dA, hlt, cond_false, lD, aUm hd]
   exact hbad _ _
 | succ n ih =>
  intro i k d lk ever hi hk hP hd
  cases k with
  | zero => omega
  | succ k =>
   have hlt : i < D := by omega
   have hsz := hP.sz
   simp only [dA, Int.ofNat_lt, hlt, decide_true, cond_true]
   exact aLn Q hbad (dA Q D t k) D hlt (fun d lk ever h1 h2 => ih (i + 1) k d lk ever (by omega) (by omega) h1 h2) lk.length BIG d lk ever (Nat.le_refl _) (cX (by omega)) hP hd
include hLn in
theorem aPe (hL : LOK L) {S : List Int} (hD : S.length = t.Slots.length) (hS : S.length ≤ 1000) (hLl : L.length ≤ 500) : ∀ n i k d lk ever U, i + n = S.length → n < k → GI L S i d ever U → PS S.length d ever lk → LK L lk U →
  (∀ d' U', iO L n i d ever U = some (d', U') → U'.length = L.length → Q (true, d', [])) →
  ((∀ d' U', iO L n i d ever U = some (d', U') → U'.length ≠ L.length) → ∀ d lk, Q (false, d, lk)) → dA Q S.length t k i d lk ever := by
 intro n
 induction n with
 | zero =>
  intro i k d lk ever U hi hk hG hP hK hok hbad
  cases k with
  | zero => omega
  | succ k =>
   have hlt : decide ((i : Int) < (S.length : Int)) = false := decide_eq_false (by omega)
   simp only [dA, hlt, cond_false, lD]
   by_cases hU : U.length = L.length
   ·have hnil : lk = [] := by
     cases lk with
     | nil => rfl
     | cons p lk =>
      have hp := (hK.mem p.1).1 (by simp)
      have := nU (l := p.1 :: U) (m := L) (List.nodup_cons.2 ⟨hp.2, hG.un⟩) fun x hx => by
       rcases List.mem_cons.1 hx with rfl | hx
       ·exact hp.1
       ·exact hG.us x hx
      simp only [List.length_cons] at this
      omega
    subst hnil
    exact hok d U rfl hU
   ·have hne : lk ≠ [] := by
     rintro rfl
     refine hU (Nat.le_antisymm (nU hG.un hG.us) (nU hLn fun x hx => ?_))
     refine Classical.byContradiction fun hxu => ?_
     have := (hK.mem x).2 ⟨hx, hxu⟩
     simp at this
    have : decide ((lk.length : Int) = 0) = false := by
     cases lk with
     | nil => exact absurd rfl hne
     | cons => exact decide_eq_false (by simp; omega)
    rw [this]
    refine hbad (fun d' U' h => ?_) _ _
    simp only [iO, Option.some.injEq, Prod.mk.injEq] at h
    rw [← h.2]; exact hU
 | succ n ih =>
  intro i k d lk ever U hi hk hG hP hK hok hbad
  cases k with
  | zero => omega
  | succ k =>
   have hlt : i < S.length := by omega
   have hsz := hP.sz
   simp only [dA, Int.ofNat_lt, hlt, decide_true, cond_true]
   refine aTu hLn Q (dA Q S.length t k) S.length hlt (L.length + 1) BIG d lk (d.getD i 0) ever U ?_ hP rfl (hD ▸ hG.start hlt) hK (by omega) (fun now' ever' U' lk' h1 h2 h3 => ?_) fun h => ⟨?_, fun d' lk' ever' h1 h2 => ?_⟩
   ·exact Nat.le_of_lt (cX (by omega))
   ·refine ih (i + 1) k (d.set i now') lk' ever' U' (by omega) (by omega) (hG.next hL hlt h1) h3 h2 (fun d' U'' h hl => hok d' U'' ?_ hl) fun h => hbad fun d' U'' h' => h d' U'' ?_
    ·rw [iO, h1]; exact h
    ·rw [iO, h1] at h'; exact h'
   ·exact hbad fun d' U' h' => by rw [iO, h] at h'; simp at h'
   ·exact aUl Q (hbad fun d' U' h' => by rw [iO, h] at h'; simp at h') (by omega) n (i + 1) k d' lk' ever' (by omega) (by omega) h1 h2
include hLn in
theorem aNz (hT : yO t.Slots) (hL : LOK L) (h32 : t.Slots.length ≤ 32) (hLl : L.length ≤ 500) {lk : List (aF × Int)} (hK : LK L lk [])
  (hok : ∀ d U, iO L t.Slots.length 0 t.Slots t.Slots [] = some (d, U) → U.length = L.length → Q (true, d, []))
  (hbad : (∀ d U, iO L t.Slots.length 0 t.Slots t.Slots [] = some (d, U) → U.length ≠ L.length) → ∀ d lk, Q (false, d, lk)) : kK t t.Slots lk Q := by
 have hlk : lk.length ≤ 500 := by
  have := nU hK.nd (fun x hx => ((hK.mem x).1 hx).1)
  rw [List.length_map] at this
  omega
 unfold kK
 refine ⟨t.Slots, by unfold jU; rw [fQ (by simp; omega)]; rfl, ?_⟩
 exact aPe hLn Q hL rfl (by omega) hLl t.Slots.length 0 BIG t.Slots lk t.Slots [] (by omega) (cX (by omega)) (aBt L hT) ⟨rfl, by omega, fun x hx => hx, hK.nd⟩ hK hok hbad
end
end Go.Am
end
section
namespace Go.Am
def cell (a r : Nat) : aD := ⟨(r : Int), ((a / 2 ^ (r + 1) : Nat) : Int)⟩
abbrev mR := aD → Int → Prop
def Func (P : mR) : Prop := ∀ m v w, P m v → P m w → v = w
def clm (d : List Int) (a r : Nat) : mR := fun m v => v = d.getD a 0 ∧ ∃ q, q ≤ r ∧ m = cell a q
def pM (P Q : mR) : Prop := ∀ m v w, P m v → Q m w → v = w
theorem Func.sub {P Q : mR} (h : Func P) (hs : ∀ m v, Q m v → P m v) : Func Q := fun m v w h1 h2 => h m v w (hs _ _ h1) (hs _ _ h2)
theorem aUk {a b q r : Nat} (h : cell a q = cell b r) : q = r ∧ a / 2 ^ (q + 1) = b / 2 ^ (r + 1) := by
 simp only [cell, aD.mk.injEq] at h
 omega
structure WonIs (won : List (aD × Int)) (P : mR) : Prop where
 nd : (won.map (·.1)).Nodup
 mem : ∀ m v, (m, v) ∈ won ↔ P m v
theorem WonIs.ext {won : List (aD × Int)} {P Q : mR} (h : WonIs won P) (he : ∀ m v, P m v ↔ Q m v) : WonIs won Q := ⟨h.nd, fun m v => (h.mem m v).trans (he m v)⟩
theorem WonIs.get {won : List (aD × Int)} {P : mR} (h : WonIs won P) {m : aD} {v z : Int} (hp : P m v) : cK m z won = v := aHq h.nd ((h.mem m v).2 hp)
theorem WonIs.has {won : List (aD × Int)} {P : mR} (h : WonIs won P) (m : aD) : cO m won = true ↔ ∃ v, P m v := by
 rw [zM, decide_eq_true_eq, List.mem_map]
 constructor
 ·rintro ⟨⟨m', v⟩, hv, rfl⟩; exact ⟨v, (h.mem _ _).1 hv⟩
 ·rintro ⟨v, hv⟩; exact ⟨(m, v), (h.mem _ _).2 hv, rfl⟩
theorem WonIs.func {won : List (aD × Int)} {P : mR} (h : WonIs won P) : Func P := fun m v w h1 h2 => (h.get (z := 0) h1).symm.trans (h.get h2)
theorem WonIs.nil : WonIs [] (fun _ _ => False) := ⟨by simp, by simp⟩
theorem WonIs.set {won : List (aD × Int)} {P : mR} (h : WonIs won P) {m : aD} {n : Int} (hc : ∀ v, P m v → v = n) : WonIs (fO m n won) (fun x v => P x v ∨ (x = m ∧ v = n)) := by
 by_cases hm : m ∈ won.map (·.1)
 ·obtain ⟨⟨m', v⟩, hv, e⟩ := List.mem_map.1 hm
  simp only at e; subst e
  have : v = n := hc v ((h.mem _ _).1 hv)
  subst this
  rw [aEw h.nd hv]
  exact ⟨h.nd, fun x w => ⟨fun hx => .inl ((h.mem _ _).1 hx), fun hx => hx.elim (h.mem _ _).2 fun ⟨a, b⟩ => a ▸ b ▸ hv⟩⟩
 ·rw [aLd hm]
  refine ⟨?_, fun x w => ?_⟩
  ·rw [List.map_append]
   exact List.nodup_append.2 ⟨h.nd, by simp, fun x hx y hy => by simp at hy; subst hy; exact fun e => hm (e ▸ hx)⟩
  ·rw [List.mem_append, List.mem_singleton, h.mem, Prod.mk.injEq]
structure DOK (t : aN) (d : List Int) : Prop where
 len : d.length = t.Slots.length
 dup : ∀ a b, a < b → b < d.length → d.getD a 0 = d.getD b 0 → d.getD b 0 = -1
 bye : ∀ a, a < d.length → (d.getD a 0 = -1 ↔ t.Slots.getD a 0 = -1)
 rng : ∀ a, a < d.length → -1 ≤ d.getD a 0
theorem DOK.uni {t : aN} {d : List Int} (h : DOK t d) {a b : Nat} (ha : a < d.length) (hb : b < d.length) (e : d.getD a 0 = d.getD b 0) (hn : d.getD a 0 ≠ -1) : a = b := by
 rcases Nat.lt_trichotomy a b with hl | rfl | hl
 ·exact absurd (h.dup a b hl hb e) (e ▸ hn)
 ·rfl
 ·exact absurd (h.dup b a hl ha e.symm) hn
def sib (a : Nat) : Nat := if a % 2 = 0 then a + 1 else a - 1
theorem aDi (a : Nat) : sib a / 2 = a / 2 := by unfold sib; split <;> omega
theorem aHe (a : Nat) : cell (sib a) 0 = cell a 0 := by simp [cell, aDi]
theorem aWw {a b : Nat} (h : a / 2 = b / 2) : a = b ∨ a = sib b := by unfold sib; split <;> omega
def aUj (d : List Int) : mR := fun m v => ∃ i, i < d.length ∧ d.getD i 0 = -1 ∧ m = cell (sib i) 0 ∧ v = d.getD (sib i) 0
def aFy (d : List Int) (D : aF → Prop) : mR := fun m v => ∃ x, D x ∧ ∃ a, a < d.length ∧ d.getD a 0 = x.Player ∧ clm d a x.Round.toNat m v
def eV (d : List Int) (D : aF → Prop) : mR := fun m v => aUj d m v ∨ aFy d D m v
def gs (d : List Int) (x : aF) : Prop := ∃ a, a < d.length ∧ d.getD a 0 = x.Player ∧ cell a x.Round.toNat = ⟨x.Round, x.Place⟩
def Res (l : List aF) (x : aF) : Prop := x ∈ l ∧ x.Kind ≠ 5
structure OKF (d : List Int) (l : List aF) : Prop where
 two : aFr l
 slot : ∀ x, Res l x → gs d x
 fn : Func (eV d (Res l))
theorem aBo {t : aN} (ht : TreeOK t) {i : Nat} (h : i < t.Slots.length) : sib i < t.Slots.length := by
 have h1 := ht.r1
 have h2 := ht.len
 have : t.Slots.length % 2 = 0 := by
  rw [h2]
  obtain ⟨k, hk⟩ : ∃ k, t.Rounds.toNat = k + 1 := ⟨t.Rounds.toNat - 1, by omega⟩
  rw [hk, Nat.pow_succ]; omega
 unfold sib; split <;> omega
theorem DOK.sib_ne {t : aN} (ht : TreeOK t) {d : List Int} (h : DOK t d) {i : Nat} (hi : i < d.length) (hb : d.getD i 0 = -1) : d.getD (sib i) 0 ≠ -1 := by
 have hi' : i < t.Slots.length := h.len ▸ hi
 have hs := aBo ht hi'
 have hsd : sib i < d.length := h.len ▸ hs
 intro hc
 have e1 := (h.bye _ hi).1 hb
 have e2 := (h.bye _ hsd).1 hc
 rw [bT hi'] at e1
 rw [bT hs] at e2
 unfold sib at e2 hs
 by_cases he : i % 2 = 0
 ·obtain ⟨j, rfl⟩ : ∃ j, i = 2 * j := ⟨i / 2, by omega⟩
  simp only [he, if_true] at e2 hs
  exact ht.bye j hs e1 e2
 ·obtain ⟨j, rfl⟩ : ∃ j, i = 2 * j + 1 := ⟨i / 2, by omega⟩
  simp only [he, if_false, Nat.add_sub_cancel] at e2 hs
  exact ht.bye j hi' e2 e1
theorem aKq {t : aN} (ht : TreeOK t) {d : List Int} (h : DOK t d) {i j : Nat} (hi : i < d.length) (hj : j < d.length) (bi : d.getD i 0 = -1) (bj : d.getD j 0 = -1) (hc : cell (sib i) 0 = cell (sib j) 0) : i = j := by
 rw [aHe, aHe] at hc
 have hc := (aUk hc).2
 simp only [Nat.zero_add, Nat.pow_one] at hc
 rcases aWw hc with e | e
 ·exact e
 ·have := h.sib_ne ht hj bj
  rw [← e] at this
  exact absurd bi this
theorem aUy {t : aN} {d : List Int} (h : DOK t d) (hl : d.length ≤ 1000) {a : Nat} (ha : a < d.length) (hn : d.getD a 0 ≠ -1) : fZ d (d.getD a 0) = some (a : Int) := by
 rw [uW d (by omega)]
 have : d.findIdx? (fun x => decide (d.getD a 0 = x)) = some a := by
  rw [List.findIdx?_eq_some_iff_getElem]
  refine ⟨ha, by rw [bT ha]; simp, fun j hj => ?_⟩
  simp only [Bool.not_eq_true, decide_eq_false_iff_not]
  intro e
  rw [← bT (show j < d.length by omega) 0] at e
  have := h.uni ha (show j < d.length by omega) e hn
  omega
 rw [this]
theorem aQt {d : List Int} (hl : d.length ≤ 1000) {n : Int} (hn : ∀ a, a < d.length → d.getD a 0 ≠ n) : fZ d n = some (-1) := by
 rw [uW d (by omega)]
 have : d.findIdx? (fun x => decide (n = x)) = none := by
  rw [List.findIdx?_eq_none_iff]
  intro x hx
  obtain ⟨i, hi, rfl⟩ := List.mem_iff_getElem.1 hx
  have := hn i hi
  rw [bT hi] at this
  simpa using Ne.symm this
 rw [this]
end Go.Am
end
section
namespace Go.Am
theorem wE (a r : Nat) : (a : Int).fdiv (2 ^ (r + 1)) = ((a / 2 ^ (r + 1) : Nat) : Int) := by
 have e : (2 : Int) ^ (r + 1) = ((2 ^ (r + 1) : Nat) : Int) := by simp
 rw [e]; exact (Int.ofNat_fdiv a (2 ^ (r + 1))).symm
theorem aJc {a r : Nat} (hr : r ≤ 5) : lU (r : Int) (a : Int) = some (cell a r) := by
 have hw : w64 ((r : Int) + 1) = ((r + 1 : Nat) : Int) := cI (by omega)
 have hch : chk (decide (0 ≤ ((r + 1 : Nat) : Int))) = some () := by unfold chk; rw [decide_eq_true (by omega)]; rfl
 have hm : min ((r + 1 : Nat) : Int).toNat 64 = r + 1 := by omega
 unfold lU
 rw [hw, hch, Option.bind_some, hm, wE]
 rfl
theorem aLp {t : aN} {d : List Int} {P : mR} {a r : Nat} (ha : a < d.length) (hr : r ≤ 5) {won : List (aD × Int)} (h : WonIs won P) :
  ∃ b w, kY t d won a r = some (b, w) ∧ (b = true → pM P (clm d a r) ∧ WonIs w (fun m v => P m v ∨ clm d a r m v)) ∧ (b = false → ¬ pM P (clm d a r)) := by
 have key : ∀ n q k won', q + n = r + 1 → n < k → WonIs won' (fun m v => P m v ∨ (v = d.getD a 0 ∧ ∃ p, p < q ∧ m = cell a p)) → (∀ p, p < q → ∀ v, P (cell a p) v → v = d.getD a 0) →
   ∃ b w, gU a ((r + 1 : Nat) : Int) d t k q won' = some (b, w) ∧ (b = true → pM P (clm d a r) ∧ WonIs w (fun m v => P m v ∨ clm d a r m v)) ∧ (b = false → ¬ pM P (clm d a r)) := by
  intro n
  induction n with
  | zero =>
   intro q k won' hq hk hW hc
   have : q = r + 1 := by omega
   subst this
   cases k with
   | zero => omega
   | succ k =>
    have hlt : decide (((r + 1 : Nat) : Int) < ((r + 1 : Nat) : Int)) = false := decide_eq_false (by omega)
    simp only [gU, hlt, cond_false, qJ]
    refine ⟨true, won', rfl, fun _ => ⟨?_, hW.ext fun m v => ?_⟩, fun e => by cases e⟩
    ·rintro m v w hp ⟨rfl, p, hp', rfl⟩
     exact hc p (by omega) v hp
    ·constructor
     ·rintro (h | ⟨e, p, hp, e2⟩)
      ·exact .inl h
      ·exact .inr ⟨e, p, by omega, e2⟩
     ·rintro (h | ⟨e, p, hp, e2⟩)
      ·exact .inl h
      ·exact .inr ⟨e, p, by omega, e2⟩
  | succ n ih =>
   intro q k won' hq hk hW hc
   cases k with
   | zero => omega
   | succ k =>
    have hlt : decide ((q : Int) < ((r + 1 : Nat) : Int)) = true := decide_eq_true (by omega)
    simp only [gU, hlt, cond_true, aJc (show q ≤ 5 by omega), Option.bind_some, cC ha, cI (show q < 9223372036854775807 by omega)]
    rw [← bT ha 0]
    by_cases hex : ∃ v, P (cell a q) v ∧ v ≠ d.getD a 0
    ·obtain ⟨v, hv, hne⟩ := hex
     have hh : cO (cell a q) won' = true := (hW.has _).2 ⟨v, .inl hv⟩
     have hg : cK (cell a q) 0 won' = v := hW.get (.inl hv)
     simp only [hh, hg, cond_true, hne, decide_false, Bool.not_false, Option.bind_some]
     exact ⟨false, won', rfl, fun e => (by cases e), fun _ hco => hne (hco _ v _ hv ⟨rfl, q, by omega, rfl⟩)⟩
    ·have hall : ∀ v, P (cell a q) v → v = d.getD a 0 := fun v hv => Classical.byContradiction fun e => hex ⟨v, hv, e⟩
     have hall' : ∀ v, (P (cell a q) v ∨ (v = d.getD a 0 ∧ ∃ p, p < q ∧ cell a q = cell a p)) → v = d.getD a 0 := by
      rintro v (h | ⟨h, _⟩)
      ·exact hall v h
      ·exact h
     have hb : ((bif cO (cell a q) won' then some (!decide (cK (cell a q) 0 won' = d.getD a 0)) else some false) : Option Bool) = some false := by
      cases hh : cO (cell a q) won' with
      | false => rfl
      | true =>
       obtain ⟨v, hv⟩ := (hW.has _).1 hh
       rw [hW.get hv, hall' v hv]
       simp
     simp only [hb, Option.bind_some, cond_false]
     refine ih (q + 1) k _ (by omega) (by omega) ((hW.set hall').ext fun m v => ?_) fun p hp v hv => ?_
     ·constructor
      ·rintro ((h | ⟨e, p, hp, e2⟩) | ⟨e1, e2⟩)
       ·exact .inl h
       ·exact .inr ⟨e, p, by omega, e2⟩
       ·exact .inr ⟨e2, q, by omega, e1⟩
      ·rintro (h | ⟨e, p, hp, e2⟩)
       ·exact .inl (.inl h)
       ·by_cases hpq : p = q
        ·subst hpq; exact .inr ⟨e2, e⟩
        ·exact .inl (.inr ⟨e, p, by omega, e2⟩)
     ·by_cases hpq : p = q
      ·subst hpq; exact hall v hv
      ·exact hc p (by omega) v hv
 have := key (r + 1) 0 BIG won (by omega) (cX (by omega)) (h.ext fun m v => by simp) (fun p hp => by omega)
 unfold kY
 rw [cI (show r < 9223372036854775807 by omega)]
 exact this
theorem aJa {α : Type} {l : List α} (hnd : l.Nodup) {j : Nat} (hj : j < l.length) {x : α} : x ∈ l.eraseIdx j ↔ x ∈ l ∧ x ≠ l[j] := by
 rw [List.mem_eraseIdx_iff_getElem]
 constructor
 ·rintro ⟨i, hi, hne, rfl⟩; exact ⟨List.getElem_mem hi, fun e => hne ((List.getElem_inj hnd).1 e)⟩
 ·rintro ⟨hm, hne⟩
  obtain ⟨i, hi, rfl⟩ := List.mem_iff_getElem.1 hm
  exact ⟨i, hi, fun e => hne (by subst e; rfl), rfl⟩
structure ROK (t : aN) (s : aF) : Prop where
 p0 : 0 ≤ s.Player
 r0 : 0 ≤ s.Round
 r1 : s.Round < t.Rounds
theorem aIb {t : aN} {s : aF} (h : fK t s = true) (hk : s.Kind ≠ 5) : ROK t s := by
 simp only [fK, hk, if_false, Bool.and_eq_true, iX, gB] at h
 exact ⟨h.1.1, h.2.1.1.2.1.1, by omega⟩
section
variable {t : aN} (ht : TreeOK t) {d : List Int} (hD : DOK t d) {l : List aF} (hR : ∀ s, Res l s → ROK t s)
include ht hD
omit ht in
theorem aTe {s : aF} (hr : ROK t s) {a : Nat} (ha : a < d.length) (he : d.getD a 0 = s.Player) : gs d s ↔ cell a s.Round.toNat = ⟨s.Round, s.Place⟩ := by
 have hp := hr.p0
 constructor
 ·rintro ⟨b, hb, e, h⟩
  have := hD.uni ha hb (he.trans e.symm) (by omega)
  subst this; exact h
 ·exact fun h => ⟨a, ha, he, h⟩
omit ht in
theorem aFm {s : aF} (hr : ROK t s) {a : Nat} (ha : a < d.length) (he : d.getD a 0 = s.Player) (m : aD) (v : Int) : aFy d (fun x => x = s) m v ↔ clm d a s.Round.toNat m v := by
 have hp := hr.p0
 constructor
 ·rintro ⟨x, rfl, b, hb, e, h⟩
  have := hD.uni ha hb (he.trans e.symm) (by omega)
  subst this; exact h
 ·exact fun h => ⟨s, rfl, a, ha, he, h⟩
include hR in
theorem aOv {Q : (Option bA × Bool) → Prop} {about : List (aD × aF)} (ham : ∀ m s, (m, s) ∈ about ↔ (s ∈ l ∧ s.Kind ≠ 5 ∧ m = ⟨s.Round, s.Place⟩)) (hN : aFr l)
  (hok : OKF d l → ∀ won, WonIs won (eV d (Res l)) → Q (some ⟨t, d, won⟩, true)) (hbad : ¬ OKF d l → Q (none, false)) :
  ∀ n k left won, left.length = n → n < k → left.Nodup → (∀ p ∈ left, p ∈ about) → WonIs won (eV d (fun s => Res l s ∧ ((⟨s.Round, s.Place⟩ : aD), s) ∉ left)) → (∀ s, Res l s → ((⟨s.Round, s.Place⟩ : aD), s) ∉ left → gs d s) →
  jS Q d t about k won left := by
 have h5 := ht.r5
 have h32 := ht.len32
 have hl := hD.len
 intro n
 induction n with
 | zero =>
  intro k left won hn hk hnd hsub hW hg
  have : left = [] := List.length_eq_zero_iff.1 hn
  subst this
  cases k with
  | zero => omega
  | succ k =>
   simp only [jS, uE]
   have hW' : WonIs won (eV d (Res l)) := hW.ext fun m v => by simp [eV, aFy]
   exact ⟨fun _ => hok ⟨hN, fun x hx => hg x hx (by simp), hW'.func⟩ won hW', fun j p hj => by simp at hj⟩
 | succ n ih =>
  intro k left won hn hk hnd hsub hW hg
  cases k with
  | zero => omega
  | succ k =>
   simp only [jS]
   refine ⟨fun e => by subst e; simp at hn, fun j p hj => ?_⟩
   have hjl : j < left.length := by
    rcases Nat.lt_or_ge j left.length with h | h
    ·exact h
    ·rw [List.getElem?_eq_none h] at hj; cases hj
   have hpm : p ∈ left := List.mem_of_getElem? hj
   obtain ⟨m, s⟩ := p
   obtain ⟨s1, s2, rfl⟩ := (ham m s).1 (hsub _ hpm)
   have hres : Res l s := ⟨s1, s2⟩
   have hr := hR s hres
   have hp0 := hr.p0
   have hr0 := hr.r0
   have hr1 := hr.r1
   have er : s.Round = ((s.Round.toNat : Nat) : Int) := by omega
   by_cases hex : ∃ a, a < d.length ∧ d.getD a 0 = s.Player
   ·obtain ⟨a, ha, he⟩ := hex
    refine ⟨_, he ▸ aUy hD (by omega) ha (by omega), ?_⟩
    have hneg : decide ((a : Int) < 0) = false := decide_eq_false (by omega)
    have hof : lU s.Round a = some (cell a s.Round.toNat) := by rw [er]; exact aJc (by omega)
    simp only [hneg, cond_false, hof, Option.bind_some]
    refine ⟨_, rfl, ?_⟩
    by_cases hc : cell a s.Round.toNat = ⟨s.Round, s.Place⟩
    ·simp only [hc, decide_true, Bool.not_true, cond_false]
     obtain ⟨b, w, hw, hT, hF⟩ := aLp (t := t) ha (show s.Round.toNat ≤ 5 by omega) hW
     rw [← er] at hw
     refine ⟨_, hw, ?_⟩
     cases b with
     | false =>
      simp only [Bool.not_false, cond_true]
      refine hbad fun hO => hF rfl fun m v w' h1 h2 => hO.fn m v w' ?_ (.inr ⟨s, hres, a, ha, he, h2⟩)
      rcases h1 with h1 | ⟨x, hx, h1⟩
      ·exact .inl h1
      ·exact .inr ⟨x, hx.1, h1⟩
     | true =>
      simp only [Bool.not_true, cond_false]
      have hj' : left[j] = (⟨s.Round, s.Place⟩, s) := by
       rw [List.getElem?_eq_getElem hjl] at hj
       exact Option.some.inj hj
      have hmem : ∀ x : aF, ((⟨x.Round, x.Place⟩ : aD), x) ∉ left.eraseIdx j ↔ ((⟨x.Round, x.Place⟩ : aD), x) ∉ left ∨ x = s := by
       intro x
       rw [aJa hnd hjl, hj']
       constructor
       ·intro h
        by_cases hx : x = s
        ·exact .inr hx
        ·exact .inl fun hm => h ⟨hm, fun e => hx (congrArg Prod.snd e)⟩
       ·rintro (h | rfl)
        ·exact fun h2 => h h2.1
        ·exact fun h => h.2 rfl
      refine ih k _ w (by rw [List.length_eraseIdx]; simp [hjl]; omega) (by omega) (hnd.eraseIdx j) (fun q hq => hsub q (List.mem_of_mem_eraseIdx hq)) ((hT rfl).2.ext fun m v => ?_) fun x hx hxl => ?_
      ·constructor
       ·rintro ((h | ⟨x, hx, h⟩) | h)
        ·exact .inl h
        ·exact .inr ⟨x, ⟨hx.1, (hmem x).2 (.inl hx.2)⟩, h⟩
        ·exact .inr ⟨s, ⟨hres, (hmem s).2 (.inr rfl)⟩, a, ha, he, h⟩
       ·rintro (h | ⟨x, ⟨hx1, hx2⟩, h⟩)
        ·exact .inl (.inl h)
        ·rcases (hmem x).1 hx2 with hx2 | rfl
         ·exact .inl (.inr ⟨x, ⟨hx1, hx2⟩, h⟩)
         ·exact .inr ((aFm hD hr ha he m v).1 ⟨x, rfl, h⟩)
      ·rcases (hmem x).1 hxl with hxl | rfl
       ·exact hg x hx hxl
       ·exact ⟨a, ha, he, hc⟩
    ·simp only [hc, decide_false, Bool.not_false, cond_true]
     exact hbad fun hO => hc ((aTe hD hr ha he).1 (hO.slot s hres))
   ·refine ⟨_, aQt (by omega) fun a ha e => hex ⟨a, ha, e⟩, ?_⟩
    simp only [show decide ((-1 : Int) < 0) = true by decide, cond_true]
    refine ⟨_, rfl, ?_⟩
    simp only [cond_true]
    refine hbad fun hO => ?_
    obtain ⟨a, ha, e, _⟩ := hO.slot s hres
    exact hex ⟨a, ha, e⟩
theorem aQm {Q : (Option bA × Bool) → Prop} {about : List (aD × aF)} (hgo : ∀ won, WonIs won (aUj d) → qI Q d won t about) : gS Q d.length d t about BIG 0 [] := by
 have h32 := ht.len32
 have hl := hD.len
 refine qB (S := List (aD × Int)) (fun k i won => gS Q d.length d t about k i won) d.length (fun p => p)
  (fun i won => WonIs won (fun m v => ∃ j, j < i ∧ j < d.length ∧ d.getD j 0 = -1 ∧ m = cell (sib j) 0 ∧ v = d.getD (sib j) 0)) ?_ ?_ BIG 0 [] (cX (by omega)) (WonIs.nil.ext fun m v => by simp)
 ·intro k i won hi hW ih
  simp only [gS, Int.ofNat_lt, hi, decide_true, cond_true, cC hi, cI (show i < 9223372036854775807 by omega)]
  refine ⟨_, rfl, ?_⟩
  rw [← bT hi 0]
  by_cases hb : d.getD i 0 = -1
  ·simp only [hb, decide_true, cond_true]
   have hx : aMp (i : Int) 1 = ((sib i : Nat) : Int) := aYs ⟨i, by omega⟩
   have hs : sib i < d.length := by rw [hl]; exact aBo ht (by omega)
   obtain ⟨b, w, hw, hT, hF⟩ := aLp (t := t) hs (show 0 ≤ 5 by omega) hW
   rw [hx]
   refine ⟨_, hw, ih w ?_⟩
   have hco : pM (fun m v => ∃ j, j < i ∧ j < d.length ∧ d.getD j 0 = -1 ∧ m = cell (sib j) 0 ∧ v = d.getD (sib j) 0) (clm d (sib i) 0) := by
    rintro m v w' ⟨j, h1, h2, h3, h4, h5⟩ ⟨e1, q, hq, e2⟩
    have : q = 0 := by omega
    subst this
    have := aKq ht hD hi h2 hb h3 (e2.symm.trans h4)
    omega
   have hbt : b = true := by
    cases b with
    | true => rfl
    | false => exact absurd hco (hF rfl)
   refine (hT hbt).2.ext fun m v => ?_
   constructor
   ·rintro (⟨j, h1, h2⟩ | ⟨e1, q, hq, e2⟩)
    ·exact ⟨j, by omega, h2⟩
    ·have : q = 0 := by omega
     subst this
     exact ⟨i, by omega, hi, hb, e2, e1⟩
   ·rintro ⟨j, h1, h2, h3, h4, h5⟩
    by_cases hji : j = i
    ·subst hji; exact .inr ⟨h5, 0, by omega, h4⟩
    ·exact .inl ⟨j, by omega, h2, h3, h4, h5⟩
  ·simp only [hb, decide_false, cond_false]
   refine ih won (hW.ext fun m v => ?_)
   constructor
   ·rintro ⟨j, h1, h2⟩; exact ⟨j, by omega, h2⟩
   ·rintro ⟨j, h1, h2, h3, h4⟩
    by_cases hji : j = i
    ·subst hji; exact absurd h3 hb
    ·exact ⟨j, by omega, h2, h3, h4⟩
 ·intro k i won hi hW
  have hlt : decide ((i : Int) < (d.length : Int)) = false := decide_eq_false (by omega)
  simp only [gS, hlt, cond_false]
  exact hgo won (hW.ext fun m v => ⟨fun ⟨j, _, h⟩ => ⟨j, h⟩, fun ⟨j, h⟩ => ⟨j, by have := h.1; omega, h⟩⟩)
end
def kG (t : aN) (l : List aF) : Option (List Int) := match aAh t l with
 | some (d, U) => if U.length = (dL l).length then some d else none
 | none => none
def AGR (t : aN) (l : List aF) (d : List Int) : Prop := kG t l = some d ∧ OKF d l
theorem aLj {L : List aF} (hL : LOK L) {S : List Int} : ∀ {n i : Nat} {d ever : List Int} {U : List aF} {d' : List Int} {U' : List aF}, GI L S i d ever U → i + n = S.length → (∀ a, a < d.length → -1 ≤ d.getD a 0) → iO L n i d ever U = some (d', U') → ∀ a, a < d'.length → -1 ≤ d'.getD a 0
 | 0, i, d, ever, U, d', U', h, hn, hr, he => by
  simp only [iO, Option.some.injEq, Prod.mk.injEq] at he
  obtain ⟨rfl, rfl⟩ := he
  exact hr
 | n + 1, i, d, ever, U, d', U', h, hn, hr, he => by
  unfold iO at he
  have hi : i < S.length := by omega
  have hid : i < d.length := by rw [h.len]; exact hi
  cases hs : gX L i (L.length + 1) (d.getD i 0) ever U with
  | none => rw [hs] at he; simp at he
  | some q =>
   obtain ⟨now', ever', U1⟩ := q
   rw [hs] at he
   obtain ⟨_, _, hnow, _⟩ := aDk hL (h.start hi) hs
   refine aLj hL (h.next hL hi hs) (by omega) (fun a ha => ?_) he
   rw [List.length_set] at ha
   rw [lB hid]
   split
   ·rcases hnow with e | ⟨_, e, _⟩
    ·rw [e]; exact hr i hid
    ·omega
   ·exact hr a ha
theorem xY {t : aN} (ht : TreeOK t) : yO t.Slots := ⟨ht.rng, ht.bye, ht.dup⟩
theorem aIa {t : aN} {l : List aF} (hs : ∀ s ∈ l, fK t s = true) : LOK (dL l) := by
 intro s hm
 simp only [dL, List.mem_filter, nG, isL, decide_eq_true_eq] at hm
 have := hs s hm.1
 simp only [fK, hm.2, if_true, Bool.and_eq_true, iX] at this
 omega
theorem aTh {t : aN} (ht : TreeOK t) {l : List aF} (hs : ∀ s ∈ l, fK t s = true) {d : List Int} {U : List aF} (h : aAh t l = some (d, U)) : DOK t d := by
 have hL := aIa hs
 have hG := aBt (dL l) (xY ht)
 obtain ⟨ever, hI⟩ := aDb hL hG (by omega) h
 refine ⟨hI.len, hI.dup, fun a ha => hI.bye a ha, aLj hL hG (by omega) (fun a ha => ?_) h⟩
 rw [bT ha]; exact (ht.rng a ha).1
theorem yG {t : aN} (ht : TreeOK t) {l : List aF} (hs : ∀ s ∈ l, fK t s = true) {d : List Int} (h : kG t l = some d) : DOK t d := by
 unfold kG at h
 split at h
 ·rename_i d' U hr
  split at h
  ·cases h; exact aTh ht hs hr
  ·cases h
 ·cases h
theorem aIg {t : aN} (ht : TreeOK t) {l : List aF} (hs : ∀ s ∈ l, fK t s = true) (hl : l.length ≤ 500) {Q : (Option bA × Bool) → Prop}
  (hok : ∀ d, AGR t l d → ∀ won, WonIs won (eV d (Res l)) → Q (some ⟨t, d, won⟩, true)) (hbad : (∀ d, ¬ AGR t l d) → Q (none, false)) : rC t l Q := by
 have h32 := ht.len32
 have hll := aCu (l := l)
 unfold rC
 refine ⟨t.Slots, by unfold jU; rw [fQ (by simp; omega)]; rfl, ?_⟩
 refine aQn (by omega) (fun h => hbad fun d hd => h hd.2.two) fun hN lucky about hLA => ?_
 unfold qH
 have hLn : (dL l).Nodup := (aAx l).filter _
 refine aNz hLn _ (xY ht) (aIa hs) h32 (by omega) (lk := lucky) ⟨hLA.ln, fun s => ?_⟩ (fun d U hp hU => ?_) fun hno d lk => ?_
 ·rw [hLA.lm]; simp [dL, nG, isL]
 ·have hpo : kG t l = some d := by unfold kG aAh; rw [hp]; simp [hU]
  have hD := yG ht hs hpo
  simp only [Bool.not_true, cond_false]
  refine aQm ht hD fun won hW => ?_
  have habn : about.Nodup := (List.Pairwise.of_map (·.1) (fun a b h e => h (e ▸ rfl)) hLA.an)
  unfold qI aBl
  refine aOv ht hD (fun s hr => aIb (hs s hr.1) hr.2) hLA.am hN (fun hO won hW => hok d ⟨hpo, hO⟩ won hW) (fun hO => hbad fun d' hd' => ?_) about.length BIG about won rfl (cX ?_) habn (fun p hp => hp) (hW.ext fun m v => ?_) fun s hr hn => absurd ((hLA.am _ _).2 ⟨hr.1, hr.2, rfl⟩) hn
  ·have := hd'.1
   rw [hpo] at this
   cases this
   exact hO hd'.2
  ·have : about.length ≤ l.length := by
    have := nU (l := about) (m := l.map fun s => ((⟨s.Round, s.Place⟩ : aD), s)) habn fun x hx => ?_
    ·simpa using this
    ·obtain ⟨m, s⟩ := x
     obtain ⟨a1, a2, rfl⟩ := (hLA.am m s).1 hx
     exact List.mem_map.2 ⟨s, a1, rfl⟩
   omega
  ·constructor
   ·exact .inl
   ·rintro (h | ⟨x, ⟨hx1, hx2⟩, _⟩)
    ·exact h
    ·exact absurd ((hLA.am _ _).2 ⟨hx1.1, hx1.2, rfl⟩) hx2
 ·simp only [Bool.not_false, cond_true]
  refine hbad fun d' hd' => ?_
  have := hd'.1
  unfold kG at this
  split at this
  ·rename_i d2 U hr
   split at this
   ·rename_i hU; exact hno d2 U hr hU
   ·cases this
  ·cases this
end Go.Am
end
section
namespace Go.Am
def mat (must : List (List Int)) (r p : Nat) : Int := (must.getD r []).getD p (-2)
structure MustIs (t : aN) (must : List (List Int)) (P : mR) : Prop where
 len : must.length = t.Rounds.toNat
 row : ∀ r : Nat, r < t.Rounds.toNat → (must.getD r []).length = bV t r
 mem : ∀ (r p : Nat) (v : Int), r < t.Rounds.toNat → p < bV t r → ((mat must r p = v ∧ v ≠ -2) ↔ P ⟨r, p⟩ v)
theorem MustIs.ext {t : aN} {must : List (List Int)} {P Q : mR} (h : MustIs t must P) (he : ∀ m v, P m v ↔ Q m v) : MustIs t must Q := ⟨h.len, h.row, fun r p v h1 h2 => (h.mem r p v h1 h2).trans (he _ v)⟩
theorem MustIs.set {t : aN} {must : List (List Int)} {P : mR} (h : MustIs t must P) {r p : Nat} {n : Int} (hr : r < t.Rounds.toNat) (hp : p < bV t r) (hn : n ≠ -2) (hc : ∀ v, P ⟨r, p⟩ v → v = n) :
  MustIs t (must.set r ((must.getD r []).set p n)) (fun m v => P m v ∨ (m = ⟨r, p⟩ ∧ v = n)) := by
 have hl := h.len
 have hrow := h.row r hr
 have hrl : r < must.length := by omega
 have hg : ∀ r', (must.set r ((must.getD r []).set p n)).getD r' [] = if r' = r then (must.getD r []).set p n else must.getD r' [] := by
  intro r'
  by_cases e : r' = r
  ·subst e; simp [List.getD, hrl]
  ·simp [List.getD, e, List.getElem?_set, Ne.symm e]
 refine ⟨by rw [List.length_set]; exact hl, fun r' hr' => ?_, fun r' p' v hr' hp' => ?_⟩
 ·rw [hg]
  split
  ·rename_i e; subst e; rw [List.length_set]; exact h.row r' hr'
  ·exact h.row r' hr'
 ·have hm := h.mem r' p' v hr' hp'
  unfold mat at hm ⊢
  rw [hg]
  by_cases e : r' = r
  ·subst e
   rw [if_pos rfl]
   by_cases e2 : p' = p
   ·subst e2
    have : ((must.getD r' []).set p' n).getD p' (-2) = n := by simp [List.getD]; rw [List.getElem?_set]; simp; have := hrow; simp [List.getD] at this; simp [this, hp]
    rw [this]
    constructor
    ·rintro ⟨rfl, _⟩; exact .inr ⟨rfl, rfl⟩
    ·rintro (hP | ⟨_, rfl⟩)
     ·exact ⟨(hc v hP).symm, (hm.2 hP).2⟩
     ·exact ⟨rfl, hn⟩
   ·have : ((must.getD r' []).set p n).getD p' (-2) = (must.getD r' []).getD p' (-2) := by simp only [List.getD]; rw [List.getElem?_set, if_neg (Ne.symm e2)]
    rw [this, hm]
    constructor
    ·exact .inl
    ·rintro (hP | ⟨e3, _⟩)
     ·exact hP
     ·simp only [aD.mk.injEq] at e3; omega
  ·rw [if_neg e, hm]
   constructor
   ·exact .inl
   ·rintro (hP | ⟨e3, _⟩)
    ·exact hP
    ·simp only [aD.mk.injEq] at e3; omega
theorem MustIs.func {t : aN} {must : List (List Int)} {P : mR} (h : MustIs t must P) {r p : Nat} (hr : r < t.Rounds.toNat) (hp : p < bV t r) {v w : Int} (h1 : P ⟨r, p⟩ v) (h2 : P ⟨r, p⟩ w) : v = w :=
 ((h.mem r p v hr hp).2 h1).1.symm.trans ((h.mem r p w hr hp).2 h2).1
section
variable {t : aN} (ht : TreeOK t) {d : List Int} (hD : DOK t d)
include ht
theorem rI {a r : Nat} (ha : a < t.Slots.length) (hr : r < t.Rounds.toNat) : a / 2 ^ (r + 1) < bV t r := by
 rw [ht.len] at ha
 unfold bV
 rw [Nat.div_lt_iff_lt_mul (Nat.two_pow_pos _), ← Nat.pow_add]
 have e : t.Rounds.toNat - 1 - (r : Int).toNat + (r + 1) = t.Rounds.toNat := by simp; omega
 rw [e]; exact ha
theorem wJ : 2 * bV t 0 = t.Slots.length := by
 have h1 := ht.r1
 rw [ht.len]; unfold bV
 have e : t.Rounds.toNat = (t.Rounds.toNat - 1 - (0 : Int).toNat) + 1 := by simp; omega
 conv => rhs; rw [e, Nat.pow_succ]
 omega
omit ht in
def uZ (d : List Int) (p : Nat) : Int := if d.getD (2 * p + 1) 0 = -1 then d.getD (2 * p) 0 else if d.getD (2 * p) 0 = -1 then d.getD (2 * p + 1) 0 else -2
def uI (t : aN) (d : List Int) (r : Nat) : List Int := (List.range (bV t r)).map fun p => if r = 0 then uZ d p else -2
include hD in
theorem aXe (a0 : Int → List (List Int) → List Int → Option (aV × Bool)) (l : List aF) (o4 : aV) (M : List (List Int)) (d2 : List Int) {r : Nat} (hr : r < t.Rounds.toNat) :
  eZ a0 l d r t o4 M d2 BIG 0 [] = lZ a0 l d r t o4 M d2 (uI t d r) := by
 have hpl := kF ht (r := (r : Int))
 have h5 := ht.r5
 have hP := wQ ht (r := (r : Int)) (by omega) (by omega)
 have hp0 := wJ ht
 have hlen := hD.len
 have := fP (S := List Int) (fun k p row => eZ a0 l d r t o4 M d2 k p row) (bV t r) (fun _ _ => lZ a0 l d r t o4 M d2 (uI t d r)) (fun p row => row = (List.range p).map fun p => if r = 0 then uZ d p else -2) ?_ ?_ BIG [] (cX (by omega)) (by simp)
 ·exact this
 ·rintro k p row hp rfl ih
  have happ : ∀ v : Int, app 8 ((List.range p).map fun p => if r = 0 then uZ d p else -2) [v] = some (((List.range p).map fun p => if r = 0 then uZ d p else -2) ++ [v]) := fun v => fQ (by simp; omega)
  simp only [eZ, hP, Option.bind_some, Int.ofNat_lt, hp, decide_true, cond_true, happ, cI (show p < 9223372036854775807 by omega)]
  have fin : ∀ v : Int, v = (if r = 0 then uZ d p else -2) → eZ a0 l d r t o4 M d2 k ((p + 1 : Nat) : Int) (((List.range p).map fun p => if r = 0 then uZ d p else -2) ++ [v]) = lZ a0 l d r t o4 M d2 (uI t d r) := by
   intro v hv
   refine ih _ ?_
   rw [List.range_succ, List.map_append, hv]; rfl
  by_cases h0 : r = 0
  ·subst h0
   have hpl2 : p < bV t 0 := hp
   have w1 : w64 (2 * (p : Int)) = ((2 * p : Nat) : Int) := by rw [dJ (by omega) (by omega)]; omega
   have w2 : w64 (((2 * p : Nat) : Int) + 1) = ((2 * p + 1 : Nat) : Int) := cI (by omega)
   have i1 : 2 * p < d.length := by omega
   have i2 : 2 * p + 1 < d.length := by omega
   simp only [w1, w2, cC i1, cC i2, Option.bind_some, Int.natCast_zero, decide_true, cond_true]
   rw [← bT i1 0, ← bT i2 0]
   by_cases b1 : d.getD (2 * p) 0 = -1
   ·by_cases b2 : d.getD (2 * p + 1) 0 = -1
    ·simp only [b1, b2, decide_true, cond_true]
     exact fin _ (by simp only [uZ, b1, b2, if_true])
    ·simp only [b1, b2, decide_true, decide_false, cond_true, cond_false]
     exact fin _ (by simp only [uZ, b1, b2, if_true, if_false])
   ·by_cases b2 : d.getD (2 * p + 1) 0 = -1
    ·simp only [b1, b2, decide_true, decide_false, cond_true, cond_false]
     exact fin _ (by simp only [uZ, b2, if_true])
    ·simp only [b1, b2, decide_false, cond_false]
     exact fin _ (by simp only [uZ, b1, b2, if_true, if_false])
  ·have hr0 : decide ((r : Int) = 0) = false := decide_eq_false (by omega)
   simp only [hr0, cond_false, Option.bind_some]
   exact fin _ (by rw [if_neg h0])
 ·intro k row hrow
  have hlt : decide ((bV t r : Int) < (bV t r : Int)) = false := decide_eq_false (by omega)
  simp only [eZ, hP, Option.bind_some, hlt, cond_false, hrow, uI]
include hD in
theorem aVl (l : List aF) (o4 : aV) (d2 : List Int) : kC l d t o4 BIG 0 [] d2 = lY l d o4 ((List.range t.Rounds.toNat).map (uI t d)) d2 := by
 have h1 := ht.r1
 have h5 := ht.r5
 have e : t.Rounds = ((t.Rounds.toNat : Nat) : Int) := by omega
 have := fP (S := List (List Int)) (fun k r M => kC l d t o4 k r M d2) t.Rounds.toNat (fun _ _ => lY l d o4 ((List.range t.Rounds.toNat).map (uI t d)) d2) (fun r M => M = (List.range r).map (uI t d)) ?_ ?_ BIG [] (cX (by omega)) (by simp)
 ·exact this
 ·rintro k r M hr rfl ih
  have hlt : decide ((r : Int) < t.Rounds) = true := decide_eq_true (by omega)
  simp only [kC, hlt, cond_true, aXe ht hD _ l o4 _ d2 hr, lZ, wW, cI (show r < 9223372036854775807 by omega)]
  rw [fQ (by simp; omega), Option.bind_some]
  refine ih _ ?_
  rw [List.range_succ, List.map_append]; rfl
 ·rintro k M rfl
  have hlt : decide (((t.Rounds.toNat : Nat) : Int) < t.Rounds) = false := decide_eq_false (by omega)
  simp only [kC, hlt, cond_false]
include hD in
theorem aYx : MustIs t ((List.range t.Rounds.toNat).map (uI t d)) (aUj d) := by
 have hg : ∀ r, r < t.Rounds.toNat → ((List.range t.Rounds.toNat).map (uI t d)).getD r [] = uI t d r := by
  intro r hr
  rw [bT (by simpa using hr)]; simp
 have hp0 := wJ ht
 have hlen := hD.len
 refine ⟨by simp, fun r hr => by rw [hg r hr]; simp [uI], fun r p v hr hp => ?_⟩
 have hm : mat ((List.range t.Rounds.toNat).map (uI t d)) r p = if r = 0 then uZ d p else -2 := by
  unfold mat
  rw [hg r hr, bT (by simpa [uI] using hp)]
  simp [uI]
 rw [hm]
 by_cases h0 : r = 0
 ·subst h0
  have hpl2 : p < bV t 0 := hp
  have i1 : 2 * p < d.length := by omega
  have i2 : 2 * p + 1 < d.length := by omega
  have s1 : sib (2 * p) = 2 * p + 1 := by unfold sib; split <;> omega
  have s2 : sib (2 * p + 1) = 2 * p := by unfold sib; split <;> omega
  rw [if_pos rfl]
  constructor
  ·rintro ⟨hv, hn⟩
   unfold uZ at hv
   split at hv
   ·rename_i b; exact ⟨2 * p + 1, i2, b, by rw [s2]; simp [cell], by rw [s2]; exact hv.symm⟩
   ·split at hv
    ·rename_i b; exact ⟨2 * p, i1, b, by rw [s1]; simp [cell]; omega, by rw [s1]; exact hv.symm⟩
    ·exact absurd hv.symm hn
  ·rintro ⟨i, hi, hb, hc, rfl⟩
   have hsib := hD.sib_ne ht hi hb
   have hsl : sib i < d.length := by rw [hlen]; exact aBo ht (by omega)
   have hrng := hD.rng _ hsl
   refine ⟨?_, by omega⟩
   have : p = i / 2 := by
    rw [aHe] at hc
    simp only [cell, aD.mk.injEq] at hc
    omega
   rcases (show i = 2 * p ∨ i = 2 * p + 1 by omega) with rfl | rfl
   ·rw [s1] at hsib ⊢
    unfold uZ; rw [if_neg hsib, if_pos hb]
   ·rw [s2]
    unfold uZ; rw [if_pos hb]
 ·rw [if_neg h0]
  constructor
  ·rintro ⟨rfl, hn⟩; exact absurd rfl hn
  ·rintro ⟨i, hi, hb, hc, _⟩
   simp only [cell, aD.mk.injEq] at hc
   omega
end
end Go.Am
end
section
namespace Go.Am
abbrev aEy : Option (aV × Bool) := some (aV.mk [] [], false)
def Out (t : aN) (d : List Int) (l : List aF) (o : Option (aV × Bool)) : Prop :=
 (OKF d l → ∃ must, o = some (⟨d, must⟩, true) ∧ MustIs t must (eV d (Res l))) ∧ (¬ OKF d l → o = aEy)
theorem Out.bad {t : aN} {d : List Int} {l : List aF} (h : ¬ OKF d l) : Out t d l aEy := ⟨fun h' => absurd h' h, fun _ => rfl⟩
section
variable {t : aN} (ht : TreeOK t) {d : List Int} (hD : DOK t d) {l : List aF} (hR : ∀ s, Res l s → ROK t s)
include ht hD
theorem aSk {P : mR} {x : aF} (hx : ROK t x) {a : Nat} (ha : a < d.length) (he : d.getD a 0 = x.Player) (a4 : Int → aV → List (List Int) → Option (aV × Bool)) (all : List aF) (i : Int) (o4 : aV)
  {must : List (List Int)} (h : MustIs t must P) (hok : pM P (clm d a x.Round.toNat) → ∀ must', MustIs t must' (fun m v => P m v ∨ clm d a x.Round.toNat m v) → Out t d l (a4 (w64 (i + 1)) o4 must'))
  (hbad : ¬ pM P (clm d a x.Round.toNat) → ¬ OKF d l) : Out t d l (jL a4 d all i a d x BIG 0 o4 must) := by
 have h5 := ht.r5
 have hr0 := hx.r0
 have hr1 := hx.r1
 have hp0 := hx.p0
 have hal : a < t.Slots.length := by rw [← hD.len]; exact ha
 have key : ∀ n q k must', q + n = x.Round.toNat + 1 → n < k → MustIs t must' (fun m v => P m v ∨ (v = d.getD a 0 ∧ ∃ p, p < q ∧ m = cell a p)) → (∀ p, p < q → ∀ v, P (cell a p) v → v = d.getD a 0) →
   Out t d l (jL a4 d all i a d x k q o4 must') := by
  intro n
  induction n with
  | zero =>
   intro q k must' hq hk hW hc
   cases k with
   | zero => omega
   | succ k =>
    have hlt : decide ((q : Int) ≤ x.Round) = false := decide_eq_false (by omega)
    simp only [jL, hlt, cond_false, vX, oU]
    refine hok ?_ must' (hW.ext fun m v => ?_)
    ·rintro m v w hp ⟨rfl, p, hp', rfl⟩
     exact hc p (by omega) v hp
    ·constructor
     ·rintro (h | ⟨e, p, hp, e2⟩)
      ·exact .inl h
      ·exact .inr ⟨e, p, by omega, e2⟩
     ·rintro (h | ⟨e, p, hp, e2⟩)
      ·exact .inl h
      ·exact .inr ⟨e, p, by omega, e2⟩
  | succ n ih =>
   intro q k must' hq hk hW hc
   cases k with
   | zero => omega
   | succ k =>
    have hlt : decide ((q : Int) ≤ x.Round) = true := decide_eq_true (by omega)
    have hqR : q < t.Rounds.toNat := by omega
    have hw : w64 ((q : Int) + 1) = ((q + 1 : Nat) : Int) := cI (by omega)
    have hu : IntKind.u64.wrap ((q + 1 : Nat) : Int) = ((q + 1 : Nat) : Int) := sU (by omega) (by omega)
    have hch : chk (decide (0 ≤ ((q + 1 : Nat) : Int))) = some () := by unfold chk; rw [decide_eq_true (by omega)]; rfl
    have hmin : min ((q + 1 : Nat) : Int).toNat 64 = q + 1 := by omega
    have hml := hW.len
    have hrl := hW.row q hqR
    have hpin := rI ht hal hqR
    have hql : q < must'.length := by omega
    have hi1 : idx must' (q : Int) = some (must'.getD q []) := by rw [cC hql, bT hql]
    have hi2 : idx (must'.getD q []) ((a / 2 ^ (q + 1) : Nat) : Int) = some (mat must' q (a / 2 ^ (q + 1))) := by
     have hlt' : a / 2 ^ (q + 1) < (must'.getD q []).length := by omega
     rw [cC hlt']; exact congrArg some (bT hlt' (-2)).symm
    simp only [jL, hlt, cond_true, hw, hu, hch, hmin, wE, Option.bind_some, hi1, hi2]
    have hmem := fun v => hW.mem q (a / 2 ^ (q + 1)) v hqR hpin
    have hcell : (⟨(q : Int), ((a / 2 ^ (q + 1) : Nat) : Int)⟩ : aD) = cell a q := rfl
    rw [hcell] at hmem
    by_cases hex : mat must' q (a / 2 ^ (q + 1)) ≠ -2 ∧ mat must' q (a / 2 ^ (q + 1)) ≠ x.Player
    ·simp only [hex.1, hex.2, decide_false, Bool.not_false, cond_true, Option.bind_some]
     refine Out.bad (hbad fun hco => hex.2 ?_)
     rcases (hmem _).1 ⟨rfl, hex.1⟩ with h | ⟨h, _⟩
     ·rw [← he]; exact hco _ _ _ h ⟨rfl, q, by omega, rfl⟩
     ·rw [h, he]
    ·have hb : ((bif !decide (mat must' q (a / 2 ^ (q + 1)) = -2) then some (!decide (mat must' q (a / 2 ^ (q + 1)) = x.Player)) else some false) : Option Bool) = some false := by
      rw [dQ, Option.some.injEq, Bool.and_eq_false_iff]
      by_cases h1 : mat must' q (a / 2 ^ (q + 1)) = -2
      ·exact .inl (by simp [h1])
      ·exact .inr (by simpa using fun h2 => hex ⟨h1, h2⟩)
     have hall : ∀ v, (P (cell a q) v ∨ (v = d.getD a 0 ∧ ∃ p, p < q ∧ cell a q = cell a p)) → v = d.getD a 0 := by
      intro v hv
      have ⟨h1, h2⟩ := (hmem v).2 hv
      rw [he]
      refine Classical.byContradiction fun hne => hex ⟨by rw [h1]; exact h2, by rw [h1]; exact hne⟩
     simp only [hb, Option.bind_some, cond_false]
     simp only [← he]
     have e8 : ((q : Int)).toNat = q := by omega
     have e9 : (((a / 2 ^ (q + 1) : Nat)) : Int).toNat = a / 2 ^ (q + 1) := Int.toNat_natCast _
     rw [e8, e9]
     rw [← he] at hp0
     refine ih (q + 1) k _ (by omega) (by omega) ((hW.set hqR hpin (n := d.getD a 0) (by omega) hall).ext fun m v => ?_) fun p hp v hv => ?_
     ·rw [hcell]
      constructor
      ·rintro ((h | ⟨e, p, hp, e2⟩) | ⟨e1, e2⟩)
       ·exact .inl h
       ·exact .inr ⟨e, p, by omega, e2⟩
       ·exact .inr ⟨e2, q, by omega, e1⟩
      ·rintro (h | ⟨e, p, hp, e2⟩)
       ·exact .inl (.inl h)
       ·by_cases hpq : p = q
        ·subst hpq; exact .inr ⟨e2, e⟩
        ·exact .inl (.inr ⟨e, p, by omega, e2⟩)
     ·by_cases hpq : p = q
      ·subst hpq; exact hall v (.inl hv)
      ·exact hc p (by omega) v hv
 exact key (x.Round.toNat + 1) 0 BIG must (by omega) (cX (by omega)) (h.ext fun m v => by simp) (fun p hp => by omega)
omit ht in
theorem aVd (hl : d.length ≤ 1000) {x : aF} (hp : 0 ≤ x.Player) (a4 : Int → aV → List (List Int) → Option (aV × Bool)) (all : List aF) (i : Int) (o4 : aV) (must : List (List Int)) (d2 : List Int) :
  (∀ a, a < d.length → d.getD a 0 = x.Player → eS a4 d all i o4 must d2 x BIG (-1) 0 = iT a4 d all i a o4 must d2 x) ∧
  ((∀ a, a < d.length → d.getD a 0 ≠ x.Player) → eS a4 d all i o4 must d2 x BIG (-1) 0 = iT a4 d all i (-1) o4 must d2 x) := by
 refine ⟨fun a ha he => ?_, fun hno => ?_⟩
 ·have := fP (S := Int) (fun k s at' => eS a4 d all i o4 must d2 x k at' s) d.length (fun s at' => iT a4 d all i (if s ≤ a then (a : Int) else at') o4 must d2 x) (fun _ _ => True) ?_ ?_ BIG (-1) (cX (by omega)) trivial
  ·simpa using this
  ·intro k s at' hs _ ih
   simp only [eS, Int.ofNat_lt, hs, decide_true, cond_true, cC hs, Option.bind_some, cI (show s < 9223372036854775807 by omega), ih _ trivial]
   rw [← bT hs 0]
   by_cases hsa : s = a
   ·subst hsa
    simp only [he, decide_true, cond_true]
    rw [if_neg (by omega), if_pos (Nat.le_refl s)]
   ·have : d.getD s 0 ≠ x.Player := fun e => hsa (hD.uni hs ha (e.trans he.symm) (by omega))
    simp only [this, decide_false, cond_false]
    by_cases hle : s ≤ a
    ·rw [if_pos hle, if_pos (by omega)]
    ·rw [if_neg hle, if_neg (by omega)]
  ·intro k at' _
   have hlt : decide ((d.length : Int) < (d.length : Int)) = false := decide_eq_false (by omega)
   simp only [eS, hlt, cond_false]
   rw [if_neg (by omega)]
 ·have := fP (S := Int) (fun k s at' => eS a4 d all i o4 must d2 x k at' s) d.length (fun s at' => iT a4 d all i at' o4 must d2 x) (fun _ _ => True) ?_ ?_ BIG (-1) (cX (by omega)) trivial
  ·exact this
  ·intro k s at' hs _ ih
   simp only [eS, Int.ofNat_lt, hs, decide_true, cond_true, cC hs, Option.bind_some, cI (show s < 9223372036854775807 by omega), ih _ trivial]
   rw [← bT hs 0]
   simp only [hno s hs, decide_false, cond_false]
  ·intro k at' _
   have hlt : decide ((d.length : Int) < (d.length : Int)) = false := decide_eq_false (by omega)
   simp only [eS, hlt, cond_false]
include hR in
theorem aTs (hl : l.length ≤ 1000) : Out t d l (lY l d (aV.mk [] []) ((List.range t.Rounds.toNat).map (uI t d)) d) := by
 have h5 := ht.r5
 have h32 := ht.len32
 have hlen := hD.len
 have hol := xC l
 unfold lY
 rw [aPv l hl, Option.bind_some]
 refine qB (S := List (List Int)) (fun k i must => fA d (cD l) d k i (aV.mk [] []) must) (cD l).length (Out t d l)
  (fun i must => MustIs t must (eV d (Res ((cD l).take i))) ∧ (∀ x, Res ((cD l).take i) x → gs d x) ∧ aFr ((cD l).take i)) ?_ ?_ BIG 0 _ (cX (by omega)) ?_
 ·intro k i must hi ⟨hM, hg, hN⟩ ih
  have hmt : ∀ x, x ∈ (cD l).take (i + 1) ↔ x ∈ (cD l).take i ∨ x = (cD l)[i] := fun x => by
   rw [List.take_succ_eq_append_getElem hi, List.mem_append, List.mem_singleton]
  have hsub : ∀ x, x ∈ (cD l).take i → x ∈ l := fun x hx => (nG l x).1 (List.mem_of_mem_take hx)
  simp only [fA, Int.ofNat_lt, hi, decide_true, cond_true, cC hi, Option.bind_some]
  by_cases hk : (cD l)[i].Kind = 5
  ·simp only [hk, decide_true, cond_true, oU, cI (show i < 9223372036854775807 by omega)]
   have hres : ∀ x, Res ((cD l).take (i + 1)) x ↔ Res ((cD l).take i) x := by
    intro x
    unfold Res
    rw [hmt]
    constructor
    ·rintro ⟨h | h, h2⟩
     ·exact ⟨h, h2⟩
     ·exact absurd (h ▸ hk) h2
    ·rintro ⟨h, h2⟩; exact ⟨.inl h, h2⟩
   refine ih must ⟨hM.ext fun m v => ?_, fun x hx => hg x ((hres x).1 hx), fun x hx y hy kx ky => hN x ((hres x).1 ⟨hx, kx⟩).1 y ((hres y).1 ⟨hy, ky⟩).1 kx ky⟩
   simp only [eV, aFy, hres]
  ·have hmi : (cD l)[i] ∈ l := (nG l _).1 (List.getElem_mem hi)
   have hresx : Res l (cD l)[i] := ⟨hmi, hk⟩
   have hx := hR _ hresx
   have hxp := hx.p0
   have hxr0 := hx.r0
   have hxr1 := hx.r1
   simp only [hk, decide_false, cond_false]
   have htwo : kD (fA d (cD l) d k) d (cD l) i must d (cD l)[i] BIG 0 (aV.mk [] []) =
     bif (List.range i).all fun j => !(!decide ((cD l)[j]?.any (fun y => decide (y.Kind = 5)) = true) && decide ((cD l)[j]?.any (fun y => decide (y.Round = (cD l)[i].Round)) = true) && decide ((cD l)[j]?.any (fun y => decide (y.Place = (cD l)[i].Place)) = true)) then
      sJ (fA d (cD l) d k) d (cD l) i (aV.mk [] []) must d (cD l)[i] else aEy := by
    refine aCt (fun q j => kD (fA d (cD l) d k) d (cD l) i must d (cD l)[i] q j (aV.mk [] [])) i _ aEy _ ?_ ?_ BIG (cX (by omega))
    ·intro q j hj
     have hj' : j < (cD l).length := by omega
     simp only [kD, Int.ofNat_lt, hj, decide_true, cond_true, cC hj', Option.bind_some, dQ, cI (show j < 9223372036854775807 by omega), List.getElem?_eq_getElem hj', Option.any_some, decide_eq_true_eq]
     cases (!decide ((cD l)[j].Kind = 5) && decide ((cD l)[j].Round = (cD l)[i].Round) && decide ((cD l)[j].Place = (cD l)[i].Place)) <;> rfl
    ·intro q
     have hlt : decide ((i : Int) < (i : Int)) = false := decide_eq_false (by omega)
     simp only [kD, hlt, cond_false]
   rw [htwo]
   cases hall : (List.range i).all fun j => !(!decide ((cD l)[j]?.any (fun y => decide (y.Kind = 5)) = true) && decide ((cD l)[j]?.any (fun y => decide (y.Round = (cD l)[i].Round)) = true) && decide ((cD l)[j]?.any (fun y => decide (y.Place = (cD l)[i].Place)) = true)) with
   | false =>
    rw [cond_false]
    refine Out.bad fun hO => ?_
    rw [List.all_eq_false] at hall
    obtain ⟨j, hj, hb⟩ := hall
    simp only [List.mem_range] at hj
    have hj' : j < (cD l).length := by omega
    rw [Bool.not_eq_true, Bool.not_eq_false'] at hb
    simp only [List.getElem?_eq_getElem hj', Option.any_some, Bool.and_eq_true, Bool.not_eq_true', decide_eq_true_eq, decide_eq_false_iff_not] at hb
    have := hO.two _ ((nG l _).1 (List.getElem_mem hj')) _ hmi hb.1.1 hk hb.1.2 hb.2
    have := (List.getElem_inj (aAx l)).1 this
    omega
   | true =>
    rw [cond_true]
    rw [uU] at hall
    have hfresh : ∀ y, y ∈ (cD l).take i → y.Kind ≠ 5 → ¬ (y.Round = (cD l)[i].Round ∧ y.Place = (cD l)[i].Place) := by
     rintro y hy ky ⟨e1, e2⟩
     obtain ⟨j, hj, rfl⟩ := List.mem_take_iff_getElem.1 hy
     have hj' : j < (cD l).length := by omega
     have := hall j (by omega)
     simp only [List.getElem?_eq_getElem hj', Option.any_some, Bool.not_eq_true', Bool.and_eq_false_iff, Bool.not_eq_false', decide_eq_true_eq, decide_eq_false_iff_not] at this
     rcases this with (h | h) | h
     ·exact ky h
     ·exact h e1
     ·exact h e2
    unfold sJ
    have hlast := aVd hD (by omega) hxp (fA d (cD l) d k) (cD l) i (aV.mk [] []) must d
    by_cases hex : ∃ a, a < d.length ∧ d.getD a 0 = (cD l)[i].Player
    ·obtain ⟨a, ha, he⟩ := hex
     rw [hlast.1 a ha he]
     have er : (cD l)[i].Round = (((cD l)[i].Round.toNat : Nat) : Int) := by omega
     have hw : w64 ((cD l)[i].Round + 1) = (((cD l)[i].Round.toNat + 1 : Nat) : Int) := by rw [dJ (by omega) (by omega)]; omega
     have hu : IntKind.u64.wrap (((cD l)[i].Round.toNat + 1 : Nat) : Int) = (((cD l)[i].Round.toNat + 1 : Nat) : Int) := sU (by omega) (by omega)
     have hch : chk (decide (0 ≤ (((cD l)[i].Round.toNat + 1 : Nat) : Int))) = some () := by unfold chk; rw [decide_eq_true (by omega)]; rfl
     have hmin : min (((cD l)[i].Round.toNat + 1 : Nat) : Int).toNat 64 = (cD l)[i].Round.toNat + 1 := by omega
     have hneg : decide ((a : Int) < 0) = false := decide_eq_false (by omega)
     have hcell : cell a (cD l)[i].Round.toNat = ⟨(cD l)[i].Round, (cD l)[i].Place⟩ ↔ ((a / 2 ^ ((cD l)[i].Round.toNat + 1) : Nat) : Int) = (cD l)[i].Place := by
      simp only [cell, aD.mk.injEq, ← er, true_and]
     unfold iT
     simp only [hneg, cond_false, hw, hu, hch, hmin, wE, Option.bind_some]
     by_cases hc : ((a / 2 ^ ((cD l)[i].Round.toNat + 1) : Nat) : Int) = (cD l)[i].Place
     ·simp only [hc, decide_true, Bool.not_true, cond_false]
      refine aSk ht hD hx ha he _ _ _ _ hM (fun hco must' hM' => ?_) fun hco hO => hco fun m v w h1 h2 => hO.fn m v w ?_ (.inr ⟨_, hresx, a, ha, he, h2⟩)
      ·rw [cI (show i < 9223372036854775807 by omega)]
       have hres : ∀ x, Res ((cD l).take (i + 1)) x ↔ Res ((cD l).take i) x ∨ x = (cD l)[i] := by
        intro x
        unfold Res
        rw [hmt]
        constructor
        ·rintro ⟨h | h, h2⟩
         ·exact .inl ⟨h, h2⟩
         ·exact .inr h
        ·rintro (⟨h, h2⟩ | rfl)
         ·exact ⟨.inl h, h2⟩
         ·exact ⟨.inr rfl, hk⟩
       refine ih must' ⟨hM'.ext fun m v => ?_, fun x hxx => ?_, fun x hxx y hyy kx ky e1 e2 => ?_⟩
       ·constructor
        ·rintro ((h | ⟨y, hy, h⟩) | h)
         ·exact .inl h
         ·exact .inr ⟨y, (hres y).2 (.inl hy), h⟩
         ·exact .inr ⟨_, (hres _).2 (.inr rfl), a, ha, he, h⟩
        ·rintro (h | ⟨y, hy, h⟩)
         ·exact .inl (.inl h)
         ·rcases (hres y).1 hy with hy | rfl
          ·exact .inl (.inr ⟨y, hy, h⟩)
          ·exact .inr ((aFm hD hx ha he m v).1 ⟨_, rfl, h⟩)
       ·rcases (hres x).1 hxx with h | rfl
        ·exact hg x h
        ·exact ⟨a, ha, he, hcell.2 hc⟩
       ·rcases (hres x).1 ⟨hxx, kx⟩ with h | rfl
        ·rcases (hres y).1 ⟨hyy, ky⟩ with h' | rfl
         ·exact hN x h.1 y h'.1 kx ky e1 e2
         ·exact absurd ⟨e1, e2⟩ (hfresh x h.1 kx)
        ·rcases (hres y).1 ⟨hyy, ky⟩ with h' | h'
         ·exact absurd ⟨e1.symm, e2.symm⟩ (hfresh y h'.1 ky)
         ·exact h'.symm
      ·rcases h1 with h1 | ⟨y, hy, h1⟩
       ·exact .inl h1
       ·exact .inr ⟨y, ⟨hsub y hy.1, hy.2⟩, h1⟩
     ·simp only [hc, decide_false, Bool.not_false, cond_true]
      exact Out.bad fun hO => hc (hcell.1 ((aTe hD hx ha he).1 (hO.slot _ hresx)))
    ·rw [hlast.2 fun a ha e => hex ⟨a, ha, e⟩]
     unfold iT
     simp only [show decide ((-1 : Int) < 0) = true by decide, cond_true, Option.bind_some]
     refine Out.bad fun hO => ?_
     obtain ⟨a, ha, e, _⟩ := hO.slot _ hresx
     exact hex ⟨a, ha, e⟩
 ·intro k i must hi ⟨hM, hg, hN⟩
  have hlt : decide ((i : Int) < ((cD l).length : Int)) = false := decide_eq_false (by omega)
  have hta : (cD l).take i = cD l := List.take_of_length_le (by omega)
  rw [hta] at hM hg hN
  have hres : ∀ x, Res (cD l) x ↔ Res l x := fun x => by unfold Res; rw [nG]
  have hM' : MustIs t must (eV d (Res l)) := hM.ext fun m v => by simp only [eV, aFy, hres]
  simp only [fA, hlt, cond_false, wX]
  refine ⟨fun _ => ⟨must, rfl, hM'⟩, fun hO => absurd ⟨fun x hx y hy => hN x ((nG l x).2 hx) y ((nG l y).2 hy), fun x hx => hg x ((hres x).2 hx), ?_⟩ hO⟩
  intro m v w h1 h2
  have hin : ∀ {v}, eV d (Res l) m v → ∃ r p : Nat, m = ⟨r, p⟩ ∧ r < t.Rounds.toNat ∧ p < bV t r := by
   have h1 := ht.r1
   rintro v (⟨j, hj, hb, rfl, _⟩ | ⟨x, hx, a, ha, he, _, q, hq, rfl⟩)
   ·refine ⟨0, sib j / 2 ^ (0 + 1), rfl, by omega, rI ht (aBo ht (by omega)) (by omega)⟩
   ·have := (hR x hx).r1
    have := (hR x hx).r0
    exact ⟨q, a / 2 ^ (q + 1), rfl, by omega, rI ht (by omega) (by omega)⟩
  obtain ⟨r, p, rfl, hr, hp⟩ := hin h1
  exact hM'.func hr hp h1 h2
 ·refine ⟨(aYx ht hD).ext fun m v => ?_, fun x hx => absurd hx.1 (by simp), fun x hx => absurd hx (by simp)⟩
  simp [eV, aFy, Res]
end
theorem aKr {t : aN} (ht : TreeOK t) {l : List aF} (hs : ∀ s ∈ l, fK t s = true) (hl : l.length ≤ 1000) :
  (∀ d, AGR t l d → ∃ must, dW t l = some (⟨d, must⟩, true) ∧ MustIs t must (eV d (Res l))) ∧ ((∀ d, ¬ AGR t l d) → dW t l = aEy) := by
 have h32 := ht.len32
 have hP := aQi hl h32 (xY ht) (aIa hs)
 unfold dW
 rw [hP, Option.bind_some]
 cases hp : aAh t l with
 | none =>
  have hno : ∀ d, ¬ AGR t l d := fun d h => by have := h.1; unfold kG at this; rw [hp] at this; cases this
  exact ⟨fun d h => absurd h (hno d), fun _ => rfl⟩
 | some q =>
  obtain ⟨d, U⟩ := q
  simp only
  by_cases hU : U.length = (dL l).length
  ·have hpo : kG t l = some d := by unfold kG; rw [hp]; simp [hU]
   have hD := yG ht hs hpo
   have hO := aTs ht hD (fun s hr => aIb (hs s hr.1) hr.2) hl
   simp only [hU, decide_true, Bool.not_true, cond_false, aVl ht hD]
   refine ⟨fun d' hd' => ?_, fun hno => hO.2 fun h => hno d ⟨hpo, h⟩⟩
   have := hd'.1
   rw [hpo] at this
   cases this
   exact hO.1 hd'.2
  ·have hno : ∀ d, ¬ AGR t l d := fun d h => by have := h.1; unfold kG at this; rw [hp] at this; simp [hU] at this
   simp only [hU, decide_false, Bool.not_false, cond_true]
   exact ⟨fun d h => absurd h (hno d), fun _ => trivial⟩
end Go.Am
end
section
namespace Go.Am
structure Good (t : aN) (l : List aF) (d : List Int) : Prop where
 tree : sB t = true
 len : l.length ≤ 60
 slips : ∀ s ∈ l, fK t s = true
 agr : AGR t l d
inductive Stat (t : aN) (l : List aF) : Int → Prop
 | s70 : sB t = false → Stat t l 70
 | s71 : sB t = true → (60 < l.length ∨ ∃ s ∈ l, fK t s = false) → Stat t l 71
 | s72 : sB t = true → l.length ≤ 60 → (∀ s ∈ l, fK t s = true) → (∀ d, ¬ AGR t l d) → Stat t l 72
theorem Stat.ne {t : aN} {l : List aF} {e : Int} (h : Stat t l e) : decide (e = 0) = false := by cases h <;> rfl
theorem vO (t : aN) (l : List aF) : (∃ d, Good t l d) ∨ ∃ e, Stat t l e := by
 cases ht : sB t with
 | false => exact .inr ⟨70, .s70 ht⟩
 | true =>
  by_cases hl : 60 < l.length
  ·exact .inr ⟨71, .s71 ht (.inl hl)⟩
  ·by_cases hs : ∃ s ∈ l, fK t s = false
   ·exact .inr ⟨71, .s71 ht (.inr hs)⟩
   ·have hs' : ∀ s ∈ l, fK t s = true := fun s hm => by
     cases h : fK t s with
     | true => rfl
     | false => exact absurd ⟨s, hm, h⟩ hs
    by_cases hd : ∃ d, AGR t l d
    ·obtain ⟨d, hd⟩ := hd
     exact .inl ⟨d, ht, by omega, hs', hd⟩
    ·exact .inr ⟨72, .s72 ht (by omega) hs' fun d h => hd ⟨d, h⟩⟩
theorem Good.ht {t : aN} {l : List aF} {d : List Int} (h : Good t l d) : TreeOK t := oN h.tree
theorem Good.dok {t : aN} {l : List aF} {d : List Int} (h : Good t l d) : DOK t d := yG h.ht h.slips h.agr.1
theorem Good.uniq {t : aN} {l : List aF} {d d' : List Int} (h : Good t l d) (h' : Good t l d') : d = d' := by
 have := h.agr.1
 rw [h'.agr.1] at this
 exact (Option.some.inj this).symm
theorem aCz {t : aN} {l : List aF} {e : Int} (h : Stat t l e) {Q : (Option bA × Int) → Prop} (hq : Q (none, e)) : jN t l Q := by
 unfold jN
 refine ⟨_, aLb t, ?_⟩
 cases h with
 | s70 ht => simp only [ht, Bool.not_false, cond_true]; exact hq
 | s71 ht hs =>
  simp only [ht, Bool.not_true, cond_false]
  by_cases hl : 60 < l.length
  ·have : decide (60 < (l.length : Int)) = true := decide_eq_true (by omega)
   simp only [this, cond_true]
   exact ⟨_, rfl, hq⟩
  ·have : decide (60 < (l.length : Int)) = false := decide_eq_false (by omega)
   simp only [this, cond_false]
   rw [qG l (by omega) _ (fun s => !fK t s) fun x _ => by simp [nJ, aEl (oN ht)]]
   refine ⟨_, rfl, ?_⟩
   have : (l.any fun s => !fK t s) = true := by
    rcases hs with h | ⟨s, h1, h2⟩
    ·exact absurd h hl
    ·rw [List.any_eq_true]; exact ⟨s, h1, by rw [h2]; rfl⟩
   simp only [this, cond_true]; exact hq
 | s72 ht hl hs hno =>
  have : decide (60 < (l.length : Int)) = false := decide_eq_false (by omega)
  simp only [ht, Bool.not_true, cond_false, this]
  rw [qG l (by omega) _ (fun s => !fK t s) fun x _ => by simp [nJ, aEl (oN ht)]]
  refine ⟨_, rfl, ?_⟩
  have : (l.any fun s => !fK t s) = false := by
   rw [List.any_eq_false]; intro s hm; rw [hs s hm]; simp
  simp only [this, cond_false]
  exact aIg (oN ht) hs (by omega) (fun d hd => absurd hd (hno d)) fun _ => hq
theorem aAf {t : aN} {l : List aF} {d : List Int} (h : Good t l d) {Q : (Option bA × Int) → Prop} (hq : ∀ won, WonIs won (eV d (Res l)) → Q (some ⟨t, d, won⟩, 0)) : jN t l Q := by
 unfold jN
 have hl := h.len
 have : decide (60 < (l.length : Int)) = false := decide_eq_false (by omega)
 refine ⟨_, aLb t, ?_⟩
 simp only [h.tree, Bool.not_true, cond_false, this]
 rw [qG l (by omega) _ (fun s => !fK t s) fun x _ => by simp [nJ, aEl h.ht]]
 refine ⟨_, rfl, ?_⟩
 have : (l.any fun s => !fK t s) = false := by
  rw [List.any_eq_false]; intro s hm; rw [h.slips s hm]; simp
 simp only [this, cond_false]
 refine aIg h.ht h.slips (by omega) (fun d' hd won hW => ?_) fun hno => absurd h.agr (hno d)
 have := h.uniq ⟨h.tree, h.len, h.slips, hd⟩
 subst this
 exact hq won hW
theorem aAn {t : aN} (ht : TreeOK t) {l : List aF} (hl : l.length ≤ 60) : jJ l t BIG 0 = bif l.all (fK t) then lJ l t else some 71 := by
 have := aCt (fun k i => jJ l t k i) l.length (fun i => l[i]?.any (fK t)) (some 71) (lJ l t) ?_ ?_ BIG (cX (by omega))
 ·rw [this]
  have e : (List.range l.length).all (fun i => l[i]?.any (fK t)) = l.all (fK t) := by
   rw [Bool.eq_iff_iff, uU, List.all_eq_true]
   constructor
   ·intro h x hx
    obtain ⟨i, hi, rfl⟩ := List.mem_iff_getElem.1 hx
    have := h i hi
    rwa [List.getElem?_eq_getElem hi] at this
   ·intro h i hi
    rw [List.getElem?_eq_getElem hi]
    exact h _ (List.getElem_mem hi)
  rw [e]
 ·intro k i hi
  simp only [jJ, Int.ofNat_lt, hi, decide_true, cond_true, cC hi, Option.bind_some, aQu ht, cI (show i < 9223372036854775807 by omega), List.getElem?_eq_getElem hi, Option.any_some]
  cases fK t l[i] <;> rfl
 ·intro k
  have hlt : decide ((l.length : Int) < (l.length : Int)) = false := decide_eq_false (by omega)
  simp only [jJ, hlt, cond_false]
theorem zW {t : aN} {l : List aF} {e : Int} (h : Stat t l e) : iS t l = some e := by
 unfold iS
 rw [aDv, Option.bind_some]
 cases h with
 | s70 ht => simp only [ht, Bool.not_false, cond_true]
 | s71 ht hs =>
  simp only [ht, Bool.not_true, cond_false]
  by_cases hl : 60 < l.length
  ·have : decide (60 < (l.length : Int)) = true := decide_eq_true (by omega)
   simp only [this, cond_true]
  ·have : decide (60 < (l.length : Int)) = false := decide_eq_false (by omega)
   have h2 : l.all (fK t) = false := by
    rcases hs with h | ⟨s, h1, h2⟩
    ·exact absurd h hl
    ·rw [List.all_eq_false]; exact ⟨s, h1, by simp [h2]⟩
   simp only [this, cond_false, aAn (oN ht) (show l.length ≤ 60 by omega), h2]
 | s72 ht hl hs hno =>
  have : decide (60 < (l.length : Int)) = false := decide_eq_false (by omega)
  have h2 : l.all (fK t) = true := by rw [List.all_eq_true]; exact hs
  simp only [ht, Bool.not_true, cond_false, this, aAn (oN ht) hl, h2, cond_true, lJ, (aKr (oN ht) hs (by omega)).2 hno, Option.bind_some, Bool.not_false]
theorem pY {t : aN} {l : List aF} {d : List Int} (h : Good t l d) : ∃ must, dW t l = some (⟨d, must⟩, true) ∧ MustIs t must (eV d (Res l)) :=
 (aKr h.ht h.slips (by have := h.len; omega)).1 d h.agr
theorem xW {t : aN} {l : List aF} {d : List Int} (h : Good t l d) : iS t l = some 0 := by
 have hl := h.len
 have : decide (60 < (l.length : Int)) = false := decide_eq_false (by omega)
 have h2 : l.all (fK t) = true := by rw [List.all_eq_true]; exact h.slips
 obtain ⟨must, hd, _⟩ := pY h
 unfold iS
 rw [aDv, Option.bind_some]
 simp only [h.tree, Bool.not_true, cond_false, this, aAn h.ht hl, h2, cond_true, lJ, hd, Option.bind_some]
theorem zJ {t : aN} {won : List (aD × Int)} {must : List (List Int)} {P : mR} (hW : WonIs won P) (hM : MustIs t must P) {r p : Nat} (hr : r < t.Rounds.toNat) (hp : p < bV t r) :
  cO (⟨r, p⟩ : aD) won = !decide (mat must r p = -2) := by
 rw [Bool.eq_iff_iff, hW.has, Bool.not_eq_true', decide_eq_false_iff_not]
 constructor
 ·rintro ⟨v, hv⟩
  have := (hM.mem r p v hr hp).2 hv
  rw [this.1]; exact this.2
 ·exact fun h => ⟨_, (hM.mem r p _ hr hp).1 ⟨rfl, h⟩⟩
theorem aCs {t : aN} {won : List (aD × Int)} {must : List (List Int)} {P : mR} (hW : WonIs won P) (hM : MustIs t must P) {r p : Nat} (hr : r < t.Rounds.toNat) (hp : p < bV t r) (h : mat must r p ≠ -2) (z : Int) :
  cK (⟨r, p⟩ : aD) z won = mat must r p := hW.get ((hM.mem r p _ hr hp).1 ⟨rfl, h⟩)
theorem aFv {t : aN} {must : List (List Int)} {P : mR} (hM : MustIs t must P) {r p : Nat} (hr : r < t.Rounds.toNat) (hp : p < bV t r) : ((idx must (r : Int)).bind fun x => idx x (p : Int)) = some (mat must r p) := by
 have hl := hM.len
 have hrow := hM.row r hr
 have hrl : r < must.length := by omega
 rw [cC hrl, Option.bind_some]
 unfold mat
 rw [bT hrl] at hrow ⊢
 have hp' : p < must[r].length := by omega
 rw [cC hp', bT hp']
theorem aAy {t : aN} {r : Nat} (hr : r + 1 < t.Rounds.toNat) : bV t r = 2 * bV t ((r + 1 : Nat) : Int) := by
 unfold bV
 have e : t.Rounds.toNat - 1 - ((r : Nat) : Int).toNat = (t.Rounds.toNat - 1 - ((r + 1 : Nat) : Int).toNat) + 1 := by omega
 rw [e, Nat.pow_succ]; omega
def gF (d : List Int) (must : List (List Int)) (r at' : Nat) : Int := if r = 0 then d.getD at' 0 else mat must (r - 1) at'
section
variable {t : aN} (ht : TreeOK t) {d : List Int} (hD : DOK t d) {must : List (List Int)} {P : mR} (hM : MustIs t must P) {won : List (aD × Int)} (hW : WonIs won P)
include ht hD hM
theorem aTf {r p s : Nat} (hr : r < t.Rounds.toNat) (hp : p < bV t r) (hs : s < 2) : tY ⟨d, must⟩ r p s = some (gF d must r (2 * p + s)) := by
 have hpl := kF ht (r := (r : Int))
 have h5 := ht.r5
 have w1 : w64 (2 * (p : Int)) = ((2 * p : Nat) : Int) := by rw [dJ (by omega) (by omega)]; omega
 have w2 : w64 (((2 * p : Nat) : Int) + (s : Int)) = ((2 * p + s : Nat) : Int) := by rw [dJ (by omega) (by omega)]; omega
 unfold tY gF
 simp only [w1, w2]
 by_cases h0 : r = 0
 ·subst h0
  have hp0 := wJ ht
  have hlen := hD.len
  have hpl2 : p < bV t 0 := hp
  have hi : 2 * p + s < d.length := by omega
  simp only [Int.natCast_zero, decide_true, cond_true, cC hi, Option.bind_some, if_true, bT hi]
 ·have hr0 : decide ((r : Int) = 0) = false := decide_eq_false (by omega)
  have hw : w64 ((r : Int) - 1) = ((r - 1 : Nat) : Int) := uK (by omega) (by omega)
  have hph := aAy (t := t) (r := r - 1) (by omega)
  have e : r - 1 + 1 = r := by omega
  rw [e] at hph
  have := aFv hM (r := r - 1) (p := 2 * p + s) (by omega) (by omega)
  simp only [hr0, cond_false, hw, if_neg h0]
  rw [← this]
  congr 1
  funext x
  cases idx x ((2 * p + s : Nat) : Int) <;> rfl
include hW
theorem aQc {r p s : Nat} (hr : r < t.Rounds.toNat) (hp : p < bV t r) (hs : s < 2) : kX ⟨t, d, won⟩ ⟨r, p⟩ s = some (gF d must r (2 * p + s)) := by
 have hpl := kF ht (r := (r : Int))
 have h5 := ht.r5
 have w1 : w64 (2 * (p : Int)) = ((2 * p : Nat) : Int) := by rw [dJ (by omega) (by omega)]; omega
 have w2 : w64 (((2 * p : Nat) : Int) + (s : Int)) = ((2 * p + s : Nat) : Int) := by rw [dJ (by omega) (by omega)]; omega
 unfold kX gF
 simp only [w1, w2]
 by_cases h0 : r = 0
 ·subst h0
  have hp0 := wJ ht
  have hlen := hD.len
  have hpl2 : p < bV t 0 := hp
  have hi : 2 * p + s < d.length := by omega
  simp only [Int.natCast_zero, decide_true, cond_true, cC hi, Option.bind_some, if_true, bT hi]
 ·have hr0 : decide ((r : Int) = 0) = false := decide_eq_false (by omega)
  have hw : w64 ((r : Int) - 1) = ((r - 1 : Nat) : Int) := uK (by omega) (by omega)
  have hph := aAy (t := t) (r := r - 1) (by omega)
  have e : r - 1 + 1 = r := by omega
  rw [e] at hph
  simp only [hr0, cond_false, hw, if_neg h0]
  have h1 : r - 1 < t.Rounds.toNat := by omega
  have h2 : 2 * p + s < bV t ((r - 1 : Nat) : Int) := by omega
  rw [zJ hW hM h1 h2]
  by_cases hm : mat must (r - 1) (2 * p + s) = -2
  ·simp only [hm, decide_true, Bool.not_true, cond_false]
  ·simp only [hm, decide_false, Bool.not_false, cond_true, aCs hW hM h1 h2 hm]
omit ht hD hM hW
def pX (t : aN) (d : List Int) (must : List (List Int)) (r : Nat) : List cA := (List.range (bV t r)).map fun p : Nat => ⟨r, p, gF d must r (2 * p), gF d must r (2 * p + 1)⟩
def iR (t : aN) (d : List Int) (must : List (List Int)) : List cA := (List.range t.Rounds.toNat).flatMap (pX t d must)
theorem uX {α : Type} (f : Nat → List α) (n : Nat) : (List.range (n + 1)).flatMap f = (List.range n).flatMap f ++ f n := by
 rw [List.range_succ, List.flatMap_append]; simp
include ht
theorem aUi (r : Nat) : (pX t d must r).length ≤ 16 := by
 have := kF ht (r := (r : Int))
 simpa [pX] using this
theorem aDy : ∀ r, ((List.range r).flatMap (pX t d must)).length ≤ 16 * r
 | 0 => by simp
 | r + 1 => by
  have h1 := aDy r
  have h2 := aUi ht (d := d) (must := must) r
  rw [uX, List.length_append]; omega
include hD hM
theorem aSi : qR t ⟨d, must⟩ = some (iR t d must) := by
 have h1 := ht.r1
 have h5 := ht.r5
 unfold qR
 have := fP (S := List cA) (fun k r out => fI t ⟨d, must⟩ k r out) t.Rounds.toNat (fun _ _ => some (iR t d must)) (fun r out => out = (List.range r).flatMap (pX t d must)) ?_ ?_ BIG [] (cX (by omega)) (by simp)
 ·exact this
 ·rintro k r out hr rfl ih
  have hfl := aDy ht (d := d) (must := must) r
  have hpl := kF ht (r := (r : Int))
  have hlt : decide ((r : Int) < t.Rounds) = true := decide_eq_true (by omega)
  have hin : jK (fI t ⟨d, must⟩ k) r t ⟨d, must⟩ BIG 0 ((List.range r).flatMap (pX t d must)) = nZ (fI t ⟨d, must⟩ k) r t ⟨d, must⟩ ((List.range r).flatMap (pX t d must) ++ pX t d must r) := by
   have hP := wQ ht (r := (r : Int)) (by omega) (by omega)
   refine fP (S := List cA) (fun q p out => jK (fI t ⟨d, must⟩ k) r t ⟨d, must⟩ q p out) (bV t r) (fun _ _ => nZ (fI t ⟨d, must⟩ k) r t ⟨d, must⟩ ((List.range r).flatMap (pX t d must) ++ pX t d must r))
    (fun p out => out = (List.range r).flatMap (pX t d must) ++ (List.range p).map fun p : Nat => (⟨r, p, gF d must r (2 * p), gF d must r (2 * p + 1)⟩ : cA)) ?_ ?_ BIG _ (cX (by omega)) (by simp)
   ·rintro q p out hp rfl ih2
    simp only [jK, hP, Option.bind_some, Int.ofNat_lt, hp, decide_true, cond_true, cI (show p < 9223372036854775807 by omega)]
    have e0 := aTf ht hD hM hr hp (s := 0) (by omega)
    have e1 := aTf ht hD hM hr hp (s := 1) (by omega)
    simp only [Int.natCast_zero, Int.natCast_one, Nat.add_zero] at e0 e1
    rw [e0, Option.bind_some, e1, Option.bind_some, fQ (by simp only [List.length_append, List.length_map, List.length_range, List.length_cons, List.length_nil]; omega), Option.bind_some]
    refine ih2 _ ?_
    rw [List.range_succ, List.map_append, List.append_assoc]; rfl
   ·rintro q out rfl
    have hlt : decide ((bV t r : Int) < (bV t r : Int)) = false := decide_eq_false (by omega)
    simp only [jK, hP, Option.bind_some, hlt, cond_false, pX]
  simp only [fI, hlt, cond_true, hin, nZ, vW, cI (show r < 9223372036854775807 by omega)]
  exact ih _ (uX _ _).symm
 ·rintro k out rfl
  have hlt : decide (((t.Rounds.toNat : Nat) : Int) < t.Rounds) = false := decide_eq_false (by omega)
  simp only [fI, hlt, cond_false, vV]
  rfl
include hW
theorem aQy {S : Type} (y : S → aD → cA → Option S) (f : List cA → S) (good : List cA → Prop)
  (hy : ∀ (out : List cA) (r p : Nat), r < t.Rounds.toNat → p < bV t r → out.length ≤ 200 → y (f out) ⟨r, p⟩ ⟨r, p, gF d must r (2 * p), gF d must r (2 * p + 1)⟩ = some (f (out ++ [⟨r, p, gF d must r (2 * p), gF d must r (2 * p + 1)⟩]))) :
  iZ ⟨t, d, won⟩ y (f []) = some (f (iR t d must)) := by
 have h1 := ht.r1
 have h5 := ht.r5
 unfold iZ
 have := fP (S := S) (fun k r out => dH y ⟨t, d, won⟩ t.Rounds k r out) t.Rounds.toNat (fun _ _ => some (f (iR t d must))) (fun r out => out = f ((List.range r).flatMap (pX t d must))) ?_ ?_ BIG (f []) (cX (by omega)) (by simp)
 ·exact this
 ·rintro k r out hr rfl ih
  have hfl := aDy ht (d := d) (must := must) r
  have hpl := kF ht (r := (r : Int))
  have hlt : decide ((r : Int) < t.Rounds) = true := decide_eq_true (by omega)
  have hch : chk (decide (0 ≤ w64 ((r : Int) + 1))) = some () := by
   rw [cI (by omega)]; unfold chk; rw [decide_eq_true (by omega)]; rfl
  have hin : eW y (dH y ⟨t, d, won⟩ t.Rounds k) ⟨t, d, won⟩ r t.Rounds r (bV t r) BIG 0 (f ((List.range r).flatMap (pX t d must))) =
    jD y (dH y ⟨t, d, won⟩ t.Rounds k) ⟨t, d, won⟩ t.Rounds r (f ((List.range r).flatMap (pX t d must) ++ pX t d must r)) := by
   refine fP (S := S) (fun q p out => eW y (dH y ⟨t, d, won⟩ t.Rounds k) ⟨t, d, won⟩ r t.Rounds r (bV t r) q p out) (bV t r) (fun _ _ => jD y (dH y ⟨t, d, won⟩ t.Rounds k) ⟨t, d, won⟩ t.Rounds r (f ((List.range r).flatMap (pX t d must) ++ pX t d must r)))
    (fun p out => out = f ((List.range r).flatMap (pX t d must) ++ (List.range p).map fun p : Nat => (⟨r, p, gF d must r (2 * p), gF d must r (2 * p + 1)⟩ : cA))) ?_ ?_ BIG _ (cX (by omega)) (by simp)
   ·rintro q p out hp rfl ih2
    have e0 := aQc ht hD hM hW hr hp (s := 0) (by omega)
    have e1 := aQc ht hD hM hW hr hp (s := 1) (by omega)
    simp only [Int.natCast_zero, Int.natCast_one, Nat.add_zero] at e0 e1
    simp only [eW, Int.ofNat_lt, hp, decide_true, cond_true, cI (show p < 9223372036854775807 by omega), e0, e1, Option.bind_some]
    rw [hy _ r p hr hp (by simp only [List.length_append, List.length_map, List.length_range, List.length_cons, List.length_nil]; omega), Option.bind_some]
    refine ih2 _ ?_
    rw [List.range_succ, List.map_append, List.append_assoc]; rfl
   ·rintro q out rfl
    have hlt : decide ((bV t r : Int) < (bV t r : Int)) = false := decide_eq_false (by omega)
    simp only [eW, hlt, cond_false, pX]
  simp only [dH, hlt, cond_true, hch, Option.bind_some, aQb ht (r := (r : Int)) (by omega) (by omega), hin, jD, oB]
  rw [cI (show r < 9223372036854775807 by omega)]
  exact ih _ (congrArg f (uX _ _)).symm
 ·rintro k out rfl
  have hlt : decide (((t.Rounds.toNat : Nat) : Int) < t.Rounds) = false := decide_eq_false (by omega)
  simp only [dH, hlt, cond_false, oA]
  rfl
end
theorem aSh {t : aN} {l : List aF} {e : Int} (h : Stat t l e) {r p : Int} {Q : (Option bA × aD × Int) → Prop} (hq : Q (none, ⟨r, p⟩, e)) : oP t l r p Q := by
 unfold oP
 refine aCz h ?_
 simp only [h.ne, cond_false]
 exact ⟨_, rfl, hq⟩
theorem aPo {t : aN} {l : List aF} {d : List Int} (h : Good t l d) {r p : Int} {Q : (Option bA × aD × Int) → Prop} (hq : ∀ won, WonIs won (eV d (Res l)) → Q (some ⟨t, d, won⟩, ⟨r, p⟩, bif gB t r p then 0 else 1)) : oP t l r p Q := by
 unfold oP
 refine aAf h fun won hW => ?_
 have := hq won hW
 simp only [decide_true, cond_true, aWf h.ht, Option.bind_some]
 refine ⟨_, rfl, ?_⟩
 cases hm : gB t r p with
 | true => rw [hm] at this; exact this
 | false => rw [hm] at this; exact this
theorem aBf {t : aN} {l : List aF} {e : Int} (h : Stat t l e) (r p : Int) : iN t l r p = some e := by
 unfold iN
 rw [zW h, Option.bind_some]
 simp only [h.ne, Bool.not_false, cond_true]
theorem rW {t : aN} {l : List aF} {d : List Int} (h : Good t l d) (r p : Int) : iN t l r p = some (bif gB t r p then 0 else 1) := by
 unfold iN
 rw [xW h, Option.bind_some]
 simp only [decide_true, Bool.not_true, cond_false, aHz h.ht, Option.bind_some]
 cases gB t r p <;> rfl
theorem yE {t : aN} {r p : Int} (h : gB t r p = true) : ∃ r' p' : Nat, r = r' ∧ p = p' ∧ r' < t.Rounds.toNat ∧ p' < bV t r' := by
 simp only [gB, Bool.and_eq_true, iX] at h
 refine ⟨r.toNat, p.toNat, by omega, by omega, by omega, ?_⟩
 have e : ((r.toNat : Nat) : Int) = r := by omega
 rw [e]; omega
theorem aQk {t : aN} {l : List aF} {e : Int} (h : Stat t l e) (r p : Int) : iB t l r p = some (0, e) := by
 unfold iB
 rw [aBf h, Option.bind_some]
 simp only [h.ne, Bool.not_false, cond_true]
theorem aQj {t : aN} {l : List aF} {d : List Int} (h : Good t l d) {r p : Int} (hm : gB t r p = false) : iB t l r p = some (0, 1) := by
 unfold iB
 rw [rW h, hm, Option.bind_some]
 rfl
theorem aGi {t : aN} {l : List aF} {d : List Int} (h : Good t l d) {must : List (List Int)} (hd : dW t l = some (⟨d, must⟩, true)) (hM : MustIs t must (eV d (Res l))) {r p : Nat} (hm : gB t r p = true) :
  iB t l r p = some (if mat must r p = -2 then (0, 3) else (mat must r p, 0)) := by
 obtain ⟨r', p', e1, e2, hr, hp⟩ := yE hm
 have e1 : r = r' := by omega
 have e2 : p = p' := by omega
 subst e1; subst e2
 have hi := aFv hM hr hp
 unfold iB
 rw [rW h, hm, Option.bind_some]
 simp only [cond_true, decide_true, Bool.not_true, cond_false, hd, Option.bind_some]
 rw [← Option.bind_assoc, hi, Option.bind_some]
 by_cases h2 : mat must r p = -2
 ·simp only [h2, decide_true, cond_true, if_true]
 ·simp only [h2, decide_false, cond_false, if_false]
  rw [← Option.bind_assoc, hi, Option.bind_some]
theorem aQl (t : aN) (l : List aF) (r p : Int) {o : Int × Int} (h : iB t l r p = some o) (Q : Int × Int → Prop) (hq : Q o) : pN t l r p Q := by
 unfold pN
 rcases vO t l with ⟨d, hg⟩ | ⟨e, he⟩
 ·refine aPo hg fun won hW => ?_
  cases hm : gB t r p with
  | false =>
   rw [aQj hg hm] at h; cases h
   exact hq
  | true =>
   obtain ⟨r', p', rfl, rfl, hr, hp⟩ := yE hm
   obtain ⟨must, hd, hM⟩ := pY hg
   rw [aGi hg hd hM hm] at h; cases h
   simp only [cond_true, decide_true, Bool.not_true, cond_false]
   refine ⟨_, rfl, ?_⟩
   simp only [zJ hW hM hr hp]
   by_cases h2 : mat must r' p' = -2
   ·rw [if_pos h2] at hq
    simp only [h2, decide_true, Bool.not_true, Bool.not_false, cond_true]; exact hq
   ·rw [if_neg h2] at hq
    simp only [h2, decide_false, Bool.not_true, Bool.not_false, cond_false, aCs hW hM hr hp h2]; exact hq
 ·rw [aQk he] at h; cases h
  refine aSh he ?_
  simp only [he.ne, Bool.not_false, cond_true]
  exact hq
end Go.Am
end
section
namespace Go.Am
structure HB (S ever : List Int) (U : List aF) : Prop where
 se : ∀ x ∈ S, x ∈ ever
 ue : ∀ u ∈ U, u.Player ∈ ever
 us : ∀ u ∈ U, u.Player ∉ S
 uu : ∀ u ∈ U, ∀ v ∈ U, u.Player = v.Player → u = v
def aMk (S : List Int) (U : List aF) (i : Nat) (x : Int) : Prop := x = S.getD i 0 ∨ ∃ u ∈ U, u.Place = (i : Int) ∧ u.Player = x
theorem HB.next {S ever : List Int} {U : List aF} (h : HB S ever U) {s : aF} (hp : s.Player ∉ ever) : HB S (ever ++ [s.Player]) (U ++ [s]) := by
 refine ⟨fun x hx => List.mem_append_left _ (h.se x hx), fun u hu => ?_, fun u hu => ?_, fun u hu v hv e => ?_⟩
 ·rcases List.mem_append.1 hu with hu | hu
  ·exact List.mem_append_left _ (h.ue u hu)
  ·simp at hu; subst hu; simp
 ·rcases List.mem_append.1 hu with hu | hu
  ·exact h.us u hu
  ·simp at hu; subst hu; exact fun hs => hp (h.se _ hs)
 ·rcases List.mem_append.1 hu with hu | hu
  ·rcases List.mem_append.1 hv with hv | hv
   ·exact h.uu u hu v hv e
   ·simp at hv; subst hv; exact absurd (e ▸ h.ue _ ‹u ∈ U›) hp
  ·simp at hu; subst hu
   rcases List.mem_append.1 hv with hv | hv
   ·exact absurd (e ▸ h.ue v hv) hp
   ·simp at hv; exact hv.symm
theorem aJp {L : List aF} {S : List Int} {i : Nat} : ∀ {n : Nat} {now : Int} {ever : List Int} {U : List aF} {now' : Int} {ever' : List Int} {U' : List aF},
  HB S ever U → aMk S U i now → gX L i n now ever U = some (now', ever', U') → HB S ever' U' ∧ aMk S U' i now' ∧ (∀ u ∈ U, u ∈ U')
 | 0, _, _, _, _, _, _, _, _, h => by simp [gX] at h
 | n + 1, now, ever, U, now', ever', U', hB, hH, h => by
  unfold gX at h
  cases hc : gK L i now with
  | nil =>
   rw [hc] at h
   simp only [Option.some.injEq, Prod.mk.injEq] at h
   obtain ⟨rfl, rfl, rfl⟩ := h
   exact ⟨hB, hH, fun u hu => hu⟩
  | cons s cs =>
   cases cs with
   | cons s2 cs => simp [hc] at h
   | nil =>
    have hs : s ∈ gK L i now := by rw [hc]; simp
    obtain ⟨m1, m2, m3⟩ := qC.1 hs
    rw [hc] at h
    by_cases hp : s.Player ∈ ever
    ·simp [hp] at h
    ·simp only [hp, if_false] at h
     obtain ⟨r1, r2, r3⟩ := aJp (hB.next hp) (.inr ⟨s, by simp, m2, rfl⟩) h
     exact ⟨r1, r2, fun u hu => r3 u (List.mem_append_left _ hu)⟩
theorem aJh {L : List aF} {S : List Int} : ∀ {n i : Nat} {d ever : List Int} {U : List aF} {d' : List Int} {U' : List aF}, i + n ≤ d.length → HB S ever U → (∀ j, j < d.length → aMk S U j (d.getD j 0)) →
  iO L n i d ever U = some (d', U') → ∃ ever', HB S ever' U' ∧ (∀ j, j < d'.length → aMk S U' j (d'.getD j 0))
 | 0, i, d, ever, U, d', U', hn, hB, hH, he => by
  simp only [iO, Option.some.injEq, Prod.mk.injEq] at he
  obtain ⟨rfl, rfl⟩ := he
  exact ⟨ever, hB, hH⟩
 | n + 1, i, d, ever, U, d', U', hn, hB, hH, he => by
  unfold iO at he
  have hid : i < d.length := by omega
  cases hs : gX L i (L.length + 1) (d.getD i 0) ever U with
  | none => rw [hs] at he; simp at he
  | some q =>
   obtain ⟨now', ever', U1⟩ := q
   rw [hs] at he
   obtain ⟨r1, r2, r3⟩ := aJp hB (hH i hid) hs
   refine aJh (by rw [List.length_set]; omega) r1 (fun j hj => ?_) he
   rw [List.length_set] at hj
   rw [lB hid]
   split
   ·rename_i e; subst e; exact r2
   ·rcases hH j hj with h | ⟨u, hu, h⟩
    ·exact .inl h
    ·exact .inr ⟨u, r3 u hu, h⟩
structure HD (t : aN) (l : List aF) (d : List Int) : Prop where
 us : ∀ u ∈ dL l, u.Player ∉ t.Slots
 uu : ∀ u ∈ dL l, ∀ v ∈ dL l, u.Player = v.Player → u = v
 home : ∀ j, j < d.length → aMk t.Slots (dL l) j (d.getD j 0)
theorem aPd {t : aN} (ht : TreeOK t) {l : List aF} (hs : ∀ s ∈ l, fK t s = true) {d : List Int} (h : kG t l = some d) : HD t l d := by
 unfold kG at h
 split at h
 ·rename_i d' U hr
  split at h
  ·rename_i hU
   cases h
   have hL := aIa hs
   obtain ⟨ever, hI⟩ := aDb hL (aBt (dL l) (xY ht)) (by omega) hr
   have hall : ∀ u, u ∈ U ↔ u ∈ dL l := fun u => by
    refine ⟨hI.us u, fun hu => Classical.byContradiction fun hn => ?_⟩
    have := nU (l := u :: U) (m := dL l) (List.nodup_cons.2 ⟨hn, hI.un⟩) fun x hx => by
     rcases List.mem_cons.1 hx with rfl | hx
     ·exact hu
     ·exact hI.us x hx
    simp only [List.length_cons] at this
    omega
   obtain ⟨ever', hB, hH⟩ := aJh (S := t.Slots) (by omega) ⟨fun x hx => hx, by simp, by simp, by simp⟩ (fun j _ => .inl rfl) hr
   refine ⟨fun u hu => hB.us u ((hall u).2 hu), fun u hu v hv => hB.uu u ((hall u).2 hu) v ((hall v).2 hv), fun j hj => ?_⟩
   rcases hH j hj with h | ⟨u, hu, h⟩
   ·exact .inl h
   ·exact .inr ⟨u, (hall u).1 hu, h⟩
  ·cases h
 ·cases h
theorem HD.same {t : aN} (ht : TreeOK t) {l l' : List aF} {d d' : List Int} (h : HD t l d) (h' : HD t l' d') (hl : d.length = t.Slots.length) (hl' : d'.length = t.Slots.length) (hsub : ∀ s ∈ l', s ∈ l) {a b : Nat} (ha : a < d'.length) (hb : b < d.length)
  (e : d'.getD a 0 = d.getD b 0) (hn : d.getD b 0 ≠ -1) : a = b := by
 have hL : ∀ u ∈ dL l', u ∈ dL l := fun u hu => by
  simp only [dL, List.mem_filter, nG] at hu ⊢
  exact ⟨hsub u hu.1, hu.2⟩
 have hSm : ∀ j, j < t.Slots.length → t.Slots.getD j 0 ∈ t.Slots := fun j hj => aCm hj
 rcases h'.home a ha with e1 | ⟨u, hu, e1, e2⟩
 ·rcases h.home b hb with e3 | ⟨v, hv, e3, e4⟩
  ·have hab : t.Slots.getD a 0 = t.Slots.getD b 0 := by rw [← e1, ← e3, e]
   have ha' : a < t.Slots.length := hl' ▸ ha
   have hb' : b < t.Slots.length := hl ▸ hb
   rw [bT ha', bT hb'] at hab
   rw [e3, bT hb'] at hn
   rcases Nat.lt_trichotomy a b with hlt | rfl | hlt
   ·exact absurd (ht.dup b hb' a hlt hab) hn
   ·rfl
   ·exact absurd (hab ▸ ht.dup a ha' b hlt hab.symm) hn
  ·exact absurd (by rw [e4, ← e, e1]; exact hSm a (hl' ▸ ha)) (h.us v hv)
 ·rcases h.home b hb with e3 | ⟨v, hv, e3, e4⟩
  ·exact absurd (by rw [e2, e, e3]; exact hSm b (hl ▸ hb)) (h.us u (hL u hu))
  ·have := h.uu u (hL u hu) v hv (by rw [e2, e4, e])
   subst this
   omega
theorem Good.home {t : aN} {l : List aF} {d : List Int} (h : Good t l d) : HD t l d := aPd h.ht h.slips h.agr.1
def gL (t : aN) : List (Nat × Nat) := (List.range t.Rounds.toNat).flatMap fun r : Nat => (List.range (bV t r)).map fun p : Nat => (r, p)
def mI (d : List Int) (must : List (List Int)) (x : Nat × Nat) : cA := ⟨x.1, x.2, gF d must x.1 (2 * x.2), gF d must x.1 (2 * x.2 + 1)⟩
theorem xZ (t : aN) (d : List Int) (must : List (List Int)) : iR t d must = (gL t).map (mI d must) := by
 unfold iR gL
 rw [List.map_flatMap]
 congr 1
 funext r
 rw [List.map_map]
 rfl
theorem zL {t : aN} {x : Nat × Nat} : x ∈ gL t ↔ x.1 < t.Rounds.toNat ∧ x.2 < bV t x.1 := by
 simp only [gL, List.mem_flatMap, List.mem_range, List.mem_map]
 constructor
 ·rintro ⟨r, hr, p, hp, rfl⟩; exact ⟨hr, hp⟩
 ·rintro ⟨hr, hp⟩; exact ⟨x.1, hr, x.2, hp, rfl⟩
theorem aIv (t : aN) : (gL t).Nodup := by
 have key : ∀ n, ((List.range n).flatMap fun r : Nat => (List.range (bV t r)).map fun p => (r, p)).Nodup := by
  intro n
  induction n with
  | zero => simp
  | succ n ih =>
   rw [uX]
   refine List.nodup_append.2 ⟨ih, ?_, fun x hx y hy e => ?_⟩
   ·exact List.Pairwise.map _ (fun a b hab e => hab (congrArg Prod.snd e)) List.nodup_range
   ·simp only [List.mem_flatMap, List.mem_range, List.mem_map] at hx hy
    obtain ⟨r, hr, p, hp, rfl⟩ := hx
    obtain ⟨q, hq, rfl⟩ := hy
    have := congrArg Prod.fst e
    simp at this
    omega
 exact key _
end Go.Am
end
section
namespace Go.Am
theorem aYj {α : Type} {l l' : List α} (hn : l.Nodup) (hn' : l'.Nodup) (h : ∀ x, x ∈ l ↔ x ∈ l') : (l = [] ↔ l' = []) ∧ (∀ x, l = [x] ↔ l' = [x]) := by
 have key : ∀ {l l' : List α}, l.Nodup → l'.Nodup → (∀ x, x ∈ l ↔ x ∈ l') → (l = [] → l' = []) ∧ ∀ x, l = [x] → l' = [x] := by
  intro l l' hn hn' h
  refine ⟨fun e => ?_, fun x e => ?_⟩
  ·subst e
   cases l' with
   | nil => rfl
   | cons a l' => exact absurd ((h a).2 (by simp)) (by simp)
  ·subst e
   cases l' with
   | nil => exact absurd ((h x).1 (by simp)) (by simp)
   | cons a l' =>
    have ha : a = x := by simpa using (h a).2 (by simp)
    subst ha
    cases l' with
    | nil => rfl
    | cons b l' =>
     have hb : b = a := by simpa using (h b).2 (by simp)
     subst hb
     simp at hn'
 exact ⟨⟨(key hn hn' h).1, (key hn' hn fun x => (h x).symm).1⟩, fun x => ⟨(key hn hn' h).2 x, (key hn' hn fun x => (h x).symm).2 x⟩⟩
theorem aNm {α : Type} [DecidableEq α] {l l' : List α} (hn : l.Nodup) (hn' : l'.Nodup) (h : ∀ x, x ∈ l ↔ x ∈ l') : l.length = l'.length :=
 Nat.le_antisymm (nU hn fun x hx => (h x).1 hx) (nU hn' fun x hx => (h x).2 hx)
theorem aLm {L L' : List aF} (hn : L.Nodup) (hn' : L'.Nodup) (h : ∀ x, x ∈ L ↔ x ∈ L') (i : Int) : ∀ (n : Nat) (now : Int) (ever : List Int) (U : List aF), gX L i n now ever U = gX L' i n now ever U
 | 0, _, _, _ => rfl
 | n + 1, now, ever, U => by
  have hc := aYj (l := gK L i now) (l' := gK L' i now) (hn.filter _) (hn'.filter _) fun x => by simp only [qC, h]
  unfold gX
  cases e : gK L i now with
  | nil => rw [hc.1.1 e]
  | cons s cs =>
   cases cs with
   | nil =>
    rw [(hc.2 s).1 e]
    simp only
    rw [aLm hn hn' h i n]
   | cons s2 cs =>
    cases e' : gK L' i now with
    | nil => rw [hc.1.2 e'] at e; cases e
    | cons s' cs' =>
     cases cs' with
     | nil => rw [(hc.2 s').2 e'] at e; cases e
     | cons s2' cs' => rfl
theorem aLk {L L' : List aF} (hn : L.Nodup) (hn' : L'.Nodup) (h : ∀ x, x ∈ L ↔ x ∈ L') : ∀ (n i : Nat) (d ever : List Int) (U : List aF), iO L n i d ever U = iO L' n i d ever U
 | 0, _, _, _, _ => rfl
 | n + 1, i, d, ever, U => by
  unfold iO
  rw [aLm hn hn' h, aNm hn hn' h]
  cases gX L' i (L'.length + 1) (d.getD i 0) ever U with
  | none => rfl
  | some q => exact aLk hn hn' h n _ _ _ _
theorem vG (l : List aF) : (dL l).Nodup := (aAx l).filter _
theorem aJb {l : List aF} {x : aF} : x ∈ dL l ↔ x ∈ l ∧ x.Kind = 5 := by simp [dL, nG, isL]
theorem aRi {t : aN} {l l' : List aF} (h : ∀ x : aF, x.Kind = 5 → (x ∈ l ↔ x ∈ l')) : kG t l = kG t l' := by
 have hm : ∀ x, x ∈ dL l ↔ x ∈ dL l' := fun x => by
  rw [aJb, aJb]
  exact ⟨fun ⟨a, b⟩ => ⟨(h x b).1 a, b⟩, fun ⟨a, b⟩ => ⟨(h x b).2 a, b⟩⟩
 unfold kG aAh
 rw [aLk (vG l) (vG l') hm, aNm (vG l) (vG l') hm]
section
variable {t : aN} {l : List aF} {d : List Int} (hg : Good t l d)
include hg
theorem Good.fn : Func (eV d (Res l)) := hg.agr.2.fn
theorem Good.rok {x : aF} (hx : Res l x) : ROK t x := aIb (hg.slips x hx.1) hx.2
theorem Good.down {q p : Nat} {v : Int} (h : eV d (Res l) ⟨q, p⟩ v) : ∃ a, a < d.length ∧ v = d.getD a 0 ∧ d.getD a 0 ≠ -1 ∧ cell a q = ⟨q, p⟩ ∧ q < t.Rounds.toNat ∧ ∀ q', q' ≤ q → eV d (Res l) (cell a q') v := by
 have hD := hg.dok
 have h1 := hg.ht.r1
 rcases h with ⟨i, hi, hb, hm, hv⟩ | ⟨x, hx, a, ha, he, hv, q', hq, hm⟩
 ·have hsl : sib i < d.length := by rw [hD.len]; exact aBo hg.ht (by rw [← hD.len]; exact hi)
  have hq0 : q = 0 := by simp only [cell, aD.mk.injEq] at hm; omega
  refine ⟨sib i, hsl, hv, hD.sib_ne hg.ht hi hb, by rw [hq0] at hm ⊢; exact hm.symm, by omega, fun q' hq' => ?_⟩
  have : q' = 0 := by omega
  subst this
  exact .inl ⟨i, hi, hb, rfl, hv⟩
 ·have hr := hg.rok hx
  have hp := hr.p0
  have hr0 := hr.r0
  have hr1 := hr.r1
  have hqq : q = q' := by simp only [cell, aD.mk.injEq] at hm; omega
  subst hqq
  exact ⟨a, ha, hv, by omega, hm.symm, by omega, fun q' hq' => .inr ⟨x, hx, a, ha, he, hv, q', by omega, rfl⟩⟩
end
theorem uL {l : List aF} {x : aF} (hx : x.Kind ≠ 5) (y : aF) : Res (l ++ [x]) y ↔ Res l y ∨ y = x := by
 unfold Res
 rw [List.mem_append, List.mem_singleton]
 constructor
 ·rintro ⟨h | h, h2⟩
  ·exact .inl ⟨h, h2⟩
  ·exact .inr h
 ·rintro (⟨h, h2⟩ | rfl)
  ·exact ⟨.inl h, h2⟩
  ·exact ⟨.inr rfl, hx⟩
section
variable {t : aN} {l : List aF} {d : List Int} (hg : Good t l d) {x : aF} (hx : x.Kind ≠ 5) (hs : fK t x = true)
include hg hx hs
theorem yX {a : Nat} (ha : a < d.length) (he : d.getD a 0 = x.Player) (m : aD) (v : Int) : eV d (Res (l ++ [x])) m v ↔ eV d (Res l) m v ∨ clm d a x.Round.toNat m v := by
 have h1 := aFm hg.dok (aIb hs hx) ha he m v
 constructor
 ·rintro (h | ⟨y, hy, h⟩)
  ·exact .inl (.inl h)
  ·rcases (uL hx y).1 hy with hy | rfl
   ·exact .inl (.inr ⟨y, hy, h⟩)
   ·exact .inr (h1.1 ⟨_, rfl, h⟩)
 ·rintro ((h | ⟨y, hy, h⟩) | h)
  ·exact .inl h
  ·exact .inr ⟨y, (uL hx y).2 (.inl hy), h⟩
  ·exact .inr ⟨x, (uL hx x).2 (.inr rfl), a, ha, he, h⟩
omit hg hs in
theorem aJi : kG t (l ++ [x]) = kG t l := aRi fun y hy => by
 rw [List.mem_append, List.mem_singleton]
 exact ⟨fun h => h.resolve_right fun e => hx (e ▸ hy), .inl⟩
theorem aWl {a : Nat} (ha : a < d.length) (he : d.getD a 0 = x.Player) (hc : cell a x.Round.toNat = ⟨x.Round, x.Place⟩) (hco : pM (eV d (Res l)) (clm d a x.Round.toNat)) (hno : ∀ y ∈ l, y.Kind ≠ 5 → y.Round = x.Round → y.Place = x.Place → y = x) : AGR t (l ++ [x]) d := by
 have hO := hg.agr.2
 refine ⟨by rw [aJi hx]; exact hg.agr.1, fun y hy z hz ky kz e1 e2 => ?_, fun y hy => ?_, fun m v w h1 h2 => ?_⟩
 ·rcases (uL hx y).1 ⟨hy, ky⟩ with hy' | rfl
  ·rcases (uL hx z).1 ⟨hz, kz⟩ with hz' | rfl
   ·exact hO.two y hy'.1 z hz'.1 ky kz e1 e2
   ·exact hno y hy'.1 ky e1 e2
  ·rcases (uL hx z).1 ⟨hz, kz⟩ with hz' | hz'
   ·exact (hno z hz'.1 kz e1.symm e2.symm).symm
   ·exact hz'.symm
 ·rcases (uL hx y).1 hy with hy' | rfl
  ·exact hO.slot y hy'
  ·exact ⟨a, ha, he, hc⟩
 ·rcases (yX hg hx hs ha he m v).1 h1 with p1 | p1 <;> rcases (yX hg hx hs ha he m w).1 h2 with p2 | p2
  ·exact hO.fn m v w p1 p2
  ·exact hco m v w p1 p2
  ·exact (hco m w v p2 p1).symm
  ·rw [p1.1, p2.1]
theorem aOs {d' : List Int} (hA : AGR t (l ++ [x]) d') : d' = d ∧ ∃ a, a < d.length ∧ d.getD a 0 = x.Player ∧ cell a x.Round.toNat = ⟨x.Round, x.Place⟩ ∧ pM (eV d (Res l)) (clm d a x.Round.toNat) := by
 have h1 := hA.1
 rw [aJi hx, hg.agr.1] at h1
 cases h1
 obtain ⟨a, ha, he, hc⟩ := hA.2.slot x ((uL hx x).2 (.inr rfl))
 refine ⟨rfl, a, ha, he, hc, fun m v w p1 p2 => hA.2.fn m v w ((yX hg hx hs ha he m v).2 (.inl p1)) ((yX hg hx hs ha he m w).2 (.inr p2))⟩
theorem Good.add {a : Nat} (hl : l.length < 60) (ha : a < d.length) (he : d.getD a 0 = x.Player) (hc : cell a x.Round.toNat = ⟨x.Round, x.Place⟩) (hco : pM (eV d (Res l)) (clm d a x.Round.toNat)) (hno : ∀ y ∈ l, y.Kind ≠ 5 → y.Round = x.Round → y.Place = x.Place → y = x) : Good t (l ++ [x]) d :=
 ⟨hg.tree, by simp; omega, fun s hm => by
  rcases List.mem_append.1 hm with h | h
  ·exact hg.slips s h
  ·rw [List.mem_singleton.1 h]; exact hs, aWl hg hx hs ha he hc hco hno⟩
theorem Stat.add (hl : l.length < 60) (hno : ¬ ∃ a, a < d.length ∧ d.getD a 0 = x.Player ∧ cell a x.Round.toNat = ⟨x.Round, x.Place⟩ ∧ pM (eV d (Res l)) (clm d a x.Round.toNat)) : Stat t (l ++ [x]) 72 :=
 .s72 hg.tree (by simp; omega) (fun s hm => by
  rcases List.mem_append.1 hm with h | h
  ·exact hg.slips s h
  ·rw [List.mem_singleton.1 h]; exact hs) fun d' hd => hno (aOs hg hx hs hd).2
end
end Go.Am
end
section
namespace Go.Am
def sL (bad : Nat → Bool) (n : Nat) : Nat := ((List.range n).find? bad).getD n
theorem aGm (bad : Nat → Bool) (n : Nat) : sL bad n ≤ n := by
 unfold sL
 cases h : (List.range n).find? bad with
 | none => simp
 | some k => have := List.mem_of_find?_eq_some h; simp at this; simp; omega
theorem aGl {bad : Nat → Bool} {n r : Nat} (hr : r < n) : r < sL bad n ↔ ∀ q, q ≤ r → bad q = false := by
 unfold sL
 cases h : (List.range n).find? bad with
 | none =>
  rw [List.find?_eq_none] at h
  simp only [Option.getD_none, hr, true_iff]
  intro q hq
  have := h q (by simp; omega)
  simpa using this
 | some k =>
  obtain ⟨hk, us, bs, he, hb⟩ := List.find?_eq_some_iff_append.1 h
  have hkn : k < n := by have := List.mem_of_find?_eq_some h; simpa using this
  have hlen : us.length = k := by
   have h1 : (List.range n)[us.length]? = some k := by rw [he]; simp
   rw [List.getElem?_eq_some_iff] at h1
   obtain ⟨_, h1⟩ := h1
   simpa using h1
  have has : ∀ q, q < k → q ∈ us := fun q hq => by
   have h1 : (List.range n)[q]? = some q := by rw [List.getElem?_range (by omega)]
   rw [he, List.getElem?_append_left (by omega)] at h1
   exact List.mem_of_getElem? h1
  simp only [Option.getD_some]
  constructor
  ·intro hrk q hq
   have := hb q (has q (by omega))
   simpa using this
  ·intro hall
   refine Classical.byContradiction fun hn => ?_
   rw [hall k (by omega)] at hk
   cases hk
theorem yD {T : Type} (F : Nat → Int → T) (n : Nat) (bad : Nat → Bool) (out : Nat → T) (hstep : ∀ k i : Nat, i < n → F (k + 1) (i : Int) = bif bad i then out i else F k ((i + 1 : Nat) : Int)) (hstop : ∀ k, F (k + 1) (n : Int) = out n) : ∀ k, n < k → F k 0 = out (sL bad n) := by
 have := fun k h => fP (S := Unit) (fun k i _ => F k i) n (fun i _ => out (((List.range' i (n - i)).find? bad).getD n)) (fun _ _ => True) ?_ ?_ k () h trivial
 ·intro k h
  have := this k h
  simpa [sL, List.range_eq_range'] using this
 ·intro k i _ hi _ ih
  have e : n - i = (n - (i + 1)) + 1 := by omega
  rw [hstep k i hi, ih () trivial, e, List.range'_succ, List.find?_cons]
  cases bad i <;> simp
 ·intro k _ _
  rw [hstop k]; simp
section
variable {t : aN} (d : List Int) (must : List (List Int)) (a : Nat)
def aEa (r : Nat) : Bool := !decide (mat must r (a / 2 ^ (r + 1)) = -2) && !decide (mat must r (a / 2 ^ (r + 1)) = d.getD a 0)
def aDz (r : Nat) : Bool := !decide (mat must r (a / 2 ^ (r + 1)) = d.getD a 0)
def tF (t : aN) : Nat := sL (aEa d must a) t.Rounds.toNat
def zI (t : aN) : Nat := sL (aDz d must a) t.Rounds.toNat
end
section
variable {t : aN} (ht : TreeOK t) {d : List Int} (hD : DOK t d) {must : List (List Int)} {P : mR} (hM : MustIs t must P)
include ht hD hM
theorem aNo {a q : Nat} (ha : a < d.length) (hq : q < t.Rounds.toNat) (v : Int) : (mat must q (a / 2 ^ (q + 1)) = v ∧ v ≠ -2) ↔ P (cell a q) v := hM.mem q _ v hq (rI ht (hD.len ▸ ha) hq)
theorem aMr {a q : Nat} (ha : a < d.length) (hq : q < t.Rounds.toNat) : aEa d must a q = false ↔ ∀ v, P (cell a q) v → v = d.getD a 0 := by
 have hm := aNo ht hD hM ha hq
 unfold aEa
 rw [Bool.and_eq_false_iff, Bool.not_eq_false', Bool.not_eq_false', decide_eq_true_eq, decide_eq_true_eq]
 constructor
 ·rintro (h | h) v hv
  ·have := (hm v).2 hv; exact absurd (this.1.symm.trans h) this.2
  ·have := (hm v).2 hv; exact this.1.symm.trans h
 ·intro h
  by_cases h2 : mat must q (a / 2 ^ (q + 1)) = -2
  ·exact .inl h2
  ·exact .inr (h _ ((hm _).1 ⟨rfl, h2⟩))
theorem aMq {a q : Nat} (ha : a < d.length) (hq : q < t.Rounds.toNat) : aDz d must a q = false ↔ P (cell a q) (d.getD a 0) := by
 have hr := hD.rng a ha
 unfold aDz
 rw [Bool.not_eq_false', decide_eq_true_eq, ← aNo ht hD hM ha hq]
 exact ⟨fun h => ⟨h, by omega⟩, fun h => h.1⟩
theorem aXa {a r : Nat} (ha : a < d.length) (hr : r < t.Rounds.toNat) : r < tF d must a t ↔ pM P (clm d a r) := by
 unfold tF
 rw [aGl hr]
 constructor
 ·rintro h m v w hP ⟨rfl, q, hq, rfl⟩
  exact (aMr ht hD hM ha (by omega)).1 (h q hq) v hP
 ·intro h q hq
  exact (aMr ht hD hM ha (by omega)).2 fun v hv => h _ v _ hv ⟨rfl, q, hq, rfl⟩
theorem aVf {a r : Nat} (ha : a < d.length) (hr : r < t.Rounds.toNat) : r < zI d must a t ↔ ∀ q, q ≤ r → P (cell a q) (d.getD a 0) := by
 unfold zI
 rw [aGl hr]
 exact ⟨fun h q hq => (aMq ht hD hM ha (by omega)).1 (h q hq), fun h q hq => (aMq ht hD hM ha (by omega)).2 (h q hq)⟩
end
def Srt (l : List Int) : Prop := l.Pairwise (· ≤ ·)
theorem aTw : ∀ {l m : List Int}, Srt l → Srt m → l.Perm m → l = m
 | [], m, _, _, hp => hp.nil_eq
 | a :: l, [], _, _, hp => absurd hp.length_eq (by simp)
 | a :: l, b :: m, hl, hm, hp => by
  have hl' := List.pairwise_cons.1 hl
  have hm' := List.pairwise_cons.1 hm
  have h1 : a = b := by
   have ha : a ∈ b :: m := hp.subset (by simp)
   have hb : b ∈ a :: l := hp.symm.subset (by simp)
   rcases List.mem_cons.1 ha with e | ha
   ·exact e
   ·rcases List.mem_cons.1 hb with e | hb
    ·exact e.symm
    ·have := hl'.1 b hb
     have := hm'.1 a ha
     omega
  subst h1
  rw [aTw hl'.2 hm'.2 (List.Perm.cons_inv hp)]
theorem aRz (l : List Int) : Srt (l.mergeSort fun x y => decide (x ≤ y)) := by
 have := List.pairwise_mergeSort (le := fun x y : Int => decide (x ≤ y)) (fun a b c h1 h2 => by simp at *; omega) (fun a b => by simp; omega) l
 exact this.imp fun h => by simpa using h
structure SinkI (l out : List Int) (k : Nat) : Prop where
 lt : k < out.length
 perm : out.Perm l
 srt : ∀ i j, i < j → j < out.length → j ≠ k → i ≠ k → out.getD i 0 ≤ out.getD j 0
 up : ∀ j, k < j → j < out.length → out.getD k 0 ≤ out.getD j 0
theorem SinkI.done {l out : List Int} {k : Nat} (h : SinkI l out k) (hd : k = 0 ∨ out.getD (k - 1) 0 ≤ out.getD k 0) : Srt out ∧ out.Perm l := by
 refine ⟨?_, h.perm⟩
 unfold Srt
 rw [List.pairwise_iff_getElem]
 intro i j hi hj hij
 rw [← bT hi 0, ← bT hj 0]
 by_cases hjk : j = k
 ·subst hjk
  rcases hd with h0 | h0
  ·omega
  ·by_cases hik : i = j - 1
   ·subst hik; exact h0
   ·have := h.srt i (j - 1) (by omega) (by omega) (by omega) (by omega)
    omega
 ·by_cases hik : i = k
  ·subst hik; exact h.up j hij hj
  ·exact h.srt i j hij hj hjk hik
theorem aTz {l : List Int} {i j : Nat} (hi : i < l.length) (hj : j < l.length) : ((l.set i (l.getD j 0)).set j (l.getD i 0)).Perm l := by
 rw [bT hi, bT hj]
 by_cases hij : i = j
 ·subst hij; rw [List.set_set]; rw [List.set_getElem_self]
 ·exact List.set_set_perm hi hj
theorem SinkI.next {l out : List Int} {k : Nat} (h : SinkI l out k) (hk : 0 < k) (hlt : out.getD k 0 < out.getD (k - 1) 0) : SinkI l ((out.set k (out.getD (k - 1) 0)).set (k - 1) (out.getD k 0)) (k - 1) := by
 have hkl := h.lt
 have hg : ∀ j, ((out.set k (out.getD (k - 1) 0)).set (k - 1) (out.getD k 0)).getD j 0 = if j = k - 1 then out.getD k 0 else if j = k then out.getD (k - 1) 0 else out.getD j 0 := by
  intro j
  rw [lB (by rw [List.length_set]; omega), lB hkl]
 refine ⟨by simp; omega, (aTz hkl (by omega)).trans h.perm, fun i j hij hj hjk hik => ?_, fun j hj1 hj => ?_⟩
 ·simp only [List.length_set] at hj
  rw [hg, hg, if_neg hik, if_neg hjk]
  by_cases hi : i = k
  ·subst hi
   rw [if_pos rfl, if_neg (by omega)]
   exact h.srt (i - 1) j (by omega) hj (by omega) (by omega)
  ·rw [if_neg hi]
   by_cases hj' : j = k
   ·subst hj'
    rw [if_pos rfl]
    exact h.srt i (j - 1) (by omega) (by omega) (by omega) (by omega)
   ·rw [if_neg hj']
    exact h.srt i j hij hj hj' hi
 ·simp only [List.length_set] at hj
  rw [hg, hg, if_pos rfl, if_neg (by omega)]
  by_cases hj' : j = k
  ·subst hj'; rw [if_pos rfl]; omega
  ·rw [if_neg hj']
   exact h.up j (by omega) hj
theorem SinkI.start {out : List Int} (hs : Srt out) (x : Int) : SinkI (out ++ [x]) (out ++ [x]) out.length := by
 unfold Srt at hs
 rw [List.pairwise_iff_getElem] at hs
 refine ⟨by simp, .refl _, fun i j hij hj hjk hik => ?_, fun j h1 h2 => by simp at h2; omega⟩
 simp only [List.length_append, List.length_singleton] at hj
 have hj' : j < out.length := by omega
 have hi' : i < out.length := by omega
 rw [bT (by simp; omega), bT (by simp; omega), List.getElem_append_left hi', List.getElem_append_left hj']
 exact hs i j hi' hj' hij
end Go.Am
end
section
namespace Go.Am
section
variable {t : aN} {l : List aF} {d : List Int} (hg : Good t l d)
include hg
end
end Go.Am
end
section
namespace Go.Am
theorem aFn (l : List Int) : Srt (jR l) := aRz l
theorem yK (l : List Int) : (jR l).Perm l := List.mergeSort_perm l _
theorem aHu {l m : List Int} (h1 : Srt m) (h2 : m.Perm l) : m = jR l := aTw h1 (aFn l) (h2.trans (yK l).symm)
theorem aVt (a0 : Int → List Int → Option (List Int)) (l0 : List Int) (i : Int) {l : List Int} : ∀ (n k fuel : Nat) (out : List Int), k = n → SinkI l out k → k < fuel → out.length ≤ 1000 → kM a0 l0 i fuel k out = qS a0 l0 i (jR l) := by
 intro n
 induction n with
 | zero =>
  intro k fuel out hn hS hf hl
  subst hn
  cases fuel with
  | zero => omega
  | succ fuel =>
   obtain ⟨h1, h2⟩ := hS.done (.inl rfl)
   simp only [kM, show decide ((0 : Int) < ((0 : Nat) : Int)) = false by decide, cond_false, Option.bind_some, aHu h1 h2]
 | succ n ih =>
  intro k fuel out hn hS hf hl
  subst hn
  cases fuel with
  | zero => omega
  | succ fuel =>
   have hk := hS.lt
   have hk1 : n < out.length := by omega
   have hlt : decide ((0 : Int) < ((n + 1 : Nat) : Int)) = true := decide_eq_true (by omega)
   have hp : w64 (((n + 1 : Nat) : Int) - 1) = (n : Int) := by rw [dJ (by omega) (by omega)]; omega
   simp only [kM, hlt, cond_true, hp, cC hk, cC hk1, Option.bind_some]
   rw [← bT hk 0, ← bT hk1 0]
   by_cases hc : out.getD (n + 1) 0 < out.getD n 0
   ·have hN := hS.next (by omega) hc
    have e : ((n + 1 : Nat) : Int).toNat = n + 1 := by omega
    have e2 : ((n : Nat) : Int).toNat = n := by omega
    have hk2 : n < (out.set (n + 1) (out.getD n 0)).length := by rw [List.length_set]; exact hk1
    simp only [hc, decide_true, cond_true, e, e2, cC hk2, Option.bind_some]
    exact ih n fuel _ rfl hN (by omega) (by simp; omega)
   ·simp only [hc, decide_false, cond_false]
    obtain ⟨h1, h2⟩ := hS.done (.inr (by simp only [Nat.add_sub_cancel]; omega))
    rw [aHu h1 h2]
theorem aRy (l : List Int) (hl : l.length ≤ 900) : tM l = some (jR l) := by
 unfold tM
 have := fP (S := List Int) (fun k i out => kL l k i out) l.length (fun _ _ => some (jR l)) (fun i out => out = jR (l.take i)) ?_ ?_ BIG [] (cX (by omega)) (by simp [jR])
 ·exact this
 ·rintro k i out hi rfl ih
  have hlen : (jR (l.take i)).length = i := by rw [(yK _).length_eq]; simp; omega
  simp only [kL, Int.ofNat_lt, hi, decide_true, cond_true, cC hi, Option.bind_some]
  rw [fQ (by simp; omega), Option.bind_some]
  have e : w64 (((jR (l.take i) ++ [l[i]]).length : Int) - 1) = (((jR (l.take i)).length : Nat) : Int) := by
   rw [List.length_append, List.length_singleton, dJ (by omega) (by omega)]; omega
  rw [e, aVt _ l i (jR (l.take i)).length _ BIG _ rfl (SinkI.start (aFn _) l[i]) (cX (by omega)) (by simp; omega)]
  unfold qS vC
  rw [cI (show i < 9223372036854775807 by omega)]
  refine ih _ ?_
  rw [List.take_succ_eq_append_getElem hi]
  exact aHu (aFn _) ((yK _).trans ((yK (l.take i)).append_right _))
 ·rintro k out rfl
  have hlt : decide ((l.length : Int) < (l.length : Int)) = false := decide_eq_false (by omega)
  simp only [kL, hlt, cond_false, vB, List.take_length]
section
variable {t : aN} (ht : TreeOK t) {d : List Int} (hD : DOK t d) {must : List (List Int)} {P : mR} (hM : MustIs t must P) {won : List (aD × Int)} (hW : WonIs won P)
include ht hD hM
theorem aNr {a : Nat} (ha : a < d.length) : rY t ⟨d, must⟩ a = some (tF d must a t : Int) := by
 have h1 := ht.r1
 have h5 := ht.r5
 unfold rY
 refine yD (fun k i => mA a t ⟨d, must⟩ k i) t.Rounds.toNat (aEa d must a) (fun i => some (i : Int)) (fun k i hi => ?_) (fun k => ?_) BIG (cX (by omega))
 ·have hlt : decide ((i : Int) < t.Rounds) = true := decide_eq_true (by omega)
  have hw : w64 ((i : Int) + 1) = ((i + 1 : Nat) : Int) := cI (by omega)
  have hu : IntKind.u64.wrap ((i + 1 : Nat) : Int) = ((i + 1 : Nat) : Int) := sU (by omega) (by omega)
  have hch : chk (decide (0 ≤ ((i + 1 : Nat) : Int))) = some () := by unfold chk; rw [decide_eq_true (by omega)]; rfl
  have hmin : min ((i + 1 : Nat) : Int).toNat 64 = i + 1 := by omega
  have hml := hM.len
  have hrl := hM.row i hi
  have hpin := rI ht (hD.len ▸ ha) hi
  have hql : i < must.length := by omega
  have hi1 : idx must (i : Int) = some (must.getD i []) := by rw [cC hql, bT hql]
  have hi2 : idx (must.getD i []) ((a / 2 ^ (i + 1) : Nat) : Int) = some (mat must i (a / 2 ^ (i + 1))) := by
   have hlt' : a / 2 ^ (i + 1) < (must.getD i []).length := by omega
   rw [cC hlt']; exact congrArg some (bT hlt' (-2)).symm
  simp only [mA, hlt, cond_true, hw, hu, hch, hmin, wE, Option.bind_some, hi1, hi2, cC ha, oK, sK]
  rw [← bT ha 0]
  unfold aEa
  cases decide (mat must i (a / 2 ^ (i + 1)) = -2) <;> cases decide (mat must i (a / 2 ^ (i + 1)) = d.getD a 0) <;> rfl
 ·have hlt : decide (((t.Rounds.toNat : Nat) : Int) < t.Rounds) = false := decide_eq_false (by omega)
  simp only [mA, hlt, cond_false, Option.bind_some, sK]
theorem aSy {a : Nat} (ha : a < d.length) : uF t ⟨d, must⟩ a = some (zI d must a t : Int) := by
 have h1 := ht.r1
 have h5 := ht.r5
 unfold uF
 refine yD (fun k i => lK a t ⟨d, must⟩ k i) t.Rounds.toNat (aDz d must a) (fun i => some (i : Int)) (fun k i hi => ?_) (fun k => ?_) BIG (cX (by omega))
 ·have hlt : decide ((i : Int) < t.Rounds) = true := decide_eq_true (by omega)
  have hw : w64 ((i : Int) + 1) = ((i + 1 : Nat) : Int) := cI (by omega)
  have hu : IntKind.u64.wrap ((i + 1 : Nat) : Int) = ((i + 1 : Nat) : Int) := sU (by omega) (by omega)
  have hch : chk (decide (0 ≤ ((i + 1 : Nat) : Int))) = some () := by unfold chk; rw [decide_eq_true (by omega)]; rfl
  have hmin : min ((i + 1 : Nat) : Int).toNat 64 = i + 1 := by omega
  have hml := hM.len
  have hrl := hM.row i hi
  have hpin := rI ht (hD.len ▸ ha) hi
  have hql : i < must.length := by omega
  have hi1 : idx must (i : Int) = some (must.getD i []) := by rw [cC hql, bT hql]
  have hi2 : idx (must.getD i []) ((a / 2 ^ (i + 1) : Nat) : Int) = some (mat must i (a / 2 ^ (i + 1))) := by
   have hlt' : a / 2 ^ (i + 1) < (must.getD i []).length := by omega
   rw [cC hlt']; exact congrArg some (bT hlt' (-2)).symm
  simp only [lK, hlt, cond_true, hw, hu, hch, hmin, wE, Option.bind_some, hi1, hi2, cC ha, rQ]
  rw [← bT ha 0]
  unfold aDz
  cases decide (mat must i (a / 2 ^ (i + 1)) = d.getD a 0) <;> rfl
 ·have hlt : decide (((t.Rounds.toNat : Nat) : Int) < t.Rounds) = false := decide_eq_false (by omega)
  simp only [lK, hlt, cond_false, Option.bind_some, rQ]
include hW
theorem aMt {a : Nat} (ha : a < d.length) : lL ⟨t, d, won⟩ a = some (tF d must a t : Int) := by
 have h1 := ht.r1
 have h5 := ht.r5
 have e : t.Rounds = ((t.Rounds.toNat : Nat) : Int) := by omega
 unfold lL
 refine yD (fun k i => iD ⟨t, d, won⟩ a t.Rounds k i) t.Rounds.toNat (aEa d must a) (fun i => some (i : Int)) (fun k i hi => ?_) (fun k => ?_) BIG (cX (by omega))
 ·have hlt : decide ((i : Int) < t.Rounds) = true := decide_eq_true (by omega)
  have hpin := rI ht (hD.len ▸ ha) hi
  have hh := zJ hW hM hi hpin
  simp only [iD, hlt, cond_true, aJc (show i ≤ 5 by omega), Option.bind_some, cI (show i < 9223372036854775807 by omega), cC ha]
  have hcell : cell a i = ⟨(i : Int), ((a / 2 ^ (i + 1) : Nat) : Int)⟩ := rfl
  rw [← bT ha 0, hcell, hh]
  unfold aEa
  by_cases h2 : mat must i (a / 2 ^ (i + 1)) = -2
  ·simp only [h2, decide_true, Bool.not_true, cond_false, Option.bind_some, Bool.false_and]
  ·simp only [h2, decide_false, Bool.not_false, cond_true, Option.bind_some, Bool.true_and, aCs hW hM hi hpin h2]
 ·have hlt : decide (((t.Rounds.toNat : Nat) : Int) < t.Rounds) = false := decide_eq_false (by omega)
  simp only [iD, hlt, cond_false, rO]
  rw [← e]
theorem aYg {a : Nat} (ha : a < d.length) : nM ⟨t, d, won⟩ a = some (zI d must a t : Int) := by
 have h1 := ht.r1
 have h5 := ht.r5
 have e : t.Rounds = ((t.Rounds.toNat : Nat) : Int) := by omega
 have hrng := hD.rng a ha
 unfold nM
 refine yD (fun k i => iE ⟨t, d, won⟩ a t.Rounds k i) t.Rounds.toNat (aDz d must a) (fun i => some (i : Int)) (fun k i hi => ?_) (fun k => ?_) BIG (cX (by omega))
 ·have hlt : decide ((i : Int) < t.Rounds) = true := decide_eq_true (by omega)
  have hpin := rI ht (hD.len ▸ ha) hi
  have hh := zJ hW hM hi hpin
  simp only [iE, hlt, cond_true, aJc (show i ≤ 5 by omega), Option.bind_some, cI (show i < 9223372036854775807 by omega), cC ha]
  have hcell : cell a i = ⟨(i : Int), ((a / 2 ^ (i + 1) : Nat) : Int)⟩ := rfl
  rw [← bT ha 0, hcell, hh]
  unfold aDz
  by_cases h2 : mat must i (a / 2 ^ (i + 1)) = -2
  ·have h3 : decide (mat must i (a / 2 ^ (i + 1)) = d.getD a 0) = false := decide_eq_false (by omega)
   simp only [h2] at h3
   simp only [h2, h3, decide_true, Bool.not_true, Bool.not_false, cond_true, Option.bind_some]
  ·simp only [h2, decide_false, Bool.not_false, Bool.not_true, cond_false, Option.bind_some, aCs hW hM hi hpin h2]
 ·have hlt : decide (((t.Rounds.toNat : Nat) : Int) < t.Rounds) = false := decide_eq_false (by omega)
  simp only [iE, hlt, cond_false, rP]
  rw [← e]
end
def aEt (d : List Int) (must : List (List Int)) (t : aN) (r p a : Nat) : Bool := !decide (d.getD a 0 = -1) && decide (a / 2 ^ (r + 1) = p) && decide (r < tF d must a t)
def zK (d : List Int) (must : List (List Int)) (t : aN) (r p n : Nat) : List Int := ((List.range n).filter (aEt d must t r p)).map (d.getD · 0)
def aNp (d : List Int) (must : List (List Int)) (t : aN) (r p : Nat) : List Int := zK d must t r p d.length
theorem aLc (d : List Int) (must : List (List Int)) (t : aN) (r p n : Nat) : zK d must t r p (n + 1) = zK d must t r p n ++ (if aEt d must t r p n = true then [d.getD n 0] else []) := by
 unfold zK
 rw [List.range_succ, List.filter_append, List.map_append]
 congr 1
 simp only [List.filter_cons, List.filter_nil]
 split <;> rfl
theorem aCv (d : List Int) (must : List (List Int)) (t : aN) (r p n : Nat) : (zK d must t r p n).length ≤ n := by
 have := List.length_filter_le (aEt d must t r p) (List.range n)
 simpa [zK] using this
section
variable {t : aN} {l : List aF} {d : List Int} (hg : Good t l d) {must : List (List Int)} (hd : dW t l = some (⟨d, must⟩, true)) (hM : MustIs t must (eV d (Res l)))
include hg hM
theorem aWy {r p : Nat} (hr : r < t.Rounds.toNat) : iA r p t ⟨d, must⟩ BIG 0 [] = some (jR (aNp d must t r p), 0) := by
 have ht := hg.ht
 have hD := hg.dok
 have h5 := ht.r5
 have h32 := ht.len32
 have hlen := hD.len
 have := fP (S := List Int) (fun k s out => iA r p t ⟨d, must⟩ k s out) d.length (fun _ _ => some (jR (aNp d must t r p), 0)) (fun s out => out = zK d must t r p s) ?_ ?_ BIG [] (cX (by omega)) (by simp [zK])
 ·exact this
 ·rintro k s out hs rfl ih
  have hml := aCv d must t r p s
  have hw : w64 ((r : Int) + 1) = ((r + 1 : Nat) : Int) := cI (by omega)
  have hu : IntKind.u64.wrap ((r + 1 : Nat) : Int) = ((r + 1 : Nat) : Int) := sU (by omega) (by omega)
  have hch : chk (decide (0 ≤ ((r + 1 : Nat) : Int))) = some () := by unfold chk; rw [decide_eq_true (by omega)]; rfl
  have hmin : min ((r + 1 : Nat) : Int).toNat 64 = r + 1 := by omega
  have hst := aLc d must t r p s
  have hdp : decide (((s / 2 ^ (r + 1) : Nat) : Int) = (p : Int)) = decide (s / 2 ^ (r + 1) = p) := by rw [Bool.eq_iff_iff]; simp only [decide_eq_true_eq]; omega
  have hdm : decide ((r : Int) < (tF d must s t : Int)) = decide (r < tF d must s t) := by rw [Bool.eq_iff_iff]; simp only [decide_eq_true_eq]; omega
  simp only [iA, Int.ofNat_lt, hs, decide_true, cond_true, cC hs, Option.bind_some, hw, hu, hch, hmin, wE, hdp, dQ, aNr ht hD hM hs, hdm, cI (show s < 9223372036854775807 by omega)]
  rw [← bT hs 0]
  have e : (!decide (d.getD s 0 = -1) && decide (s / 2 ^ (r + 1) = p) && decide (r < tF d must s t)) = aEt d must t r p s := rfl
  rw [e]
  cases hb : aEt d must t r p s with
  | true =>
   rw [hb, if_pos rfl] at hst
   simp only [cond_true]
   rw [fQ (by simp; omega), Option.bind_some]
   exact ih _ hst.symm
  | false =>
   rw [hb] at hst
   simp only [cond_false]
   exact ih _ (by rw [hst]; simp)
 ·rintro k out rfl
  have hlt : decide ((d.length : Int) < (d.length : Int)) = false := decide_eq_false (by omega)
  have hml := aCv d must t r p d.length
  simp only [iA, hlt, cond_false, xR, aRy _ (show (zK d must t r p d.length).length ≤ 900 by omega), Option.bind_some]
  rfl
theorem aVi {won : List (aD × Int)} (hW : WonIs won (eV d (Res l))) {r p : Nat} (hr : r < t.Rounds.toNat) {Q : List Int × Int → Prop} (hq : Q (jR (aNp d must t r p), 0)) :
  iY Q r (some ⟨t, d, won⟩) d d.length ⟨r, p⟩ BIG 0 [] := by
 have ht := hg.ht
 have hD := hg.dok
 have h5 := ht.r5
 have h32 := ht.len32
 have hlen := hD.len
 refine qB (S := List Int) (fun k s out => iY Q r (some ⟨t, d, won⟩) d d.length ⟨r, p⟩ k s out) d.length (fun x => x) (fun s out => out = zK d must t r p s ∧ s ≤ d.length) ?_ ?_ BIG 0 [] (cX (by omega)) ⟨by simp [zK], by omega⟩
 ·rintro k s out hs ⟨rfl, hsl⟩ ih
  have hml := aCv d must t r p s
  have hst := aLc d must t r p s
  have hdm : decide ((r : Int) < (tF d must s t : Int)) = decide (r < tF d must s t) := by rw [Bool.eq_iff_iff]; simp only [decide_eq_true_eq]; omega
  have hdc : decide (cell s r = (⟨r, p⟩ : aD)) = decide (s / 2 ^ (r + 1) = p) := by
   rw [Bool.eq_iff_iff]; simp only [decide_eq_true_eq, cell, aD.mk.injEq, true_and]; omega
  simp only [iY, Int.ofNat_lt, hs, decide_true, cond_true, cC hs, aJc (show r ≤ 5 by omega), Option.bind_some, aMt ht hD hM hW hs, hdm, hdc, dQ, cI (show s < 9223372036854775807 by omega)]
  refine ⟨_, rfl, _, rfl, _, rfl, aEt d must t r p s, ?_, ?_⟩
  ·rw [← bT hs 0]
   unfold aEt
   cases (!decide (d.getD s 0 = -1) && decide (s / 2 ^ (r + 1) = p)) with
   | false => rfl
   | true => simp only [cond_true, aMt ht hD hM hW hs, Option.bind_some, hdm, Bool.true_and]
  rw [← bT hs 0]
  cases hb : aEt d must t r p s with
  | true =>
   rw [hb, if_pos rfl] at hst
   simp only [cond_true]
   exact ⟨_, fQ (by simp; omega), ih _ ⟨hst.symm, hs⟩⟩
  | false =>
   rw [hb] at hst
   simp only [cond_false]
   exact ih _ ⟨by rw [hst]; simp, hs⟩
 ·rintro k s out hs ⟨rfl, hsl⟩
  have : s = d.length := by omega
  subst this
  have hlt : decide ((d.length : Int) < (d.length : Int)) = false := decide_eq_false (by omega)
  have hml := aCv d must t r p d.length
  simp only [iY, hlt, cond_false, wB]
  refine ⟨jR (aNp d must t r p), ?_, hq⟩
  unfold slices_Sort_int
  rw [if_pos (by omega)]; rfl
end
theorem aKf {α : Type} (A : Option Int) (B : Option (aV × Bool)) (F : aV → Option α) (z : Int → α) {d : aV} (hA : A = some 0) (hB : B = some (d, true)) :
  (A.bind fun r2 => bif !decide (r2 = 0) then some (z r2) else (B.bind fun r3 => F r3.1)) = F d := by subst hA; subst hB; rfl
theorem aWn {t : aN} {l : List aF} {e : Int} (h : Stat t l e) (r p : Int) : jZ t l r p = some ([], e) := by
 unfold jZ
 rw [aBf h, Option.bind_some]
 simp only [h.ne, Bool.not_false, cond_true]
theorem aWm {t : aN} {l : List aF} {d : List Int} (h : Good t l d) {r p : Int} (hm : gB t r p = false) : jZ t l r p = some ([], 1) := by
 unfold jZ
 rw [rW h, hm, Option.bind_some]
 rfl
theorem aUf {t : aN} {l : List aF} {d : List Int} (h : Good t l d) {must : List (List Int)} (hd : dW t l = some (⟨d, must⟩, true)) (hM : MustIs t must (eV d (Res l))) {r p : Nat} (hm : gB t r p = true) :
  jZ t l r p = some (jR (aNp d must t r p), 0) := by
 obtain ⟨r', p', e1, e2, hr, hp⟩ := yE hm
 have e1 : r = r' := by omega
 subst e1
 unfold jZ
 exact (aKf _ _ (fun dd => iA r p t dd BIG 0 []) (fun r2 => ([], r2)) (by rw [rW h, hm]; rfl) hd).trans (aWy h hM hr)
theorem aWo (t : aN) (l : List aF) (r p : Int) {o : List Int × Int} (h : jZ t l r p = some o) (Q : List Int × Int → Prop) (hq : Q o) : tQ t l r p Q := by
 unfold tQ
 rcases vO t l with ⟨d, hg⟩ | ⟨e, he⟩
 ·refine aPo hg fun won hW => ?_
  cases hm : gB t r p with
  | false =>
   rw [aWm hg hm] at h; cases h
   exact hq
  | true =>
   obtain ⟨r', p', rfl, rfl, hr, hp⟩ := yE hm
   obtain ⟨must, hd, hM⟩ := pY hg
   rw [aUf hg hd hM hm] at h; cases h
   simp only [cond_true, decide_true, Bool.not_true, cond_false]
   exact ⟨_, rfl, aVi hg hM hW hr hq⟩
 ·rw [aWn he] at h; cases h
  refine aSh he ?_
  simp only [he.ne, Bool.not_false, cond_true]
  exact hq
end Go.Am
end
