/- Plain laws, one behind the other. -/
import Derived.Test.YtiohgpipanopaaaGreatTlSh
import Derived.Test.YtiohgpipanopaaaGreatAmPlain
import Derived.KernelRfl
section
namespace Go.Am
theorem aBs {α β : Type} [DecidableEq α] (a b : α) (z v : β) : ∀ l : List (α × β), cG b z (eP a v l) = if b = a then v else cG b z l
 | [] => by by_cases h : b = a <;> simp [eP, cG, h]
 | (k, u) :: l => by
  by_cases h1 : a = k
  ·subst h1
   by_cases h2 : b = a
   ·simp [eP, cG, h2]
   ·simp [eP, cG, h2]
  ·by_cases h2 : b = k
   ·subst h2
    simp [eP, cG, h1, Ne.symm h1]
   ·simp [eP, cG, h1, h2, aBs a b z v l]
def wi (n lo hi : Int) : Bool := decide (lo ≤ n) && decide (n ≤ hi)
theorem fU {n lo hi : Int} : wi n lo hi = true ↔ lo ≤ n ∧ n ≤ hi := by simp [wi]
theorem sW (n lo hi : Int) : eR n lo hi = some (wi n lo hi) := by simp [eR, eJ, wi]
theorem tM (n lo hi : Int) : eO n lo hi = some (wi n lo hi) := by simp [eO, eJ, wi]
theorem aZ {α : Type} {l : List α} {i : Nat} (h : i < l.length) (d : α) : l.getD i d = l[i] := by simp [List.getD, h]
structure TreeOK (t : aJ) : Prop where
 r1 : 1 ≤ t.Rounds
 r5 : t.Rounds ≤ 5
 len : t.Slots.length = 2 ^ t.Rounds.toNat
 rng : ∀ i (h : i < t.Slots.length), -1 ≤ t.Slots[i] ∧ t.Slots[i] ≤ 999
 bye : ∀ j (h : 2 * j + 1 < t.Slots.length), t.Slots[2 * j] = -1 → t.Slots[2 * j + 1] ≠ -1
 dup : ∀ i (h : i < t.Slots.length) k (hk : k < i), t.Slots[k] = t.Slots[i] → t.Slots[i] = -1
theorem TreeOK.len32 {t : aJ} (h : TreeOK t) : t.Slots.length ≤ 32 := by
 rw [h.len]
 have h1 := h.r1
 have h5 := h.r5
 have : t.Rounds.toNat ≤ 5 := by omega
 exact Nat.pow_le_pow_right (by omega) this
theorem aRx : ∀ i : Fin 32, aDv ((i.val : Nat) : Int) 1 = ((if i.val % 2 = 0 then i.val + 1 else i.val - 1 : Nat) : Int) := by decide +kernel
theorem aNt : ∀ r : Fin 6, w64 (1 * 2 ^ (min r.val 64)) = ((2 ^ r.val : Nat) : Int) := by decide +kernel
theorem sT {n : Int} (h0 : 0 ≤ n) (h : n ≤ 9223372036854775807) : IntKind.u64.wrap n = n := by
 simp [IntKind.wrap, IntKind.signed, IntKind.bits]
 omega
def lG (t : aJ) : Bool := wi t.Rounds 1 5 && decide (t.Slots.length = 2 ^ t.Rounds.toNat)
theorem aPj {t : aJ} (h : wi t.Rounds 1 5 = true) : w64 (1 * 2 ^ (min t.Rounds.toNat 64)) = ((2 ^ t.Rounds.toNat : Nat) : Int) := by
 rw [fU] at h
 have := aNt ⟨t.Rounds.toNat, by omega⟩
 simpa using this
def zT (S : List Int) (i : Nat) : Bool :=
 if S.getD i 0 = -1 then !decide (S.getD (if i % 2 = 0 then i + 1 else i - 1) 0 = -1) else !decide (S.getD i 0 ∈ S.take i) && wi (S.getD i 0) 0 999
def zU (S : List Int) (i : Nat) : Bool :=
 wi (S.getD i 0) (-1) 999 && !(decide (i % 2 = 1) && decide (S.getD i 0 = -1) && decide (S.getD (i - 1) 0 = -1)) && ((List.range i).all fun k => !(decide (S.getD k 0 = S.getD i 0) && !decide (S.getD i 0 = -1)))
theorem aAe {t : aJ} (h : lG t = true) : t.Slots.length ≤ 32 ∧ t.Slots.length % 2 = 0 := by
 simp only [lG, Bool.and_eq_true, fU, decide_eq_true_eq] at h
 obtain ⟨⟨h1, h2⟩, h3⟩ := h
 have key : ∀ r : Fin 6, 1 ≤ r.val → 2 ^ r.val ≤ 32 ∧ 2 ^ r.val % 2 = 0 := by decide +kernel
 have := key ⟨t.Rounds.toNat, by omega⟩ (by simp; omega)
 rw [h3]
 exact this
theorem aQw (t : aJ) : mD t = some (lG t && (List.range t.Slots.length).all (zT t.Slots)) := by
 unfold mD
 rw [sW]
 cases hw : wi t.Rounds 1 5 with
 | false => simp [lG, hw]
 | true =>
  have hr := fU.1 hw
  have hch : chk (decide (0 ≤ t.Rounds)) = some () := by unfold chk; rw [decide_eq_true (by omega)]; rfl
  simp only [Option.bind_some, Bool.not_true, cond_false, hch, aPj hw]
  by_cases hl : t.Slots.length = 2 ^ t.Rounds.toNat
  ·have hsh : lG t = true := by simp [lG, hw, hl]
   obtain ⟨h32, hev⟩ := aAe hsh
   have hl' : decide ((t.Slots.length : Int) = ((2 ^ t.Rounds.toNat : Nat) : Int)) = true := decide_eq_true (by rw [hl])
   rw [hl', hsh]
   simp only [Bool.not_true, cond_false, Bool.true_and]
   have main := eF (S := List (Int × Int)) (fun k i m => fW t.Slots t.Slots.length t k i m) t.Slots.length (fun i _ => some ((List.range' i (t.Slots.length - i)).all (zT t.Slots)))
    (fun i m => ∀ x, x ≠ -1 → cG x 0 m = if x ∈ t.Slots.take i then 1 else 0) ?_ ?_ BIG [] (cC (by omega)) (by simp [cG])
   ·simpa [List.range_eq_range'] using main
   ·intro k i m hi hI ih
    have hx := aRx ⟨i, by omega⟩
    simp only at hx
    have e : t.Slots.length - i = (t.Slots.length - (i + 1)) + 1 := by omega
    rw [e, List.range'_succ, List.all_cons]
    have hm : ∀ x, x ∈ t.Slots.take (i + 1) ↔ x ∈ t.Slots.take i ∨ x = t.Slots[i] := by
     intro x
     rw [List.take_succ_eq_append_getElem hi, List.mem_append, List.mem_singleton]
    simp only [fW, Int.ofNat_lt, hi, decide_true, cond_true, bS hi, Option.bind_some, bW (show i < 9223372036854775807 by omega), zT, aZ hi]
    by_cases hb : t.Slots[i] = -1
    ·have hj : (if i % 2 = 0 then i + 1 else i - 1) < t.Slots.length := by split <;> omega
     simp only [hb, decide_true, cond_true, hx, if_true, bS hj, Option.bind_some, aZ hj]
     by_cases hc : t.Slots[if i % 2 = 0 then i + 1 else i - 1] = -1
     ·simp [hc]
     ·simp only [hc, decide_false, cond_false, Bool.not_false, Bool.true_and]
      refine ih m fun x hxn => ?_
      rw [hI x hxn]
      have : (x ∈ t.Slots.take (i + 1)) ↔ (x ∈ t.Slots.take i) := by
       rw [hm x]
       constructor
       ·rintro (h | h)
        ·exact h
        ·rw [hb] at h; exact absurd h hxn
       ·exact .inl
      simp [this]
    ·have hcnt := hI t.Slots[i] hb
     simp only [hb, decide_false, cond_false, if_false]
     rw [aBs]
     simp only [if_true, hcnt]
     by_cases hd : t.Slots[i] ∈ t.Slots.take i
     ·have : w64 2 = 2 := by decide +kernel
      simp [hd, this]
     ·have h1 : w64 (0 + 1) = 1 := by decide +kernel
      simp only [hd, if_false, h1, sW, Option.bind_some, show decide ((1 : Int) < 1) = false by decide, cond_false, decide_false, Bool.not_false, Bool.true_and]
      cases hwi : wi t.Slots[i] 0 999 with
      | false => simp
      | true =>
       simp only [Bool.not_true, cond_false, Bool.true_and]
       refine ih _ fun x hxn => ?_
       rw [aBs, hI x hxn]
       by_cases hxe : x = t.Slots[i]
       ·simp [hxe, hm]
       ·simp [hxe, hm]
   ·intro k m _
    simp [fW, rB]
  ·have hl' : decide ((t.Slots.length : Int) = ((2 ^ t.Rounds.toNat : Nat) : Int)) = false := decide_eq_false (by omega)
   rw [hl']
   simp [lG, hl]
theorem aQx (t : aJ) : nS t = some (lG t && (List.range t.Slots.length).all (zU t.Slots)) := by
 unfold nS
 rw [tM]
 cases hw : wi t.Rounds 1 5 with
 | false => simp [lG, hw]
 | true =>
  have hr := fU.1 hw
  have hu : IntKind.u64.wrap t.Rounds = t.Rounds := sT (by omega) (by omega)
  have hch : chk (decide (0 ≤ t.Rounds)) = some () := by unfold chk; rw [decide_eq_true (by omega)]; rfl
  simp only [Option.bind_some, Bool.not_true, cond_false, hu, hch, aPj hw]
  by_cases hl : t.Slots.length = 2 ^ t.Rounds.toNat
  ·have hsh : lG t = true := by simp [lG, hw, hl]
   obtain ⟨h32, hev⟩ := aAe hsh
   have hl' : decide ((t.Slots.length : Int) = ((2 ^ t.Rounds.toNat : Nat) : Int)) = true := decide_eq_true (by rw [hl])
   rw [hl', hsh]
   simp only [Bool.not_true, cond_false, Bool.true_and]
   have main := jO (fun k i => jK t k i) t.Slots.length (zU t.Slots) (some false) (some true) ?_ ?_ BIG (cC (by omega))
   ·rw [main]
    cases (List.range t.Slots.length).all (zU t.Slots) <;> rfl
   ·intro k i hi
    have hin : ∀ ag : Int → Option Bool, gX ag i t BIG 0 = bif (List.range i).all fun k => !(decide (t.Slots.getD k 0 = t.Slots.getD i 0) && !decide (t.Slots.getD i 0 = -1)) then ag ((i + 1 : Nat) : Int) else some false := by
     intro ag
     refine jO (fun k j => gX ag i t k j) i _ (some false) (ag ((i + 1 : Nat) : Int)) ?_ ?_ BIG (cC (by omega))
     ·intro k j hj
      have hj' : j < t.Slots.length := by omega
      simp only [gX, Int.ofNat_lt, hj, decide_true, cond_true, bS hj', bS hi, Option.bind_some, eJ, bW (show j < 9223372036854775807 by omega), aZ hj', aZ hi]
      cases (decide (t.Slots[j] = t.Slots[i]) && !decide (t.Slots[i] = -1)) <;> simp
     ·intro k
      simp [gX, tA, sZ, bW (show i < 9223372036854775807 by omega)]
    have htm : decide (((i : Nat) : Int).tmod 2 = 1) = decide (i % 2 = 1) := by
     have : ((i : Nat) : Int).tmod 2 = ((i % 2 : Nat) : Int) := by
      rw [Int.tmod_eq_emod_of_nonneg (by omega)]; omega
     rw [this]
     simp
     omega
    simp only [jK, Int.ofNat_lt, hi, decide_true, cond_true, bS hi, Option.bind_some, tM, htm, eJ, hin, zU, aZ hi]
    cases hwi : wi t.Slots[i] (-1) 999 with
    | false => simp
    | true =>
     by_cases ho : i % 2 = 1
     ·have hp : i - 1 < t.Slots.length := by omega
      have hwp : w64 ((i : Int) - 1) = ((i - 1 : Nat) : Int) := aEv (by omega) (by omega)
      simp only [ho, decide_true, Bool.true_and, hwp, bS hp, Option.bind_some, eJ, Bool.not_true, cond_false, aZ hp]
      cases (decide (t.Slots[i] = -1) && decide (t.Slots[i - 1] = -1)) <;> simp
     ·simp [ho]
   ·intro k
    simp [jK, sY]
  ·have hl' : decide ((t.Slots.length : Int) = ((2 ^ t.Rounds.toNat : Nat) : Int)) = false := decide_eq_false (by omega)
   rw [hl']
   simp [lG, hl]
theorem wH (l : List Int) (hl : l.length ≤ 9223372036854775807) (v : Int) : gU l v = some (match l.findIdx? (fun x => decide (v = x)) with | some i => (i : Int) | none => -1) := by
 unfold gU
 rw [eF (S := Unit) (fun k i _ => gH l v l.length k i) l.length (fun i _ => some (match (l.drop i).findIdx? (fun x => decide (v = x)) with | some j => ((i + j : Nat) : Int) | none => -1)) (fun _ _ => True) ?_ ?_ BIG () (cC hl) trivial]
 ·simp
 ·intro k i _ hi _ ih
  have := ih () trivial
  simp only [gH, bS hi, Option.bind_some, bW (show i < 9223372036854775807 by omega), Int.ofNat_lt, hi, decide_true, cond_true, this]
  rw [List.drop_eq_getElem_cons hi, List.findIdx?_cons]
  by_cases h : v = l[i]
  ·simp [h]
  ·simp only [h, decide_false, cond_false, Bool.false_eq_true, if_false]
   cases List.findIdx? (fun x => decide (v = x)) (List.drop (i + 1) l) with
   | none => rfl
   | some j => simp; omega
 ·intro k _ _
  simp [gH, pV]
theorem iD (l : List Int) (hl : l.length ≤ 9223372036854775807) (v : Int) : cR l v = some (decide (v ∈ l)) := by
 unfold cR
 rw [wH l hl v]
 cases h : List.findIdx? (fun x => decide (v = x)) l with
 | none =>
  simp at h
  have : v ∉ l := fun hm => h v hm rfl
  simp [this]
 | some j =>
  have : v ∈ l := by
   obtain ⟨h1, h2, _⟩ := List.findIdx?_eq_some_iff_getElem.1 h
   simp at h2
   rw [h2]; exact List.getElem_mem h1
  simp [this]
theorem oK (l : List aE) (hl : l.length ≤ 9223372036854775807) (f : aE → Option Bool) (g : aE → Bool) (hf : ∀ x ∈ l, f x = some (g x)) : fI l f = some (l.any g) := by
 have key : gK l f = some (match l.findIdx? g with | some i => (i : Int) | none => -1) := by
  unfold gK
  rw [eF (S := Unit) (fun k i _ => dQ l f l.length k i) l.length (fun i _ => some (match (l.drop i).findIdx? g with | some j => ((i + j : Nat) : Int) | none => -1)) (fun _ _ => True) ?_ ?_ BIG () (cC hl) trivial]
  ·simp
  ·intro k i _ hi _ ih
   have := ih () trivial
   simp only [dQ, bS hi, Option.bind_some, bW (show i < 9223372036854775807 by omega), Int.ofNat_lt, hi, decide_true, cond_true, this, hf _ (List.getElem_mem hi)]
   rw [List.drop_eq_getElem_cons hi, List.findIdx?_cons]
   cases h : g l[i] with
   | true => simp
   | false =>
    simp only [cond_false, Bool.false_eq_true, if_false]
    cases List.findIdx? g (List.drop (i + 1) l) with
    | none => rfl
    | some j => simp; omega
  ·intro k _ _
   simp [dQ, kT]
 unfold fI
 rw [key]
 cases h : List.findIdx? g l with
 | none =>
  simp at h
  have : l.any g = false := by simpa using h
  simp [this]
 | some j =>
  have : l.any g = true := by
   obtain ⟨h1, h2, _⟩ := List.findIdx?_eq_some_iff_getElem.1 h
   simp only [List.any_eq_true]
   exact ⟨_, List.getElem_mem h1, h2⟩
  simp [this]
end Go.Am
end
section
namespace Go.Am
structure vX (S : List Int) : Prop where
 rng : ∀ i (h : i < S.length), -1 ≤ S[i] ∧ S[i] ≤ 999
 bye : ∀ j (h : 2 * j + 1 < S.length), S[2 * j] = -1 → S[2 * j + 1] ≠ -1
 dup : ∀ i (h : i < S.length) k (hk : k < i), S[k] = S[i] → S[i] = -1
theorem aDu {S : List Int} (hev : S.length % 2 = 0) : (List.range S.length).all (zT S) = true ↔ vX S := by
 rw [fD]
 constructor
 ·intro h
  have hd : ∀ i (hi : i < S.length), (if S[i] = -1 then !decide (S.getD (if i % 2 = 0 then i + 1 else i - 1) 0 = -1) else !decide (S[i] ∈ S.take i) && wi S[i] 0 999) = true := by
   intro i hi
   have := h i hi
   simpa only [zT, aZ hi] using this
  refine ⟨fun i hi => ?_, fun j hj hb => ?_, fun i hi k hk he => ?_⟩
  ·have := hd i hi
   split at this
   ·rename_i hb; omega
   ·rw [Bool.and_eq_true, fU] at this; omega
  ·have := hd (2 * j) (by omega)
   rw [if_pos hb, if_pos (by omega), aZ hj] at this
   simpa using this
  ·have := hd i hi
   by_cases hb : S[i] = -1
   ·exact hb
   ·rw [if_neg hb, Bool.and_eq_true] at this
    have hm : S[i] ∈ S.take i := by
     rw [← he, List.mem_take_iff_getElem]
     exact ⟨k, by omega, rfl⟩
    simp [hm] at this
 ·intro h i hi
  simp only [zT, aZ hi]
  by_cases hb : S[i] = -1
  ·rw [if_pos hb]
   by_cases he : i % 2 = 0
   ·rw [if_pos he]
    obtain ⟨j, rfl⟩ : ∃ j, i = 2 * j := ⟨i / 2, by omega⟩
    rw [aZ (by omega)]
    have := h.bye j (by omega) hb
    simpa using this
   ·rw [if_neg he]
    obtain ⟨j, rfl⟩ : ∃ j, i = 2 * j + 1 := ⟨i / 2, by omega⟩
    have e : 2 * j + 1 - 1 = 2 * j := by omega
    rw [e, aZ (by omega)]
    have := h.bye j hi
    simp only [Bool.not_eq_true', decide_eq_false_iff_not]
    intro hc
    exact this hc hb
  ·rw [if_neg hb, Bool.and_eq_true, fU]
   refine ⟨?_, ?_⟩
   ·simp only [Bool.not_eq_true', decide_eq_false_iff_not]
    intro hm
    rw [List.mem_take_iff_getElem] at hm
    obtain ⟨k, hk, he⟩ := hm
    exact hb (h.dup i hi k (by omega) he)
   ·have := h.rng i hi; omega
theorem aQg {S : List Int} (hev : S.length % 2 = 0) : (List.range S.length).all (zU S) = true ↔ vX S := by
 rw [fD]
 constructor
 ·intro h
  have hd : ∀ i (hi : i < S.length), (wi S[i] (-1) 999 = true ∧ ¬ (i % 2 = 1 ∧ S[i] = -1 ∧ S.getD (i - 1) 0 = -1)) ∧ ∀ k, k < i → ¬ (S.getD k 0 = S[i] ∧ S[i] ≠ -1) := by
   intro i hi
   have := h i hi
   simp only [zU, aZ hi, Bool.and_eq_true, fD, Bool.not_eq_true', Bool.and_eq_false_iff, decide_eq_false_iff_not, Bool.not_eq_false', decide_eq_true_eq] at this
   refine ⟨⟨this.1.1, fun ⟨a, b, c⟩ => ?_⟩, fun k hk ⟨a, b⟩ => ?_⟩
   ·rcases this.1.2 with (h1 | h1) | h1
    ·exact h1 a
    ·exact h1 b
    ·exact h1 c
   ·rcases this.2 k hk with h1 | h1
    ·exact h1 a
    ·exact b h1
  refine ⟨fun i hi => fU.1 (hd i hi).1.1, fun j hj hb hc => ?_, fun i hi k hk he => ?_⟩
  ·refine (hd (2 * j + 1) hj).1.2 ⟨by omega, hc, ?_⟩
   have e : 2 * j + 1 - 1 = 2 * j := by omega
   rw [e, aZ (by omega)]
   exact hb
  ·have := (hd i hi).2 k hk
   rw [aZ (by omega)] at this
   by_cases hb : S[i] = -1
   ·exact hb
   ·exact absurd ⟨he, hb⟩ this
 ·intro h i hi
  simp only [zU, aZ hi, Bool.and_eq_true, fD, Bool.not_eq_true', Bool.and_eq_false_iff, decide_eq_false_iff_not, Bool.not_eq_false', decide_eq_true_eq]
  refine ⟨⟨fU.2 (h.rng i hi), ?_⟩, fun k hk => ?_⟩
  ·by_cases ho : i % 2 = 1
   ·obtain ⟨j, rfl⟩ : ∃ j, i = 2 * j + 1 := ⟨i / 2, by omega⟩
    have e : 2 * j + 1 - 1 = 2 * j := by omega
    rw [e, aZ (by omega)]
    by_cases hc : S[2 * j] = -1
    ·exact .inl (.inr (h.bye j hi hc))
    ·exact .inr hc
   ·exact .inl (.inl ho)
  ·rw [aZ (by omega)]
   by_cases he : S[k] = S[i]
   ·exact .inr (h.dup i hi k hk he)
   ·exact .inl he
def qB (t : aJ) : Bool := lG t && (List.range t.Slots.length).all (zT t.Slots)
theorem aHw (t : aJ) : mD t = some (qB t) := aQw t
theorem aHi (t : aJ) : nS t = some (qB t) := by
 rw [aQx, qB]
 cases hs : lG t with
 | false => rfl
 | true =>
  obtain ⟨_, hev⟩ := aAe hs
  congr 1
  rw [Bool.true_and, Bool.true_and, Bool.eq_iff_iff, aDu hev, aQg hev]
theorem lY {t : aJ} (h : qB t = true) : TreeOK t := by
 rw [qB, Bool.and_eq_true] at h
 obtain ⟨hs, ha⟩ := h
 obtain ⟨_, hev⟩ := aAe hs
 obtain ⟨h1, h2, h3⟩ := (aDu hev).1 ha
 simp only [lG, Bool.and_eq_true, fU, decide_eq_true_eq] at hs
 exact ⟨hs.1.1, hs.1.2, hs.2, h1, h2, h3⟩
def bY (t : aJ) (r : Int) : Nat := 2 ^ (t.Rounds.toNat - 1 - r.toNat)
def iN (t : aJ) (r p : Int) : Bool := wi r 0 (t.Rounds - 1) && wi p 0 (bY t r - 1)
def eI (t : aJ) (s : aE) : Bool :=
 wi s.Player 0 999 && (if s.Kind = 5 then decide (s.Round = 0) && wi s.Place 0 (t.Slots.length - 1) && wi s.Old 0 999
  else wi s.Kind 1 4 && iN t s.Round s.Place && decide (s.Old = 0) && (decide (0 < s.Round) || !decide (t.Slots.getD (2 * s.Place).toNat 0 = -1) && !decide (t.Slots.getD (2 * s.Place + 1).toNat 0 = -1)))
theorem aTg : ∀ R : Fin 6, ∀ r : Fin 6, r.val < R.val → ((2 ^ R.val : Nat) : Int).fdiv (2 ^ (min (r.val + 1) 64)) = ((2 ^ (R.val - 1 - r.val) : Nat) : Int) := by decide +kernel
theorem aNq : ∀ n : Fin 6, w64 (1 * 2 ^ (min n.val 64)) = ((2 ^ n.val : Nat) : Int) := by decide +kernel
section
variable {t : aJ} (ht : TreeOK t)
include ht
theorem aSt : (t.Slots.length : Int) = ((2 ^ t.Rounds.toNat : Nat) : Int) := by rw [ht.len]
theorem aMq {r : Int} (h0 : 0 ≤ r) (h1 : r < t.Rounds) : (t.Slots.length : Int).fdiv (2 ^ (min (w64 (r + 1)).toNat 64)) = ((bY t r : Nat) : Int) := by
 have h5 := ht.r5
 have hw : w64 (r + 1) = r + 1 := dP (by omega) (by omega)
 have := aTg ⟨t.Rounds.toNat, by omega⟩ ⟨r.toNat, by omega⟩ (by simp; omega)
 rw [hw, aSt ht]
 have e : (r + 1).toNat = r.toNat + 1 := by omega
 rw [e]
 exact this
theorem nL {r : Int} : bY t r ≤ 16 := by
 have h5 := ht.r5
 have : t.Rounds.toNat - 1 - r.toNat ≤ 4 := by omega
 exact Nat.pow_le_pow_right (by omega) this
omit ht in
theorem aGf {t : aJ} {r : Int} : 1 ≤ bY t r := Nat.one_le_two_pow
theorem aSa (r p : Int) : kK ⟨r, p⟩ t = some (iN t r p) := by
 have h1 := ht.r1
 have h5 := ht.r5
 have hw : w64 (t.Rounds - 1) = t.Rounds - 1 := dP (by omega) (by omega)
 unfold kK
 simp only [sW, hw, Option.bind_some, iN]
 cases hr : wi r 0 (t.Rounds - 1) with
 | false => simp
 | true =>
  have hr' := fU.1 hr
  have hch : chk (decide (0 ≤ w64 (r + 1))) = some () := by
   rw [dP (by omega) (by omega)]
   unfold chk; rw [decide_eq_true (by omega)]; rfl
  have hpl := nL ht (r := r)
  have hpp := aGf (t := t) (r := r)
  have hw2 : w64 ((bY t r : Int) - 1) = (bY t r : Int) - 1 := dP (by omega) (by omega)
  simp only [hch, Option.bind_some, cond_true, aMq ht hr'.1 (by omega), hw2, Bool.true_and]
theorem aBb {r : Int} (h0 : 0 ≤ r) (h1 : r < t.Rounds) : lP t r = some ((bY t r : Nat) : Int) := by
 have h5 := ht.r5
 have hw : w64 (t.Rounds - 1) = t.Rounds - 1 := dP (by omega) (by omega)
 have hw2 : w64 (t.Rounds - 1 - r) = t.Rounds - 1 - r := dP (by omega) (by omega)
 have hu : IntKind.u64.wrap (t.Rounds - 1 - r) = t.Rounds - 1 - r := sT (by omega) (by omega)
 have hch : chk (decide (0 ≤ t.Rounds - 1 - r)) = some () := by unfold chk; rw [decide_eq_true (by omega)]; rfl
 unfold lP
 simp only [hw, hw2, hu, hch, Option.bind_some]
 have := aNq ⟨(t.Rounds - 1 - r).toNat, by omega⟩
 simp only at this
 rw [this]
 unfold bY
 have e : (t.Rounds - 1 - r).toNat = t.Rounds.toNat - 1 - r.toNat := by omega
 rw [e]
theorem aEz (r p : Int) : nC t r p = some (iN t r p) := by
 have h1 := ht.r1
 have h5 := ht.r5
 have hw : w64 (t.Rounds - 1) = t.Rounds - 1 := dP (by omega) (by omega)
 unfold nC
 simp only [tM, hw, Option.bind_some, iN]
 cases hr : wi r 0 (t.Rounds - 1) with
 | false => simp
 | true =>
  have hr' := fU.1 hr
  have hpl := nL ht (r := r)
  have hpp := aGf (t := t) (r := r)
  have hw2 : w64 ((bY t r : Int) - 1) = (bY t r : Int) - 1 := dP (by omega) (by omega)
  simp only [cond_true, aBb ht hr'.1 (by omega), Option.bind_some, hw2, Bool.true_and]
theorem aDi {p : Int} (h : iN t 0 p = true) : 0 ≤ p ∧ (2 * p + 1).toNat < t.Slots.length ∧ p ≤ 15 := by
 simp only [iN, Bool.and_eq_true, fU] at h
 have hl := ht.len
 have h1 := ht.r1
 have hpl := nL ht (r := 0)
 have e : 2 ^ t.Rounds.toNat = 2 * bY t 0 := by
  unfold bY
  have : t.Rounds.toNat = (t.Rounds.toNat - 1 - (0 : Int).toNat) + 1 := by simp; omega
  rw [this, Nat.pow_succ]
  simp
  omega
 omega
theorem aBm (s : aE) : nY t s = some (eI t s) := by
 have h32 := ht.len32
 have hw : w64 ((t.Slots.length : Int) - 1) = (t.Slots.length : Int) - 1 := dP (by omega) (by omega)
 unfold nY eI
 simp only [sW, Option.bind_some, hw]
 cases hp : wi s.Player 0 999 with
 | false => simp
 | true =>
  by_cases hk : s.Kind = 5
  ·simp only [hk, decide_true, cond_true, if_true, Bool.not_true, cond_false, Bool.true_and, eJ, Option.bind_some]
  ·simp only [hk, decide_false, cond_false, if_false, Bool.not_true, Bool.true_and, kS, Option.bind_some, aSa ht]
   cases wi s.Kind 1 4 with
   | false => simp
   | true =>
    by_cases ho : s.Old = 0
    ·simp only [ho, decide_true, Bool.not_true, Bool.or_false, cond_false, Option.bind_some, Bool.true_and, Bool.and_true]
     cases hm : iN t s.Round s.Place with
     | false => simp
     | true =>
      simp only [Bool.not_true, cond_false, Bool.true_and]
      by_cases hr : 0 < s.Round
      ·simp [hr]
      ·have hm0 : s.Round = 0 := by
        simp only [iN, Bool.and_eq_true, fU] at hm
        omega
       rw [hm0] at hm
       obtain ⟨p0, p1, p2⟩ := aDi ht hm
       have e1 : w64 (2 * s.Place) = 2 * s.Place := dP (by omega) (by omega)
       have e2 : w64 (2 * s.Place + 2) = 2 * s.Place + 2 := dP (by omega) (by omega)
       have hsub : sub t.Slots (2 * s.Place) (2 * s.Place + 2) = some [t.Slots.getD (2 * s.Place).toNat 0, t.Slots.getD (2 * s.Place + 1).toNat 0] := by
        obtain ⟨q, hq⟩ : ∃ q : Nat, s.Place = q := ⟨s.Place.toNat, by omega⟩
        rw [hq] at p1 ⊢
        have a1 : 2 * q + 1 < t.Slots.length := by omega
        have b1 : (2 * (q : Int)).toNat = 2 * q := by omega
        have b2 : (2 * (q : Int) + 1).toNat = 2 * q + 1 := by omega
        have b3 : (2 * (q : Int) + 2).toNat = 2 * q + 2 := by omega
        rw [b1, b2, aZ (by omega), aZ a1]
        unfold sub
        rw [if_pos ⟨by omega, by omega, by omega⟩, b1, b3]
        congr 1
        apply List.ext_getElem
        ·simp; omega
        ·intro i h1 h2
         simp at h2
         have : i = 0 ∨ i = 1 := by omega
         rcases this with rfl | rfl <;> simp
       simp only [hr, decide_false, cond_false, Bool.false_or, e1, e2, hsub, Option.bind_some]
       have hc : ∀ a b : Int, cR [a, b] (-1) = some (decide (a = -1) || decide (b = -1)) := by
        intro a b
        rw [iD [a, b] (show (2 : Nat) ≤ 9223372036854775807 by omega)]
        congr 1
        rw [Bool.eq_iff_iff]
        simp only [decide_eq_true_eq, List.mem_cons, List.not_mem_nil, or_false, Bool.or_eq_true]
        exact ⟨fun h => h.imp Eq.symm Eq.symm, fun h => h.imp Eq.symm Eq.symm⟩
       rw [hc]
       cases decide (t.Slots.getD (2 * s.Place).toNat 0 = -1) <;> cases decide (t.Slots.getD (2 * s.Place + 1).toNat 0 = -1) <;> rfl
    ·simp [ho]
theorem aNh (s : aE) : rC t s = some (eI t s) := by
 have h32 := ht.len32
 have hw : w64 ((t.Slots.length : Int) - 1) = (t.Slots.length : Int) - 1 := dP (by omega) (by omega)
 unfold rC eI
 simp only [tM, Option.bind_some, hw]
 cases hp : wi s.Player 0 999 with
 | false => simp
 | true =>
  by_cases hk : s.Kind = 5
  ·simp only [hk, decide_true, cond_true, if_true, Bool.not_true, cond_false, Bool.true_and, eJ, Option.bind_some]
  ·simp only [hk, decide_false, cond_false, if_false, Bool.not_true, Bool.true_and, kS, Option.bind_some, aEz ht]
   cases wi s.Kind 1 4 with
   | false => simp
   | true =>
    cases hm : iN t s.Round s.Place with
    | false => simp
    | true =>
     by_cases ho : s.Old = 0
     ·simp only [ho, decide_true, Bool.not_true, Bool.or_false, cond_false, Option.bind_some, Bool.true_and, Bool.and_true]
      by_cases hr : 0 < s.Round
      ·simp [hr]
      ·have hm0 : s.Round = 0 := by
        simp only [iN, Bool.and_eq_true, fU] at hm
        omega
       rw [hm0] at hm
       obtain ⟨p0, p1, p2⟩ := aDi ht hm
       have e1 : w64 (2 * s.Place) = 2 * s.Place := dP (by omega) (by omega)
       have e2 : w64 (2 * s.Place + 1) = 2 * s.Place + 1 := dP (by omega) (by omega)
       have i1 : idx t.Slots (2 * s.Place) = some (t.Slots.getD (2 * s.Place).toNat 0) := by
        rw [aMk (by omega) (by omega), aZ (by omega)]
       have i2 : idx t.Slots (2 * s.Place + 1) = some (t.Slots.getD (2 * s.Place + 1).toNat 0) := by
        rw [aMk (by omega) p1, aZ p1]
       simp only [hr, decide_false, cond_false, Bool.false_or, e1, e2, i1, i2, Option.bind_some, eJ]
     ·simp [ho]
end
end Go.Am
end
section
namespace Go.Am
def kR (out : List aE) (x : aE) : List aE := if x ∈ out then out else out ++ [x]
def bQ (l : List aE) : List aE := l.foldl kR []
theorem aBx (l : List aE) : ∀ out, out.Nodup → (l.foldl kR out).Nodup ∧ (∀ x, x ∈ l.foldl kR out ↔ x ∈ out ∨ x ∈ l) ∧ (l.foldl kR out).length ≤ out.length + l.length := by
 induction l with
 | nil => intro out h; exact ⟨h, by simp, by simp⟩
 | cons a l ih =>
  intro out h
  have hs : (kR out a).Nodup ∧ (∀ x, x ∈ kR out a ↔ x ∈ out ∨ x = a) ∧ (kR out a).length ≤ out.length + 1 := by
   unfold kR
   split
   ·rename_i hm
    exact ⟨h, fun x => ⟨.inl, fun h => h.elim id fun e => e ▸ hm⟩, by omega⟩
   ·rename_i hm
    refine ⟨List.nodup_append.2 ⟨h, by simp, fun x hx y hy => ?_⟩, by simp, by simp⟩
    simp at hy; subst hy; exact fun e => hm (e ▸ hx)
  obtain ⟨h1, h2, h3⟩ := ih _ hs.1
  refine ⟨h1, fun x => ?_, ?_⟩
  ·rw [List.foldl_cons, h2, hs.2.1, List.mem_cons, or_assoc]
  ·rw [List.foldl_cons]; simp only [List.length_cons]; omega
theorem yH (l : List aE) : (bQ l).Nodup := (aBx l [] List.nodup_nil).1
theorem lD (l : List aE) (x : aE) : x ∈ bQ l ↔ x ∈ l := by
 have := (aBx l [] List.nodup_nil).2.1 x
 simpa [bQ] using this
theorem uU (l : List aE) : (bQ l).length ≤ l.length := by
 have := (aBx l [] List.nodup_nil).2.2
 simpa [bQ] using this
theorem aMm (l : List aE) (hl : l.length ≤ 1000) : pY l = some (bQ l) := by
 unfold pY
 have main := eF (S := List aE) (fun k i out => eV l k i out) l.length (fun i out => some ((l.drop i).foldl kR out)) (fun i out => out.length ≤ i) ?_ ?_ BIG [] (cC (by omega)) (by simp)
 ·simpa [bQ] using main
 ·intro k i out hi hI ih
  have hin : jC (eV l k) l i out BIG false 0 = nF (eV l k) l i (decide (l[i] ∈ out)) out := by
   have h := eF (S := Bool) (fun q j tw => jC (eV l k) l i out q tw j) out.length (fun j tw => nF (eV l k) l i (tw || decide (l[i] ∈ out.drop j)) out) (fun _ _ => True) ?_ ?_ BIG false (cC (by omega)) trivial
   ·simpa using h
   ·intro q j tw hj _ ih2
    have e : out.drop j = out[j] :: out.drop (j + 1) := List.drop_eq_getElem_cons hj
    simp only [jC, Int.ofNat_lt, hj, decide_true, cond_true, bS hj, bS hi, Option.bind_some, kS, bW (show j < 9223372036854775807 by omega), ih2 _ trivial]
    congr 1
    rw [e]
    by_cases h1 : out[j] = l[i]
    ·simp [h1]
    ·rw [← e]
     have : l[i] ∈ out.drop j ↔ l[i] ∈ out.drop (j + 1) := by
      rw [e, List.mem_cons]
      exact ⟨fun h => h.resolve_left fun e => h1 e.symm, .inr⟩
     simp [h1, this]
   ·intro q tw _
    simp [jC]
  have e : l.drop i = l[i] :: l.drop (i + 1) := List.drop_eq_getElem_cons hi
  simp only [eV, Int.ofNat_lt, hi, decide_true, cond_true, hin]
  unfold nF
  rw [e, List.foldl_cons]
  by_cases hm : l[i] ∈ out
  ·simp only [hm, decide_true, Bool.not_true, cond_false, nE, bW (show i < 9223372036854775807 by omega)]
   rw [ih out (by omega), kR, if_pos hm]
  ·simp only [hm, decide_false, Bool.not_false, cond_true, nE, bW (show i < 9223372036854775807 by omega), bS hi, Option.bind_some]
   rw [gZ (by simp; omega), Option.bind_some, ih _ (by simp; omega), kR, if_neg hm]
 ·intro k out _
  simp [eV, uO]
def isL (s : aE) : Bool := decide (s.Kind = 5)
def cF (l : List aE) : List aE := (bQ l).filter isL
structure LA (pre : List aE) (lucky : List (aE × Int)) (about : List (aD × aE)) : Prop where
 lm : ∀ s, s ∈ lucky.map (·.1) ↔ s ∈ pre ∧ s.Kind = 5
 ln : (lucky.map (·.1)).Nodup
 am : ∀ m s, (m, s) ∈ about ↔ (s ∈ pre ∧ s.Kind ≠ 5 ∧ m = ⟨s.Round, s.Place⟩)
 an : (about.map (·.1)).Nodup
theorem aBt {α β : Type} [DecidableEq α] (a : α) (v : β) : ∀ l : List (α × β), (eP a v l).map (·.1) = if a ∈ l.map (·.1) then l.map (·.1) else l.map (·.1) ++ [a]
 | [] => by simp [eP]
 | (k, u) :: l => by
  by_cases h : a = k
  ·subst h; simp [eP]
  ·have := aBt a v l
   simp only [eP, h, decide_false, cond_false, List.map_cons, this, List.mem_cons, false_or]
   split <;> simp
theorem wR {α β : Type} [DecidableEq α] (a : α) : ∀ l : List (α × β), cX a l = decide (a ∈ l.map (·.1))
 | [] => by simp [cX]
 | (k, u) :: l => by
  simp only [cX, wR a l, List.map_cons, List.mem_cons]
  by_cases h : a = k <;> simp [h]
theorem aEo {α β : Type} [DecidableEq α] {a : α} {v z : β} : ∀ {l : List (α × β)}, (l.map (·.1)).Nodup → (a, v) ∈ l → cG a z l = v
 | (k, u) :: l, hn, hm => by
  rw [List.map_cons, List.nodup_cons] at hn
  rcases List.mem_cons.1 hm with h | h
  ·cases h; simp [cG]
  ·have hne : a ≠ k := fun e => hn.1 (e ▸ List.mem_map.2 ⟨_, h, rfl⟩)
   simp only [cG, hne, decide_false, cond_false]
   exact aEo hn.2 h
theorem aHz {α β : Type} [DecidableEq α] {a : α} {v : β} {l : List (α × β)} (h : a ∉ l.map (·.1)) : eP a v l = l ++ [(a, v)] :=
 aEp a v l (by rw [wR]; simpa using h)
theorem aBu {α β : Type} [DecidableEq α] {a : α} {v : β} : ∀ {l : List (α × β)}, (l.map (·.1)).Nodup → (a, v) ∈ l → eP a v l = l
 | (k, u) :: l, hn, hm => by
  rw [List.map_cons, List.nodup_cons] at hn
  rcases List.mem_cons.1 hm with h | h
  ·cases h; simp [eP]
  ·have hne : a ≠ k := fun e => hn.1 (e ▸ List.mem_map.2 ⟨_, h, rfl⟩)
   simp only [eP, hne, decide_false, cond_false]
   rw [aBu hn.2 h]
def aCq (l : List aE) : Prop := ∀ x ∈ l, ∀ y ∈ l, x.Kind ≠ 5 → y.Kind ≠ 5 → x.Round = y.Round → x.Place = y.Place → x = y
theorem aNa {l : List aE} (hl : l.length ≤ 1000) {Q : (Option aX × Bool) → Prop} {pl : List Int} {won : List (aD × Int)} {t : aJ}
  (hbad : ¬ aCq l → Q (none, false)) (hgood : aCq l → ∀ lucky about, LA l lucky about → oL Q pl won t lucky about) : fK Q l l.length pl won t BIG 0 [] [] := by
 refine sP (S := List (aE × Int) × List (aD × aE)) (fun k i s => fK Q l l.length pl won t k i s.1 s.2) l.length (fun p => p) (fun i s => LA (l.take i) s.1 s.2 ∧ aCq (l.take i)) ?_ ?_ BIG 0 ([], []) (cC (by omega)) ?_
 ·rintro k i ⟨lucky, about⟩ hi ⟨⟨h1, h2, h3, h4⟩, hno⟩ ih
  have ht : ∀ x, x ∈ l.take (i + 1) ↔ x ∈ l.take i ∨ x = l[i] := fun x => by
   rw [List.take_succ_eq_append_getElem hi, List.mem_append, List.mem_singleton]
  have hmi : l[i] ∈ l.take (i + 1) := (ht _).2 (.inr rfl)
  simp only [fK, Int.ofNat_lt, hi, decide_true, cond_true, bS hi, bW (show i < 9223372036854775807 by omega)]
  refine ⟨_, rfl, ?_⟩
  by_cases hk : l[i].Kind = 5
  ·simp only [hk, decide_true, cond_true]
   refine ih (_, _) ⟨⟨fun s => ?_, ?_, fun m s => ?_, h4⟩, fun x hx y hy kx ky => ?_⟩
   ·rw [aBt]
    split
    ·rename_i hm
     rw [h1, ht]
     constructor
     ·rintro ⟨a, b⟩; exact ⟨.inl a, b⟩
     ·rintro ⟨a | a, b⟩
      ·exact ⟨a, b⟩
      ·exact (h1 s).1 (a ▸ hm)
    ·rw [List.mem_append, List.mem_singleton, h1, ht]
     constructor
     ·rintro (⟨a, b⟩ | rfl)
      ·exact ⟨.inl a, b⟩
      ·exact ⟨.inr rfl, hk⟩
     ·rintro ⟨a | a, b⟩
      ·exact .inl ⟨a, b⟩
      ·exact .inr a
   ·rw [aBt]
    split
    ·exact h2
    ·rename_i hm
     exact List.nodup_append.2 ⟨h2, by simp, fun x hx y hy => by simp at hy; subst hy; exact fun e => hm (e ▸ hx)⟩
   ·rw [h3, ht]
    constructor
    ·rintro ⟨a, b⟩; exact ⟨.inl a, b⟩
    ·rintro ⟨a | a, b, c⟩
     ·exact ⟨a, b, c⟩
     ·exact absurd (a ▸ hk) b
   ·have hx' : x ∈ l.take i := ((ht x).1 hx).resolve_right fun e => kx (e ▸ hk)
    have hy' : y ∈ l.take i := ((ht y).1 hy).resolve_right fun e => ky (e ▸ hk)
    exact hno x hx' y hy' kx ky
  ·simp only [hk, decide_false, cond_false]
   by_cases hm : (⟨l[i].Round, l[i].Place⟩ : aD) ∈ about.map (·.1)
   ·have hhas : cX (⟨l[i].Round, l[i].Place⟩ : aD) about = true := by rw [wR]; simpa using hm
    obtain ⟨⟨m0, y⟩, hy, hmy⟩ := List.mem_map.1 hm
    simp only at hmy
    subst hmy
    have hget := aEo (z := (⟨0, 0, 0, 0, 0⟩ : aE)) h4 hy
    obtain ⟨y1, y2, y3⟩ := (h3 _ _).1 hy
    simp only [hhas, cond_true, hget]
    refine ⟨_, rfl, ?_⟩
    by_cases he : y = l[i]
    ·simp only [he, decide_true, Bool.not_true, cond_false]
     rw [aBu h4 (by rw [he] at hy; exact hy)]
     have hin : ∀ x, x ∈ l.take (i + 1) ↔ x ∈ l.take i := fun x => by
      rw [ht]
      exact ⟨fun h => h.elim id fun e => by rw [e, ← he]; exact y1, .inl⟩
     exact ih (_, _) ⟨⟨fun s => by rw [h1, hin], h2, fun m s => by rw [h3, hin], h4⟩, fun x hx y hy => hno x ((hin x).1 hx) y ((hin y).1 hy)⟩
    ·simp only [he, decide_false, Bool.not_false, cond_true]
     refine hbad fun hN => he ?_
     simp only [aD.mk.injEq] at y3
     exact hN y (List.mem_of_mem_take y1) l[i] (List.getElem_mem hi) y2 hk y3.1.symm y3.2.symm
   ·have hhas : cX (⟨l[i].Round, l[i].Place⟩ : aD) about = false := by rw [wR]; simpa using hm
    simp only [hhas, cond_false]
    refine ⟨_, rfl, ?_⟩
    simp only [cond_false]
    rw [aHz hm]
    refine ih (_, _) ⟨⟨fun s => ?_, h2, fun m s => ?_, ?_⟩, fun x hx y hy kx ky er ep => ?_⟩
    ·rw [h1, ht]
     constructor
     ·rintro ⟨a, b⟩; exact ⟨.inl a, b⟩
     ·rintro ⟨a | a, b⟩
      ·exact ⟨a, b⟩
      ·exact absurd (a ▸ b) hk
    ·rw [List.mem_append, List.mem_singleton, h3, ht]
     constructor
     ·rintro (⟨a, b, c⟩ | h)
      ·exact ⟨.inl a, b, c⟩
      ·cases h; exact ⟨.inr rfl, hk, rfl⟩
     ·rintro ⟨a | a, b, c⟩
      ·exact .inl ⟨a, b, c⟩
      ·subst a; exact .inr (by rw [c])
    ·rw [List.map_append]
     exact List.nodup_append.2 ⟨h4, by simp, fun x hx y hy => by simp at hy; subst hy; exact fun e => hm (e ▸ hx)⟩
    ·have fresh : ∀ z, z ∈ l.take i → z.Kind ≠ 5 → ¬ (z.Round = l[i].Round ∧ z.Place = l[i].Place) := by
      rintro z hz kz ⟨e1, e2⟩
      refine hm (List.mem_map.2 ⟨(⟨z.Round, z.Place⟩, z), (h3 _ _).2 ⟨hz, kz, rfl⟩, ?_⟩)
      rw [← e1, ← e2]
     rcases (ht x).1 hx with hx' | rfl
     ·rcases (ht y).1 hy with hy' | rfl
      ·exact hno x hx' y hy' kx ky er ep
      ·exact absurd ⟨er, ep⟩ (fresh x hx' kx)
     ·rcases (ht y).1 hy with hy' | hy'
      ·exact absurd ⟨er.symm, ep.symm⟩ (fresh y hy' ky)
      ·exact hy'.symm
 ·rintro k i ⟨lucky, about⟩ hi ⟨hL, hno⟩
  have hlt : decide ((i : Int) < (l.length : Int)) = false := decide_eq_false (by omega)
  have hta : l.take i = l := List.take_of_length_le (by omega)
  rw [hta] at hL hno
  simp only [fK, hlt, cond_false]
  exact hgood hno lucky about hL
 ·exact ⟨⟨by simp, by simp, by simp, by simp⟩, fun x hx => by simp at hx⟩
end Go.Am
end
section
namespace Go.Am
def dA (L : List aE) (i now : Int) : List aE := L.filter fun s => decide (s.Place = i) && decide (s.Old = now)
def cY (L : List aE) (i : Int) : Nat → Int → List Int → List aE → Option (Int × List Int × List aE)
 | 0, _, _, _ => none
 | n + 1, now, ever, U => match dA L i now with
  | [] => some (now, ever, U)
  | [s] => if s.Player ∈ ever then none else cY L i n s.Player (ever ++ [s.Player]) (U ++ [s])
  | _ :: _ :: _ => none
structure SI (L : List aE) (T : Nat) (i now : Int) (ever : List Int) (U : List aE) : Prop where
 un : U.Nodup
 us : ∀ u ∈ U, u ∈ L
 ne : now ∈ ever
 pl : ∀ u ∈ U, u.Place ≤ i
 old : ∀ u ∈ U, u.Place = i → u.Old ∈ ever ∧ u.Old ≠ now
 el : ever.length = T + U.length
theorem lM {α : Type} [DecidableEq α] : ∀ {l m : List α}, l.Nodup → (∀ x ∈ l, x ∈ m) → l.length ≤ m.length
 | [], _, _, _ => by simp
 | a :: l, m, hn, hs => by
  rw [List.nodup_cons] at hn
  have hm : a ∈ m := hs a (by simp)
  have := lM (l := l) (m := m.erase a) hn.2 fun x hx => (List.mem_erase_of_ne (show x ≠ a from fun e => hn.1 (e ▸ hx))).2 (hs x (by simp [hx]))
  rw [List.length_erase_of_mem hm] at this
  have : 0 < m.length := List.length_pos_of_mem hm
  simp only [List.length_cons]; omega
theorem jZ {L : List aE} {i now : Int} {s : aE} : s ∈ dA L i now ↔ s ∈ L ∧ s.Place = i ∧ s.Old = now := by simp [dA]
theorem SI.next {L : List aE} {T : Nat} {i now : Int} {ever : List Int} {U : List aE} (h : SI L T i now ever U) {s : aE} (hs : s ∈ dA L i now) (hp : s.Player ∉ ever) :
  SI L T i s.Player (ever ++ [s.Player]) (U ++ [s]) := by
 obtain ⟨h1, h2, h3, h4, h5, h6⟩ := h
 obtain ⟨m1, m2, m3⟩ := jZ.1 hs
 have hsu : s ∉ U := fun hu => (h5 s hu m2).2 m3
 refine ⟨List.nodup_append.2 ⟨h1, by simp, fun x hx y hy => ?_⟩, fun u hu => ?_, by simp, fun u hu => ?_, fun u hu hpl => ?_, by simp; omega⟩
 ·simp at hy; subst hy; exact fun e => hsu (e ▸ hx)
 ·rcases List.mem_append.1 hu with hu | hu
  ·exact h2 u hu
  ·simp at hu; exact hu ▸ m1
 ·rcases List.mem_append.1 hu with hu | hu
  ·exact h4 u hu
  ·simp at hu; subst hu; omega
 ·rcases List.mem_append.1 hu with hu | hu
  ·obtain ⟨a, b⟩ := h5 u hu hpl
   exact ⟨List.mem_append_left _ a, fun e => hp (e ▸ a)⟩
  ·simp at hu; subst hu
   exact ⟨List.mem_append_left _ (m3 ▸ h3), fun e => hp (e ▸ m3 ▸ h3)⟩
theorem SI.le {L : List aE} {T : Nat} {i now : Int} {ever : List Int} {U : List aE} (h : SI L T i now ever U) : U.length ≤ L.length := lM h.un h.us
def dU (L : List aE) : Nat → Nat → List Int → List Int → List aE → Option (List Int × List aE)
 | 0, _, d, _, U => some (d, U)
 | n + 1, i, d, ever, U => match cY L i (L.length + 1) (d.getD i 0) ever U with
  | none => none
  | some (now, ever', U') => dU L n (i + 1) (d.set i now) ever' U'
section
variable {t : aJ} {l : List aE} (hl : l.length ≤ 1000) (h32 : t.Slots.length ≤ 32)
theorem aUa (o : List Int) (ho : o.length ≤ 2000) (v : Int) : vE o v = some (decide (v ∈ o)) := by
 unfold vE
 have := eF (S := Unit) (fun k i _ => mK o v k i) o.length (fun i _ => some (decide (v ∈ o.drop i))) (fun _ _ => True) ?_ ?_ BIG () (cC (by omega)) trivial
 ·simpa using this
 ·intro k i _ hi _ ih
  have := ih () trivial
  simp only [mK, Int.ofNat_lt, hi, decide_true, cond_true, bS hi, Option.bind_some, bW (show i < 9223372036854775807 by omega), this]
  have e : o.drop i = o[i] :: o.drop (i + 1) := List.drop_eq_getElem_cons hi
  by_cases h : o[i] = v
  ·simp [h, e]
  ·have : v ∈ o.drop i ↔ v ∈ o.drop (i + 1) := by
    rw [e, List.mem_cons]
    exact ⟨fun q => q.resolve_left fun e => h e.symm, .inr⟩
   simp [h, this]
 ·intro k _ _
  simp [mK, wJ]
include hl in
theorem aOn (a0 : Int → Int → List Int → List Int → Option (List Int × Bool)) (a2 : Int → Int → Bool → List Int → Option (List Int × Bool)) (used i now : Int) (ag : Bool) (out ever : List Int) :
  fF a0 a2 (bQ l) used i now ag t out ever BIG 0 [] = lI a0 a2 (bQ l) used i now ag t out ((dA (cF l) i now).map (·.Player)) ever := by
 have hol := uU l
 have := eF (S := List Int) (fun k j nx => fF a0 a2 (bQ l) used i now ag t out ever k j nx) (bQ l).length
  (fun j nx => lI a0 a2 (bQ l) used i now ag t out (nx ++ (dA (((bQ l).drop j).filter isL) i now).map (·.Player)) ever) (fun j nx => nx.length ≤ j) ?_ ?_ BIG [] (cC (by omega)) (by simp)
 ·simpa [cF] using this
 ·intro k j nx hj hI ih
  have hj' : j < 1000 := by omega
  rw [List.drop_eq_getElem_cons hj, List.filter_cons]
  simp only [fF, Int.ofNat_lt, hj, decide_true, cond_true, bS hj, Option.bind_some, bW (show j < 9223372036854775807 by omega), eJ]
  by_cases hk : (bQ l)[j].Kind = 5
  ·have hL : isL (bQ l)[j] = true := by simp [isL, hk]
   simp only [hk, hL, decide_true, if_true, Bool.true_and]
   unfold dA
   rw [List.filter_cons]
   cases hc : (decide ((bQ l)[j].Place = i) && decide ((bQ l)[j].Old = now)) with
   | false =>
    simp only [cond_false, Bool.false_eq_true, if_false]
    exact ih nx (by omega)
   | true =>
    simp only [cond_true, if_true]
    rw [gZ (by simp; omega), Option.bind_some, ih _ (by simp; omega)]
    simp [dA]
  ·have hL : isL (bQ l)[j] = false := by simp [isL, hk]
   simp only [hk, hL, decide_false, Bool.false_and, cond_false, Bool.false_eq_true, if_false]
   exact ih nx (by omega)
 ·intro k nx _
  simp [fF, dA]
include hl h32 in
theorem aRs (a0 : Int → Int → List Int → List Int → Option (List Int × Bool)) (i : Int) (out : List Int) :
  ∀ n k now ever U, SI (cF l) t.Slots.length i now ever U → (cF l).length < n + U.length → n < k →
  iY a0 (bQ l) i t out k U.length now true ever = match cY (cF l) i n now ever U with
   | none => some ([], false)
   | some (now', ever', U') => oB a0 (bQ l) U'.length i now' t out ever' := by
 have hLl : (cF l).length ≤ 1000 := by
  have h1 := uU l
  have h2 : (cF l).length ≤ (bQ l).length := List.length_filter_le _ _
  omega
 intro n
 induction n with
 | zero =>
  intro k now ever U hS hn hk
  have := hS.le
  omega
 | succ n ih =>
  intro k now ever U hS hn hk
  cases k with
  | zero => omega
  | succ k =>
   have hU := hS.le
   have hel := hS.el
   simp only [iY, cond_true, aOn hl, cY]
   unfold lI
   cases hc : dA (cF l) i now with
   | nil =>
    simp only [List.map_nil, List.length_nil, lH]
    simp only [Int.natCast_zero, show decide ((1 : Int) < 0) = false by decide, show decide ((0 : Int) = 1) = false by decide, cond_false, Option.bind_some]
    cases k with
    | zero => omega
    | succ k => simp [iY]
   | cons s cs =>
    cases cs with
    | cons s2 cs =>
     simp only [List.map_cons, List.length_cons]
     have : decide ((1 : Int) < ((((cs.map (·.Player)).length + 1 + 1 : Nat)) : Int)) = true := decide_eq_true (by omega)
     rw [this]
     rfl
    | nil =>
     have hs : s ∈ dA (cF l) i now := by rw [hc]; simp
     simp only [List.map_cons, List.map_nil, List.length_cons, List.length_nil, lH, aEm, Option.bind_some, aUa ever (by omega)]
     simp only [Nat.zero_add, Int.natCast_one, show decide ((1 : Int) < 1) = false by decide, decide_true, cond_true, cond_false, Option.bind_some]
     by_cases hp : s.Player ∈ ever
     ·simp [hp]
     ·simp only [hp, decide_false, cond_false, if_false]
      rw [gZ (by simp; omega), Option.bind_some, dP (by omega) (by omega)]
      have := ih k s.Player (ever ++ [s.Player]) (U ++ [s]) (hS.next hs hp) (by simp; omega) (by omega)
      have e : (((U ++ [s]).length : Nat) : Int) = (U.length : Int) + 1 := by simp
      rw [e] at this
      exact this
end
end Go.Am
end
section
namespace Go.Am
def LOK (L : List aE) : Prop := ∀ s ∈ L, 0 ≤ s.Player ∧ 0 ≤ s.Old
theorem vT {L : List aE} (hL : LOK L) {T : Nat} {i : Int} : ∀ {n : Nat} {now : Int} {ever : List Int} {U : List aE} {now' : Int} {ever' : List Int} {U' : List aE},
  SI L T i now ever U → cY L i n now ever U = some (now', ever', U') →
  SI L T i now' ever' U' ∧ (∀ x ∈ ever, x ∈ ever') ∧ (now' = now ∨ (now' ∉ ever ∧ 0 ≤ now' ∧ now ≠ -1)) ∧ dA L i now' = []
 | 0, _, _, _, _, _, _, _, h => by simp [cY] at h
 | n + 1, now, ever, U, now', ever', U', hS, h => by
  unfold cY at h
  cases hc : dA L i now with
  | nil =>
   rw [hc] at h
   simp only [Option.some.injEq, Prod.mk.injEq] at h
   obtain ⟨rfl, rfl, rfl⟩ := h
   exact ⟨hS, fun x hx => hx, .inl rfl, hc⟩
  | cons s cs =>
   cases cs with
   | cons s2 cs => simp [hc] at h
   | nil =>
    have hs : s ∈ dA L i now := by rw [hc]; simp
    obtain ⟨m1, m2, m3⟩ := jZ.1 hs
    obtain ⟨p1, p2⟩ := hL s m1
    rw [hc] at h
    by_cases hp : s.Player ∈ ever
    ·simp [hp] at h
    ·simp only [hp, if_false] at h
     obtain ⟨r1, r2, r3, r4⟩ := vT hL (hS.next hs hp) h
     refine ⟨r1, fun x hx => r2 x (List.mem_append_left _ hx), ?_, r4⟩
     rcases r3 with rfl | ⟨a, b, c⟩
     ·exact .inr ⟨hp, p1, by omega⟩
     ·exact .inr ⟨fun hx => a (List.mem_append_left _ hx), b, by omega⟩
structure GI (L : List aE) (S : List Int) (i : Nat) (d ever : List Int) (U : List aE) : Prop where
 un : U.Nodup
 us : ∀ u ∈ U, u ∈ L
 el : ever.length = S.length + U.length
 pl : ∀ u ∈ U, u.Place < i
 len : d.length = S.length
 dr : ∀ j, i ≤ j → d.getD j 0 = S.getD j 0
 mem : ∀ x ∈ d, x ∈ ever
 dup : ∀ a b, a < b → b < d.length → d.getD a 0 = d.getD b 0 → d.getD b 0 = -1
 bye : ∀ a, a < d.length → (d.getD a 0 = -1 ↔ S.getD a 0 = -1)
 don : ∀ a : Nat, a < i → dA L a (d.getD a 0) = []
theorem zS {l : List Int} {i : Nat} (h : i < l.length) : l.getD i 0 ∈ l := by rw [aZ h]; exact List.getElem_mem h
theorem GI.start {L : List aE} {S : List Int} {i : Nat} {d ever : List Int} {U : List aE} (h : GI L S i d ever U) (hi : i < S.length) : SI L S.length i (d.getD i 0) ever U :=
 ⟨h.un, h.us, h.mem _ (zS (by rw [h.len]; exact hi)), fun u hu => by have := h.pl u hu; omega, fun u hu e => by have := h.pl u hu; omega, h.el⟩
theorem iF {l : List Int} {i j : Nat} {v : Int} (hi : i < l.length) : (l.set i v).getD j 0 = if j = i then v else l.getD j 0 := by
 by_cases h : j = i
 ·subst h; simp [List.getD, hi]
 ·simp [List.getD, h, List.getElem?_set, Ne.symm h]
theorem GI.next {L : List aE} (hL : LOK L) {S : List Int} {i : Nat} {d ever : List Int} {U : List aE} (h : GI L S i d ever U) (hi : i < S.length) {n : Nat} {now' : Int} {ever' : List Int} {U' : List aE}
  (hs : cY L i n (d.getD i 0) ever U = some (now', ever', U')) : GI L S (i + 1) (d.set i now') ever' U' := by
 obtain ⟨hS, hev, hn, hc⟩ := vT hL (h.start hi) hs
 have hid : i < d.length := by rw [h.len]; exact hi
 refine ⟨hS.un, hS.us, hS.el, fun u hu => by have := hS.pl u hu; omega, by rw [List.length_set, h.len], fun j hj => ?_, fun x hx => ?_, fun a b hab hb => ?_, fun a ha => ?_, fun a ha => ?_⟩
 ·rw [iF hid, if_neg (by omega)]; exact h.dr j (by omega)
 ·rcases List.mem_or_eq_of_mem_set hx with hx | rfl
  ·exact hev x (h.mem x hx)
  ·exact hS.ne
 ·rw [List.length_set] at hb
  rw [iF hid, iF hid]
  by_cases ha' : a = i
  ·subst ha'
   rw [if_pos rfl, if_neg (by omega)]
   intro e
   rcases hn with hn | ⟨n1, n2, n3⟩
   ·rw [hn] at e; exact h.dup a b hab hb e
   ·exact absurd (h.mem _ (zS hb)) (e ▸ n1)
  ·rw [if_neg ha']
   by_cases hb' : b = i
   ·subst hb'
    rw [if_pos rfl]
    intro e
    rcases hn with hn | ⟨n1, n2, n3⟩
    ·rw [hn] at e ⊢; exact h.dup a b hab hb e
    ·exact absurd (h.mem _ (zS (show a < d.length by omega))) (e ▸ n1)
   ·rw [if_neg hb']; exact h.dup a b hab hb
 ·rw [List.length_set] at ha
  rw [iF hid]
  by_cases ha' : a = i
  ·subst ha'
   rw [if_pos rfl, ← h.bye a ha]
   rcases hn with hn | ⟨n1, n2, n3⟩
   ·rw [hn]
   ·constructor
    ·intro e; omega
    ·intro e; exact absurd e n3
  ·rw [if_neg ha']; exact h.bye a ha
 ·rw [iF hid]
  by_cases ha' : a = i
  ·subst ha'; rw [if_pos rfl]; exact hc
  ·rw [if_neg ha']; exact h.don a (by omega)
theorem vP {L : List aE} (hL : LOK L) {S : List Int} : ∀ {n i : Nat} {d ever : List Int} {U : List aE} {d' : List Int} {U' : List aE}, GI L S i d ever U → i + n = S.length → dU L n i d ever U = some (d', U') → ∃ ever', GI L S S.length d' ever' U'
 | 0, i, d, ever, U, d', U', h, hn, he => by
  simp only [dU, Option.some.injEq, Prod.mk.injEq] at he
  obtain ⟨rfl, rfl⟩ := he
  have : i = S.length := by omega
  subst this
  exact ⟨ever, h⟩
 | n + 1, i, d, ever, U, d', U', h, hn, he => by
  unfold dU at he
  cases hs : cY L i (L.length + 1) (d.getD i 0) ever U with
  | none => rw [hs] at he; simp at he
  | some q =>
   obtain ⟨now', ever', U1⟩ := q
   rw [hs] at he
   exact vP hL (h.next hL (by omega) hs) (by omega) he
theorem zX {l : List aE} : (cF l).length ≤ l.length := by
 have h1 := uU l
 have h2 : (cF l).length ≤ (bQ l).length := List.length_filter_le _ _
 omega
section
variable {t : aJ} {l : List aE} (hl : l.length ≤ 1000) (h32 : t.Slots.length ≤ 32)
include hl in
theorem aOq (out : List Int) (used : Nat) (hu : used ≤ (cF l).length) : fG (bQ l) out BIG used 0 = some (out, decide (used = (cF l).length)) := by
 have hol := uU l
 have hll := zX (l := l)
 have := eF (S := Int) (fun k j us => fG (bQ l) out k us j) (bQ l).length (fun j us => some (out, decide (us = ((((bQ l).drop j).filter isL).length : Int)))) (fun j us => -(j : Int) ≤ us ∧ us ≤ 1000) ?_ ?_ BIG used (cC (by omega)) ?_
 ·rw [List.drop_zero] at this
  have e : decide ((used : Int) = (((bQ l).filter isL).length : Int)) = decide (used = (cF l).length) := by
   unfold cF
   rw [Bool.eq_iff_iff]; simp only [decide_eq_true_eq]; omega
  rw [← e]
  exact this
 ·intro k j us hj ⟨hI1, hI2⟩ ih
  rw [List.drop_eq_getElem_cons hj, List.filter_cons]
  simp only [fG, Int.ofNat_lt, hj, decide_true, cond_true, bS hj, Option.bind_some, bW (show j < 9223372036854775807 by omega)]
  by_cases hk : (bQ l)[j].Kind = 5
  ·have hL : isL (bQ l)[j] = true := by simp [isL, hk]
   simp only [hk, hL, decide_true, cond_true, if_true]
   rw [dP (by omega) (by omega), ih _ (by omega)]
   simp only [List.length_cons]
   congr 2
   rw [Bool.eq_iff_iff]; simp only [decide_eq_true_eq]; omega
  ·have hL : isL (bQ l)[j] = false := by simp [isL, hk]
   simp only [hk, hL, decide_false, cond_false, Bool.false_eq_true, if_false]
   exact ih us (by omega)
 ·intro k us _
  simp [fG, sM]
 ·omega
def vQ (t : aJ) (l : List aE) : Option (List Int × List aE) := dU (cF l) t.Slots.length 0 t.Slots t.Slots []
theorem wG (L : List aE) {S : List Int} (h : vX S) : GI L S 0 S S [] := by
 refine ⟨by simp, by simp, by simp, by simp, rfl, fun _ _ => rfl, fun x h => h, fun a b hab hb e => ?_, fun _ _ => .rfl, by simp⟩
 rw [aZ (by omega), aZ hb] at e
 rw [aZ hb]
 exact h.dup b hb a hab e
include hl h32 in
theorem aMx (hT : vX t.Slots) (hL : LOK (cF l)) : qG t l = some (match vQ t l with
  | none => ([], false)
  | some (d, U) => (d, decide (U.length = (cF l).length))) := by
 have hll := zX (l := l)
 unfold qG
 rw [aMm l hl, Option.bind_some, gZ (by simp; omega), Option.bind_some, List.nil_append]
 have key : ∀ n i d ever U k, GI (cF l) t.Slots i d ever U → i + n = t.Slots.length → n < k → gM (bQ l) t k U.length i (d.take i) ever = some (match dU (cF l) n i d ever U with
   | none => ([], false)
   | some (d, U) => (d, decide (U.length = (cF l).length))) := by
  intro n
  induction n with
  | zero =>
   intro i d ever U k hG hi hk
   cases k with
   | zero => omega
   | succ k =>
    have hlt : decide ((i : Int) < (t.Slots.length : Int)) = false := decide_eq_false (by omega)
    have hta : d.take i = d := List.take_of_length_le (by rw [hG.len]; omega)
    simp only [gM, hlt, cond_false, sK, hta, dU]
    exact aOq hl d U.length (lM hG.un hG.us)
  | succ n ih =>
   intro i d ever U k hG hi hk
   cases k with
   | zero => omega
   | succ k =>
    have hlt : i < t.Slots.length := by omega
    have hid : i < d.length := by rw [hG.len]; exact hlt
    have hnow : t.Slots[i] = d.getD i 0 := by rw [hG.dr i (by omega), aZ hlt]
    have hsl := aRs hl h32 (gM (bQ l) t k) i (d.take i) ((cF l).length + 1) BIG (d.getD i 0) ever U (hG.start hlt) (by omega) (cC (by omega))
    simp only [gM, Int.ofNat_lt, hlt, decide_true, cond_true, bS hlt, Option.bind_some, hnow, hsl, dU]
    cases hs : cY (cF l) i ((cF l).length + 1) (d.getD i 0) ever U with
    | none => rfl
    | some q =>
     obtain ⟨now', ever', U'⟩ := q
     simp only [oB, sL]
     rw [gZ (by simp; omega), Option.bind_some, bW (by omega)]
     have ht : d.take i ++ [now'] = (d.set i now').take (i + 1) := by
      rw [List.take_succ_eq_append_getElem (by rw [List.length_set]; exact hid), List.take_set_of_le (Nat.le_refl i)]
      simp
     rw [ht]
     exact ih (i + 1) (d.set i now') ever' U' k (hG.next hL hlt hs) (by omega) (by omega)
 have := key t.Slots.length 0 t.Slots t.Slots [] BIG (wG _ hT) (by omega) (cC (by omega))
 simpa [vQ] using this
end
end Go.Am
end
section
namespace Go.Am
theorem xM {α β : Type} [DecidableEq α] (a : α) : ∀ l : List (α × β), (nP a l).map (·.1) = (l.map (·.1)).erase a
 | [] => by simp [nP, eH]
 | (k, u) :: l => by
  have ih := xM a l
  unfold nP at ih ⊢
  simp only [List.map_cons, eH]
  by_cases h : a = k
  ·subst h; simp
  ·rw [decide_eq_false h, cond_false, List.erase_cons_tail (by simpa using Ne.symm h), ← ih]
   cases eH a (l.map (·.1)) with
   | none => simp
   | some j => simp
theorem aEn {α β : Type} [DecidableEq α] {a x : α} {l : List (α × β)} (hn : (l.map (·.1)).Nodup) : x ∈ (nP a l).map (·.1) ↔ x ∈ l.map (·.1) ∧ x ≠ a := by
 rw [xM, hn.mem_erase_iff]; exact And.comm
theorem aGb {α β : Type} [DecidableEq α] {a : α} {l : List (α × β)} (hn : (l.map (·.1)).Nodup) : ((nP a l).map (·.1)).Nodup := by
 rw [xM]; exact hn.erase a
theorem zZ {α β : Type} [DecidableEq α] {a : α} {l : List (α × β)} (h : a ∈ l.map (·.1)) : (nP a l).length + 1 = l.length := by
 have h1 := congrArg List.length (xM a l)
 rw [List.length_map, List.length_erase_of_mem h, List.length_map] at h1
 have : 0 < l.length := by
  cases l with
  | nil => simp at h
  | cons => simp
 omega
theorem aIa {t : aJ} {d : List Int} {lk : List (aE × Int)} {i : Nat} {Q : aE × Bool → Prop} (hi : i < d.length) (hlen : lk.length ≤ 3000)
  (h1 : ∀ s : aE, s ∈ lk.map (·.1) → s.Place = (i : Int) → s.Old = d.getD i 0 → Q (s, true))
  (h0 : (∀ s : aE, s ∈ lk.map (·.1) → s.Place = (i : Int) → s.Old ≠ d.getD i 0) → Q (⟨0, 0, 0, 0, 0⟩, false)) : fV t d lk i Q := by
 have key : ∀ n k left, left.length = n → n < k → (∀ p ∈ left, p ∈ lk) → (∀ s : aE, s ∈ lk.map (·.1) → s.Place = (i : Int) → s.Old = d.getD i 0 → s ∈ left.map (·.1)) → fM Q i d t lk k ⟨0, 0, 0, 0, 0⟩ left := by
  intro n
  induction n with
  | zero =>
   intro k left hn hk hsub hall
   cases k with
   | zero => omega
   | succ k =>
    have : left = [] := List.length_eq_zero_iff.1 hn
    subst this
    simp only [fM, lT]
    refine ⟨fun _ => h0 fun s hs hp ho => ?_, fun j p hj => by simp at hj⟩
    simpa using hall s hs hp ho
  | succ n ih =>
   intro k left hn hk hsub hall
   cases k with
   | zero => omega
   | succ k =>
    simp only [fM, lT]
    refine ⟨fun e => by subst e; simp at hn, fun j p hj => ?_⟩
    have hjl : j < left.length := by
     rcases Nat.lt_or_ge j left.length with h | h
     ·exact h
     ·rw [List.getElem?_eq_none h] at hj; cases hj
    have hpm : p ∈ left := List.mem_of_getElem? hj
    have hkey : p.1 ∈ lk.map (·.1) := List.mem_map.2 ⟨p, hsub p hpm, rfl⟩
    simp only [bS hi, Option.bind_some, eJ]
    refine ⟨_, rfl, ?_⟩
    rw [← aZ hi 0]
    by_cases hm : p.1.Place = i ∧ p.1.Old = d.getD i 0
    ·simp only [hm.1, hm.2, decide_true, Bool.and_self, cond_true]
     exact h1 _ hkey hm.1 hm.2
    ·have : (decide (p.1.Place = (i : Int)) && decide (p.1.Old = d.getD i 0)) = false := by
      rw [Bool.and_eq_false_iff, decide_eq_false_iff_not, decide_eq_false_iff_not]
      by_cases h : p.1.Place = i
      ·exact .inr fun h' => hm ⟨h, h'⟩
      ·exact .inl h
     simp only [this, cond_false]
     refine ih k _ (by rw [List.length_eraseIdx]; simp [hjl]; omega) (by omega) (fun q hq => hsub q (List.mem_of_mem_eraseIdx hq)) fun s hs hp ho => ?_
     obtain ⟨q, hq, rfl⟩ := List.mem_map.1 (hall s hs hp ho)
     refine List.mem_map.2 ⟨q, ?_, rfl⟩
     obtain ⟨j', hj', rfl⟩ := List.mem_iff_getElem.1 hq
     rw [List.mem_eraseIdx_iff_getElem]
     refine ⟨j', hj', ?_, rfl⟩
     rintro rfl
     rw [List.getElem?_eq_getElem hj'] at hj
     cases hj
     exact hm ⟨hp, ho⟩
 unfold fV yV
 exact key lk.length BIG lk rfl (cC (by omega)) (fun p hp => hp) fun s hs _ _ => hs
structure LK (L : List aE) (lk : List (aE × Int)) (U : List aE) : Prop where
 nd : (lk.map (·.1)).Nodup
 mem : ∀ s : aE, s ∈ lk.map (·.1) ↔ s ∈ L ∧ s ∉ U
def aJh (i : Nat) (d ever : List Int) (lk : List (aE × Int)) : Prop :=
 ∃ x : aE, x ∈ lk.map (·.1) ∧ (x.Place < (i : Int) ∨ (x.Place = (i : Int) ∧ x.Old ∈ ever ∧ x.Old ≠ d.getD i 0))
structure PS (D : Nat) (d ever : List Int) (lk : List (aE × Int)) : Prop where
 dl : d.length = D
 sz : D + lk.length + ever.length ≤ 3000
 mem : ∀ x ∈ d, x ∈ ever
 nd : (lk.map (·.1)).Nodup
theorem PS.step {D : Nat} {d ever : List Int} {lk : List (aE × Int)} (h : PS D d ever lk) {s : aE} (hs : s ∈ lk.map (·.1)) (i : Nat) : PS D (d.set i s.Player) (ever ++ [s.Player]) (nP s lk) := by
 have hml := zZ hs
 obtain ⟨h1, h2, h3, h4⟩ := h
 refine ⟨by simpa using h1, by simp; omega, fun x hx => ?_, aGb h4⟩
 rcases List.mem_or_eq_of_mem_set hx with hx | rfl
 ·exact List.mem_append_left _ (h3 x hx)
 ·simp
section
variable {t : aJ} {L : List aE} (hLn : L.Nodup)
variable (Q : (Bool × List Int × List (aE × Int)) → Prop) (hbad : ∀ d lk, Q (false, d, lk))
include hbad in
theorem aIj (a0 : Int → List Int → List (aE × Int) → List Int → Prop) (T : Int) {i D : Nat} (hiD : i < D)
  (hgo : ∀ d lk ever, PS D d ever lk → aJh (i + 1) d ever lk → a0 ((i + 1 : Nat) : Int) d lk ever) :
  ∀ n k d lk ever, lk.length ≤ n → n < k → PS D d ever lk → aJh i d ever lk →
  fV t d lk i fun r => cZ Q a0 i T i t k r.2 d lk r.1 ever := by
 intro n
 induction n with
 | zero =>
  intro k d lk ever hn hk hP ⟨x, hx, _⟩
  have : lk = [] := List.length_eq_zero_iff.1 (by omega)
  subst this
  simp at hx
 | succ n ih =>
  intro k d lk ever hn hk hP hD
  have hi : i < d.length := by rw [hP.dl]; exact hiD
  have hnd := hP.nd
  have hlen := hP.sz
  obtain ⟨x, hx, hxp⟩ := hD
  cases k with
  | zero => omega
  | succ k =>
   refine aIa hi (by omega) (fun s hs hp ho => ?_) fun _ => ?_
   ·simp only [cZ, cond_true]
    refine ⟨_, iD ever (by omega) _, ?_⟩
    by_cases hpe : s.Player ∈ ever
    ·simp only [hpe, decide_true, cond_true]; exact hbad _ _
    ·simp only [hpe, decide_false, cond_false]
     refine ⟨_, bS hi, _, gZ (by simp; omega), ?_⟩
     have hml := zZ hs
     have e : ((i : Int)).toNat = i := by simp
     rw [e]
     refine ih k (d.set i s.Player) (nP s lk) (ever ++ [s.Player]) (by omega) (by omega) (hP.step hs i) ⟨x, (aEn hnd).2 ⟨hx, ?_⟩, ?_⟩
     ·rintro rfl
      rcases hxp with h | ⟨_, _, h⟩
      ·omega
      ·exact h ho
     ·rcases hxp with h | ⟨h1, h2, h3⟩
      ·exact .inl h
      ·rw [iF hi, if_pos rfl]
       exact .inr ⟨h1, List.mem_append_left _ h2, fun e => hpe (e ▸ h2)⟩
   ·simp only [cZ, cond_false, kD, kC, bW (show i < 9223372036854775807 by omega)]
    refine hgo d lk ever hP ⟨x, hx, .inl ?_⟩
    rcases hxp with h | ⟨h, _⟩ <;> omega
include hLn in
theorem aPt (a0 : Int → List Int → List (aE × Int) → List Int → Prop) (T : Int) {i D : Nat} (hiD : i < D) :
  ∀ n k d lk now ever U, lk.length + n + 1 ≤ k → PS D d ever lk → now = d.getD i 0 → SI L t.Slots.length i now ever U → LK L lk U → L.length < n + U.length →
  (∀ now' ever' U' lk', cY L i n now ever U = some (now', ever', U') → LK L lk' U' → PS D (d.set i now') ever' lk' → a0 ((i + 1 : Nat) : Int) (d.set i now') lk' ever') →
  (cY L i n now ever U = none → (∀ d lk, Q (false, d, lk)) ∧ ∀ d lk ever, PS D d ever lk → aJh (i + 1) d ever lk → a0 ((i + 1 : Nat) : Int) d lk ever) →
  fV t d lk i fun r => cZ Q a0 i T i t k r.2 d lk r.1 ever := by
 intro n
 induction n with
 | zero =>
  intro k d lk now ever U hk hP hnow hS hK hn hok hbd
  have := hS.le
  omega
 | succ n ih =>
  intro k d lk now ever U hk hP hnow hS hK hn hok hbd
  have hi : i < d.length := by rw [hP.dl]; exact hiD
  have hlen := hP.sz
  have hc : ∀ s : aE, s ∈ lk.map (·.1) → s.Place = (i : Int) → s.Old = d.getD i 0 → s ∈ dA L i now := fun s hs hp ho => jZ.2 ⟨((hK.mem s).1 hs).1, hp, by rw [hnow]; exact ho⟩
  have hc' : ∀ s : aE, s ∈ dA L i now → s ∈ lk.map (·.1) := by
   intro s hs
   obtain ⟨m1, m2, m3⟩ := jZ.1 hs
   exact (hK.mem s).2 ⟨m1, fun hu => (hS.old s hu m2).2 m3⟩
  cases k with
  | zero => omega
  | succ k =>
   refine aIa hi (by omega) (fun s hs hp ho => ?_) fun hno => ?_
   ·have hsc := hc s hs hp ho
    simp only [cZ, cond_true]
    refine ⟨_, iD ever (by omega) _, ?_⟩
    have e : ((i : Int)).toNat = i := by simp
    by_cases hone : ∃ s2, s2 ∈ dA L i now ∧ s2 ≠ s
    ·obtain ⟨s2, h2, hne⟩ := hone
     obtain ⟨m1, m2, m3⟩ := jZ.1 h2
     have hnone : cY L i (n + 1) now ever U = none := by
      rw [cY]
      cases h : dA L i now with
      | nil => rw [h] at h2; simp at h2
      | cons a cs =>
       cases cs with
       | cons b cs => rfl
       | nil =>
        rw [h] at h2 hsc
        simp at h2 hsc
        exact absurd (h2.trans hsc.symm) hne
     obtain ⟨hbad, hgo⟩ := hbd hnone
     by_cases hpe : s.Player ∈ ever
     ·simp only [hpe, decide_true, cond_true]; exact hbad _ _
     ·simp only [hpe, decide_false, cond_false]
      refine ⟨_, bS hi, _, gZ (by simp; omega), ?_⟩
      have hml := zZ hs
      rw [e]
      refine aIj Q hbad a0 T hiD hgo (nP s lk).length k _ _ _ (Nat.le_refl _) (by omega) (hP.step hs i) ⟨s2, (aEn hK.nd).2 ⟨hc' s2 h2, hne⟩, .inr ⟨m2, ?_, ?_⟩⟩
      ·rw [m3]; exact List.mem_append_left _ hS.ne
      ·rw [iF hi, if_pos rfl, m3]; exact fun e => hpe (e ▸ hS.ne)
    ·have hall : ∀ x ∈ dA L i now, x = s := fun x hx => Classical.byContradiction fun h => hone ⟨x, hx, h⟩
     have hcs : dA L i now = [s] := by
      have hnd : (dA L i now).Nodup := hLn.filter _
      cases h : dA L i now with
      | nil => rw [h] at hsc; simp at hsc
      | cons a cs =>
       rw [h] at hall hnd
       have ha := hall a (by simp)
       subst ha
       cases cs with
       | nil => rfl
       | cons b cs =>
        have := hall b (by simp)
        subst this
        simp at hnd
     by_cases hpe : s.Player ∈ ever
     ·simp only [hpe, decide_true, cond_true]
      exact (hbd (by rw [cY, hcs]; simp only [hpe, if_true])).1 _ _
     ·simp only [hpe, decide_false, cond_false]
      refine ⟨_, bS hi, _, gZ (by simp; omega), ?_⟩
      have hml := zZ hs
      rw [e]
      have hslot : cY L i (n + 1) now ever U = cY L i n s.Player (ever ++ [s.Player]) (U ++ [s]) := by
       rw [cY, hcs]; simp only [hpe, if_false]
      rw [hslot] at hok hbd
      refine ih k (d.set i s.Player) (nP s lk) s.Player (ever ++ [s.Player]) (U ++ [s]) (by omega) (hP.step hs i) (by rw [iF hi, if_pos rfl]) (hS.next hsc hpe) ⟨aGb hK.nd, fun x => ?_⟩ (by simp; omega) (fun now' ever' U' lk' h1 h2 h3 => ?_) hbd
      ·rw [aEn hK.nd, hK.mem, List.mem_append, List.mem_singleton, not_or, and_assoc]
      ·rw [List.set_set] at h3 ⊢
       exact hok now' ever' U' lk' h1 h2 h3
   ·have hcs : dA L i now = [] := by
     cases h : dA L i now with
     | nil => rfl
     | cons s cs =>
      have hs : s ∈ dA L i now := by rw [h]; simp
      obtain ⟨m1, m2, m3⟩ := jZ.1 hs
      exact absurd (by rw [m3, hnow]) (hno s (hc' s hs) m2)
    have hslot : cY L i (n + 1) now ever U = some (now, ever, U) := by rw [cY, hcs]
    simp only [cZ, cond_false, kD, kC, bW (show i < 9223372036854775807 by omega)]
    have e : d.set i now = d := by rw [hnow, aZ hi]; exact List.set_getElem_self hi
    have := hok now ever U lk hslot hK
    rw [e] at this
    exact this hP
theorem aQm {i : Nat} {d ever : List Int} {lk : List (aE × Int)} (h : aJh i d ever lk) : decide ((lk.length : Int) = 0) = false := by
 obtain ⟨x, hx, _⟩ := h
 cases lk with
 | nil => simp at hx
 | cons => exact decide_eq_false (by simp; omega)
theorem aQl (hbad : ∀ d lk, Q (false, d, lk)) {D : Nat} (hD : D ≤ 3000) : ∀ n i k d lk ever, i + n = D → n < k → PS D d ever lk → aJh i d ever lk → cI Q D t k i d lk ever := by
 intro n
 induction n with
 | zero =>
  intro i k d lk ever hi hk hP hd
  cases k with
  | zero => omega
  | succ k =>
   have hlt : decide ((i : Int) < (D : Int)) = false := decide_eq_false (by omega)
   simp only [cI, hlt, cond_false, kB, aQm hd]
   exact hbad _ _
 | succ n ih =>
  intro i k d lk ever hi hk hP hd
  cases k with
  | zero => omega
  | succ k =>
   have hlt : i < D := by omega
   have hsz := hP.sz
   simp only [cI, Int.ofNat_lt, hlt, decide_true, cond_true]
   exact aIj Q hbad (cI Q D t k) D hlt (fun d lk ever h1 h2 => ih (i + 1) k d lk ever (by omega) (by omega) h1 h2) lk.length BIG d lk ever (Nat.le_refl _) (cC (by omega)) hP hd
include hLn in
theorem aLy (hL : LOK L) {S : List Int} (hD : S.length = t.Slots.length) (hS : S.length ≤ 1000) (hLl : L.length ≤ 500) : ∀ n i k d lk ever U, i + n = S.length → n < k → GI L S i d ever U → PS S.length d ever lk → LK L lk U →
  (∀ d' U', dU L n i d ever U = some (d', U') → U'.length = L.length → Q (true, d', [])) →
  ((∀ d' U', dU L n i d ever U = some (d', U') → U'.length ≠ L.length) → ∀ d lk, Q (false, d, lk)) → cI Q S.length t k i d lk ever := by
 intro n
 induction n with
 | zero =>
  intro i k d lk ever U hi hk hG hP hK hok hbad
  cases k with
  | zero => omega
  | succ k =>
   have hlt : decide ((i : Int) < (S.length : Int)) = false := decide_eq_false (by omega)
   simp only [cI, hlt, cond_false, kB]
   by_cases hU : U.length = L.length
   ·have hnil : lk = [] := by
     cases lk with
     | nil => rfl
     | cons p lk =>
      have hp := (hK.mem p.1).1 (by simp)
      have := lM (l := p.1 :: U) (m := L) (List.nodup_cons.2 ⟨hp.2, hG.un⟩) fun x hx => by
       rcases List.mem_cons.1 hx with rfl | hx
       ·exact hp.1
       ·exact hG.us x hx
      simp only [List.length_cons] at this
      omega
    subst hnil
    exact hok d U rfl hU
   ·have hne : lk ≠ [] := by
     rintro rfl
     refine hU (Nat.le_antisymm (lM hG.un hG.us) (lM hLn fun x hx => ?_))
     refine Classical.byContradiction fun hxu => ?_
     have := (hK.mem x).2 ⟨hx, hxu⟩
     simp at this
    have : decide ((lk.length : Int) = 0) = false := by
     cases lk with
     | nil => exact absurd rfl hne
     | cons => exact decide_eq_false (by simp; omega)
    rw [this]
    refine hbad (fun d' U' h => ?_) _ _
    simp only [dU, Option.some.injEq, Prod.mk.injEq] at h
    rw [← h.2]; exact hU
 | succ n ih =>
  intro i k d lk ever U hi hk hG hP hK hok hbad
  cases k with
  | zero => omega
  | succ k =>
   have hlt : i < S.length := by omega
   have hsz := hP.sz
   simp only [cI, Int.ofNat_lt, hlt, decide_true, cond_true]
   refine aPt hLn Q (cI Q S.length t k) S.length hlt (L.length + 1) BIG d lk (d.getD i 0) ever U ?_ hP rfl (hD ▸ hG.start hlt) hK (by omega) (fun now' ever' U' lk' h1 h2 h3 => ?_) fun h => ⟨?_, fun d' lk' ever' h1 h2 => ?_⟩
   ·exact Nat.le_of_lt (cC (by omega))
   ·refine ih (i + 1) k (d.set i now') lk' ever' U' (by omega) (by omega) (hG.next hL hlt h1) h3 h2 (fun d' U'' h hl => hok d' U'' ?_ hl) fun h => hbad fun d' U'' h' => h d' U'' ?_
    ·rw [dU, h1]; exact h
    ·rw [dU, h1] at h'; exact h'
   ·exact hbad fun d' U' h' => by rw [dU, h] at h'; simp at h'
   ·exact aQl Q (hbad fun d' U' h' => by rw [dU, h] at h'; simp at h') (by omega) n (i + 1) k d' lk' ever' (by omega) (by omega) h1 h2
include hLn in
theorem aKy (hT : vX t.Slots) (hL : LOK L) (h32 : t.Slots.length ≤ 32) (hLl : L.length ≤ 500) {lk : List (aE × Int)} (hK : LK L lk [])
  (hok : ∀ d U, dU L t.Slots.length 0 t.Slots t.Slots [] = some (d, U) → U.length = L.length → Q (true, d, []))
  (hbad : (∀ d U, dU L t.Slots.length 0 t.Slots t.Slots [] = some (d, U) → U.length ≠ L.length) → ∀ d lk, Q (false, d, lk)) : jJ t t.Slots lk Q := by
 have hlk : lk.length ≤ 500 := by
  have := lM hK.nd (fun x hx => ((hK.mem x).1 hx).1)
  rw [List.length_map] at this
  omega
 unfold jJ
 refine ⟨t.Slots, by unfold fA; rw [gZ (by simp; omega)]; rfl, ?_⟩
 exact aLy hLn Q hL rfl (by omega) hLl t.Slots.length 0 BIG t.Slots lk t.Slots [] (by omega) (cC (by omega)) (wG L hT) ⟨rfl, by omega, fun x hx => hx, hK.nd⟩ hK hok hbad
end
end Go.Am
end
section
namespace Go.Am
def cell (a r : Nat) : aD := ⟨(r : Int), ((a / 2 ^ (r + 1) : Nat) : Int)⟩
abbrev lK := aD → Int → Prop
def Func (P : lK) : Prop := ∀ m v w, P m v → P m w → v = w
def clm (d : List Int) (a r : Nat) : lK := fun m v => v = d.getD a 0 ∧ ∃ q, q ≤ r ∧ m = cell a q
def qC (P Q : lK) : Prop := ∀ m v w, P m v → Q m w → v = w
theorem Func.sub {P Q : lK} (h : Func P) (hs : ∀ m v, Q m v → P m v) : Func Q := fun m v w h1 h2 => h m v w (hs _ _ h1) (hs _ _ h2)
theorem aQk {a b q r : Nat} (h : cell a q = cell b r) : q = r ∧ a / 2 ^ (q + 1) = b / 2 ^ (r + 1) := by
 simp only [cell, aD.mk.injEq] at h
 omega
structure WonIs (won : List (aD × Int)) (P : lK) : Prop where
 nd : (won.map (·.1)).Nodup
 mem : ∀ m v, (m, v) ∈ won ↔ P m v
theorem WonIs.ext {won : List (aD × Int)} {P Q : lK} (h : WonIs won P) (he : ∀ m v, P m v ↔ Q m v) : WonIs won Q := ⟨h.nd, fun m v => (h.mem m v).trans (he m v)⟩
theorem WonIs.get {won : List (aD × Int)} {P : lK} (h : WonIs won P) {m : aD} {v z : Int} (hp : P m v) : cG m z won = v := aEo h.nd ((h.mem m v).2 hp)
theorem WonIs.has {won : List (aD × Int)} {P : lK} (h : WonIs won P) (m : aD) : cX m won = true ↔ ∃ v, P m v := by
 rw [wR, decide_eq_true_eq, List.mem_map]
 constructor
 ·rintro ⟨⟨m', v⟩, hv, rfl⟩; exact ⟨v, (h.mem _ _).1 hv⟩
 ·rintro ⟨v, hv⟩; exact ⟨(m, v), (h.mem _ _).2 hv, rfl⟩
theorem WonIs.func {won : List (aD × Int)} {P : lK} (h : WonIs won P) : Func P := fun m v w h1 h2 => (h.get (z := 0) h1).symm.trans (h.get h2)
theorem WonIs.nil : WonIs [] (fun _ _ => False) := ⟨by simp, by simp⟩
theorem WonIs.set {won : List (aD × Int)} {P : lK} (h : WonIs won P) {m : aD} {n : Int} (hc : ∀ v, P m v → v = n) : WonIs (eP m n won) (fun x v => P x v ∨ (x = m ∧ v = n)) := by
 by_cases hm : m ∈ won.map (·.1)
 ·obtain ⟨⟨m', v⟩, hv, e⟩ := List.mem_map.1 hm
  simp only at e; subst e
  have : v = n := hc v ((h.mem _ _).1 hv)
  subst this
  rw [aBu h.nd hv]
  exact ⟨h.nd, fun x w => ⟨fun hx => .inl ((h.mem _ _).1 hx), fun hx => hx.elim (h.mem _ _).2 fun ⟨a, b⟩ => a ▸ b ▸ hv⟩⟩
 ·rw [aHz hm]
  refine ⟨?_, fun x w => ?_⟩
  ·rw [List.map_append]
   exact List.nodup_append.2 ⟨h.nd, by simp, fun x hx y hy => by simp at hy; subst hy; exact fun e => hm (e ▸ hx)⟩
  ·rw [List.mem_append, List.mem_singleton, h.mem, Prod.mk.injEq]
structure DOK (t : aJ) (d : List Int) : Prop where
 len : d.length = t.Slots.length
 dup : ∀ a b, a < b → b < d.length → d.getD a 0 = d.getD b 0 → d.getD b 0 = -1
 bye : ∀ a, a < d.length → (d.getD a 0 = -1 ↔ t.Slots.getD a 0 = -1)
 rng : ∀ a, a < d.length → -1 ≤ d.getD a 0
theorem DOK.uni {t : aJ} {d : List Int} (h : DOK t d) {a b : Nat} (ha : a < d.length) (hb : b < d.length) (e : d.getD a 0 = d.getD b 0) (hn : d.getD a 0 ≠ -1) : a = b := by
 rcases Nat.lt_trichotomy a b with hl | rfl | hl
 ·exact absurd (h.dup a b hl hb e) (e ▸ hn)
 ·rfl
 ·exact absurd (h.dup b a hl ha e.symm) hn
def sib (a : Nat) : Nat := if a % 2 = 0 then a + 1 else a - 1
theorem aRq (a : Nat) : sib a / 2 = a / 2 := by unfold sib; split <;> omega
theorem aDz (a : Nat) : cell (sib a) 0 = cell a 0 := by simp [cell, aRq]
theorem aSr {a b : Nat} (h : a / 2 = b / 2) : a = b ∨ a = sib b := by unfold sib; split <;> omega
def aQj (d : List Int) : lK := fun m v => ∃ i, i < d.length ∧ d.getD i 0 = -1 ∧ m = cell (sib i) 0 ∧ v = d.getD (sib i) 0
def aCy (d : List Int) (D : aE → Prop) : lK := fun m v => ∃ x, D x ∧ ∃ a, a < d.length ∧ d.getD a 0 = x.Player ∧ clm d a x.Round.toNat m v
def iB (d : List Int) (D : aE → Prop) : lK := fun m v => aQj d m v ∨ aCy d D m v
def gs (d : List Int) (x : aE) : Prop := ∃ a, a < d.length ∧ d.getD a 0 = x.Player ∧ cell a x.Round.toNat = ⟨x.Round, x.Place⟩
def Res (l : List aE) (x : aE) : Prop := x ∈ l ∧ x.Kind ≠ 5
structure OKF (d : List Int) (l : List aE) : Prop where
 two : aCq l
 slot : ∀ x, Res l x → gs d x
 fn : Func (iB d (Res l))
theorem aCj {t : aJ} (ht : TreeOK t) {i : Nat} (h : i < t.Slots.length) : sib i < t.Slots.length := by
 have h1 := ht.r1
 have h2 := ht.len
 have : t.Slots.length % 2 = 0 := by
  rw [h2]
  obtain ⟨k, hk⟩ : ∃ k, t.Rounds.toNat = k + 1 := ⟨t.Rounds.toNat - 1, by omega⟩
  rw [hk, Nat.pow_succ]; omega
 unfold sib; split <;> omega
theorem DOK.sib_ne {t : aJ} (ht : TreeOK t) {d : List Int} (h : DOK t d) {i : Nat} (hi : i < d.length) (hb : d.getD i 0 = -1) : d.getD (sib i) 0 ≠ -1 := by
 have hi' : i < t.Slots.length := h.len ▸ hi
 have hs := aCj ht hi'
 have hsd : sib i < d.length := h.len ▸ hs
 intro hc
 have e1 := (h.bye _ hi).1 hb
 have e2 := (h.bye _ hsd).1 hc
 rw [aZ hi'] at e1
 rw [aZ hs] at e2
 unfold sib at e2 hs
 by_cases he : i % 2 = 0
 ·obtain ⟨j, rfl⟩ : ∃ j, i = 2 * j := ⟨i / 2, by omega⟩
  simp only [he, if_true] at e2 hs
  exact ht.bye j hs e1 e2
 ·obtain ⟨j, rfl⟩ : ∃ j, i = 2 * j + 1 := ⟨i / 2, by omega⟩
  simp only [he, if_false, Nat.add_sub_cancel] at e2 hs
  exact ht.bye j hi' e2 e1
theorem aHm {t : aJ} (ht : TreeOK t) {d : List Int} (h : DOK t d) {i j : Nat} (hi : i < d.length) (hj : j < d.length) (bi : d.getD i 0 = -1) (bj : d.getD j 0 = -1) (hc : cell (sib i) 0 = cell (sib j) 0) : i = j := by
 rw [aDz, aDz] at hc
 have hc := (aQk hc).2
 simp only [Nat.zero_add, Nat.pow_one] at hc
 rcases aSr hc with e | e
 ·exact e
 ·have := h.sib_ne ht hj bj
  rw [← e] at this
  exact absurd bi this
theorem aQv {t : aJ} {d : List Int} (h : DOK t d) (hl : d.length ≤ 1000) {a : Nat} (ha : a < d.length) (hn : d.getD a 0 ≠ -1) : gU d (d.getD a 0) = some (a : Int) := by
 rw [wH d (by omega)]
 have : d.findIdx? (fun x => decide (d.getD a 0 = x)) = some a := by
  rw [List.findIdx?_eq_some_iff_getElem]
  refine ⟨ha, by rw [aZ ha]; simp, fun j hj => ?_⟩
  simp only [Bool.not_eq_true, decide_eq_false_iff_not]
  intro e
  rw [← aZ (show j < d.length by omega) 0] at e
  have := h.uni ha (show j < d.length by omega) e hn
  omega
 rw [this]
theorem aNg {d : List Int} (hl : d.length ≤ 1000) {n : Int} (hn : ∀ a, a < d.length → d.getD a 0 ≠ n) : gU d n = some (-1) := by
 rw [wH d (by omega)]
 have : d.findIdx? (fun x => decide (n = x)) = none := by
  rw [List.findIdx?_eq_none_iff]
  intro x hx
  obtain ⟨i, hi, rfl⟩ := List.mem_iff_getElem.1 hx
  have := hn i hi
  rw [aZ hi] at this
  simpa using Ne.symm this
 rw [this]
end Go.Am
end
section
namespace Go.Am
theorem wK (a r : Nat) : (a : Int).fdiv (2 ^ (r + 1)) = ((a / 2 ^ (r + 1) : Nat) : Int) := by
 have e : (2 : Int) ^ (r + 1) = ((2 ^ (r + 1) : Nat) : Int) := by simp
 rw [e]; exact (Int.ofNat_fdiv a (2 ^ (r + 1))).symm
theorem aJa {a r : Nat} (hr : r ≤ 5) : lU (r : Int) (a : Int) = some (cell a r) := by
 have hw : w64 ((r : Int) + 1) = ((r + 1 : Nat) : Int) := bW (by omega)
 have hch : chk (decide (0 ≤ ((r + 1 : Nat) : Int))) = some () := by unfold chk; rw [decide_eq_true (by omega)]; rfl
 have hm : min ((r + 1 : Nat) : Int).toNat 64 = r + 1 := by omega
 unfold lU
 rw [hw, hch, Option.bind_some, hm, wK]
 rfl
theorem aIl {t : aJ} {d : List Int} {P : lK} {a r : Nat} (ha : a < d.length) (hr : r ≤ 5) {won : List (aD × Int)} (h : WonIs won P) :
  ∃ b w, jY t d won a r = some (b, w) ∧ (b = true → qC P (clm d a r) ∧ WonIs w (fun m v => P m v ∨ clm d a r m v)) ∧ (b = false → ¬ qC P (clm d a r)) := by
 have key : ∀ n q k won', q + n = r + 1 → n < k → WonIs won' (fun m v => P m v ∨ (v = d.getD a 0 ∧ ∃ p, p < q ∧ m = cell a p)) → (∀ p, p < q → ∀ v, P (cell a p) v → v = d.getD a 0) →
   ∃ b w, fN a ((r + 1 : Nat) : Int) d t k q won' = some (b, w) ∧ (b = true → qC P (clm d a r) ∧ WonIs w (fun m v => P m v ∨ clm d a r m v)) ∧ (b = false → ¬ qC P (clm d a r)) := by
  intro n
  induction n with
  | zero =>
   intro q k won' hq hk hW hc
   have : q = r + 1 := by omega
   subst this
   cases k with
   | zero => omega
   | succ k =>
    have hlt : decide (((r + 1 : Nat) : Int) < ((r + 1 : Nat) : Int)) = false := decide_eq_false (by omega)
    simp only [fN, hlt, cond_false, oO]
    refine ⟨true, won', rfl, fun _ => ⟨?_, hW.ext fun m v => ?_⟩, fun e => by cases e⟩
    ·rintro m v w hp ⟨rfl, p, hp', rfl⟩
     exact hc p (by omega) v hp
    ·constructor
     ·rintro (h | ⟨e, p, hp, e2⟩)
      ·exact .inl h
      ·exact .inr ⟨e, p, by omega, e2⟩
     ·rintro (h | ⟨e, p, hp, e2⟩)
      ·exact .inl h
      ·exact .inr ⟨e, p, by omega, e2⟩
  | succ n ih =>
   intro q k won' hq hk hW hc
   cases k with
   | zero => omega
   | succ k =>
    have hlt : decide ((q : Int) < ((r + 1 : Nat) : Int)) = true := decide_eq_true (by omega)
    simp only [fN, hlt, cond_true, aJa (show q ≤ 5 by omega), Option.bind_some, bS ha, bW (show q < 9223372036854775807 by omega)]
    rw [← aZ ha 0]
    by_cases hex : ∃ v, P (cell a q) v ∧ v ≠ d.getD a 0
    ·obtain ⟨v, hv, hne⟩ := hex
     have hh : cX (cell a q) won' = true := (hW.has _).2 ⟨v, .inl hv⟩
     have hg : cG (cell a q) 0 won' = v := hW.get (.inl hv)
     simp only [hh, hg, cond_true, hne, decide_false, Bool.not_false, Option.bind_some]
     exact ⟨false, won', rfl, fun e => (by cases e), fun _ hco => hne (hco _ v _ hv ⟨rfl, q, by omega, rfl⟩)⟩
    ·have hall : ∀ v, P (cell a q) v → v = d.getD a 0 := fun v hv => Classical.byContradiction fun e => hex ⟨v, hv, e⟩
     have hall' : ∀ v, (P (cell a q) v ∨ (v = d.getD a 0 ∧ ∃ p, p < q ∧ cell a q = cell a p)) → v = d.getD a 0 := by
      rintro v (h | ⟨h, _⟩)
      ·exact hall v h
      ·exact h
     have hb : ((bif cX (cell a q) won' then some (!decide (cG (cell a q) 0 won' = d.getD a 0)) else some false) : Option Bool) = some false := by
      cases hh : cX (cell a q) won' with
      | false => rfl
      | true =>
       obtain ⟨v, hv⟩ := (hW.has _).1 hh
       rw [hW.get hv, hall' v hv]
       simp
     simp only [hb, Option.bind_some, cond_false]
     refine ih (q + 1) k _ (by omega) (by omega) ((hW.set hall').ext fun m v => ?_) fun p hp v hv => ?_
     ·constructor
      ·rintro ((h | ⟨e, p, hp, e2⟩) | ⟨e1, e2⟩)
       ·exact .inl h
       ·exact .inr ⟨e, p, by omega, e2⟩
       ·exact .inr ⟨e2, q, by omega, e1⟩
      ·rintro (h | ⟨e, p, hp, e2⟩)
       ·exact .inl (.inl h)
       ·by_cases hpq : p = q
        ·subst hpq; exact .inr ⟨e2, e⟩
        ·exact .inl (.inr ⟨e, p, by omega, e2⟩)
     ·by_cases hpq : p = q
      ·subst hpq; exact hall v hv
      ·exact hc p (by omega) v hv
 have := key (r + 1) 0 BIG won (by omega) (cC (by omega)) (h.ext fun m v => by simp) (fun p hp => by omega)
 unfold jY
 rw [bW (show r < 9223372036854775807 by omega)]
 exact this
theorem aGc {α : Type} {l : List α} (hnd : l.Nodup) {j : Nat} (hj : j < l.length) {x : α} : x ∈ l.eraseIdx j ↔ x ∈ l ∧ x ≠ l[j] := by
 rw [List.mem_eraseIdx_iff_getElem]
 constructor
 ·rintro ⟨i, hi, hne, rfl⟩; exact ⟨List.getElem_mem hi, fun e => hne ((List.getElem_inj hnd).1 e)⟩
 ·rintro ⟨hm, hne⟩
  obtain ⟨i, hi, rfl⟩ := List.mem_iff_getElem.1 hm
  exact ⟨i, hi, fun e => hne (by subst e; rfl), rfl⟩
structure ROK (t : aJ) (s : aE) : Prop where
 p0 : 0 ≤ s.Player
 r0 : 0 ≤ s.Round
 r1 : s.Round < t.Rounds
theorem aFb {t : aJ} {s : aE} (h : eI t s = true) (hk : s.Kind ≠ 5) : ROK t s := by
 simp only [eI, hk, if_false, Bool.and_eq_true, fU, iN] at h
 exact ⟨h.1.1, h.2.1.1.2.1.1, by omega⟩
section
variable {t : aJ} (ht : TreeOK t) {d : List Int} (hD : DOK t d) {l : List aE} (hR : ∀ s, Res l s → ROK t s)
include ht hD
omit ht in
theorem aPd {s : aE} (hr : ROK t s) {a : Nat} (ha : a < d.length) (he : d.getD a 0 = s.Player) : gs d s ↔ cell a s.Round.toNat = ⟨s.Round, s.Place⟩ := by
 have hp := hr.p0
 constructor
 ·rintro ⟨b, hb, e, h⟩
  have := hD.uni ha hb (he.trans e.symm) (by omega)
  subst this; exact h
 ·exact fun h => ⟨a, ha, he, h⟩
omit ht in
theorem aCk {s : aE} (hr : ROK t s) {a : Nat} (ha : a < d.length) (he : d.getD a 0 = s.Player) (m : aD) (v : Int) : aCy d (fun x => x = s) m v ↔ clm d a s.Round.toNat m v := by
 have hp := hr.p0
 constructor
 ·rintro ⟨x, rfl, b, hb, e, h⟩
  have := hD.uni ha hb (he.trans e.symm) (by omega)
  subst this; exact h
 ·exact fun h => ⟨s, rfl, a, ha, he, h⟩
include hR in
theorem aLq {Q : (Option aX × Bool) → Prop} {about : List (aD × aE)} (ham : ∀ m s, (m, s) ∈ about ↔ (s ∈ l ∧ s.Kind ≠ 5 ∧ m = ⟨s.Round, s.Place⟩)) (hN : aCq l)
  (hok : OKF d l → ∀ won, WonIs won (iB d (Res l)) → Q (some ⟨t, d, won⟩, true)) (hbad : ¬ OKF d l → Q (none, false)) :
  ∀ n k left won, left.length = n → n < k → left.Nodup → (∀ p ∈ left, p ∈ about) → WonIs won (iB d (fun s => Res l s ∧ ((⟨s.Round, s.Place⟩ : aD), s) ∉ left)) → (∀ s, Res l s → ((⟨s.Round, s.Place⟩ : aD), s) ∉ left → gs d s) →
  iS Q d t about k won left := by
 have h5 := ht.r5
 have h32 := ht.len32
 have hl := hD.len
 intro n
 induction n with
 | zero =>
  intro k left won hn hk hnd hsub hW hg
  have : left = [] := List.length_eq_zero_iff.1 hn
  subst this
  cases k with
  | zero => omega
  | succ k =>
   simp only [iS, rV]
   have hW' : WonIs won (iB d (Res l)) := hW.ext fun m v => by simp [iB, aCy]
   exact ⟨fun _ => hok ⟨hN, fun x hx => hg x hx (by simp), hW'.func⟩ won hW', fun j p hj => by simp at hj⟩
 | succ n ih =>
  intro k left won hn hk hnd hsub hW hg
  cases k with
  | zero => omega
  | succ k =>
   simp only [iS]
   refine ⟨fun e => by subst e; simp at hn, fun j p hj => ?_⟩
   have hjl : j < left.length := by
    rcases Nat.lt_or_ge j left.length with h | h
    ·exact h
    ·rw [List.getElem?_eq_none h] at hj; cases hj
   have hpm : p ∈ left := List.mem_of_getElem? hj
   obtain ⟨m, s⟩ := p
   obtain ⟨s1, s2, rfl⟩ := (ham m s).1 (hsub _ hpm)
   have hres : Res l s := ⟨s1, s2⟩
   have hr := hR s hres
   have hp0 := hr.p0
   have hr0 := hr.r0
   have hr1 := hr.r1
   have er : s.Round = ((s.Round.toNat : Nat) : Int) := by omega
   by_cases hex : ∃ a, a < d.length ∧ d.getD a 0 = s.Player
   ·obtain ⟨a, ha, he⟩ := hex
    refine ⟨_, he ▸ aQv hD (by omega) ha (by omega), ?_⟩
    have hneg : decide ((a : Int) < 0) = false := decide_eq_false (by omega)
    have hof : lU s.Round a = some (cell a s.Round.toNat) := by rw [er]; exact aJa (by omega)
    simp only [hneg, cond_false, hof, Option.bind_some]
    refine ⟨_, rfl, ?_⟩
    by_cases hc : cell a s.Round.toNat = ⟨s.Round, s.Place⟩
    ·simp only [hc, decide_true, Bool.not_true, cond_false]
     obtain ⟨b, w, hw, hT, hF⟩ := aIl (t := t) ha (show s.Round.toNat ≤ 5 by omega) hW
     rw [← er] at hw
     refine ⟨_, hw, ?_⟩
     cases b with
     | false =>
      simp only [Bool.not_false, cond_true]
      refine hbad fun hO => hF rfl fun m v w' h1 h2 => hO.fn m v w' ?_ (.inr ⟨s, hres, a, ha, he, h2⟩)
      rcases h1 with h1 | ⟨x, hx, h1⟩
      ·exact .inl h1
      ·exact .inr ⟨x, hx.1, h1⟩
     | true =>
      simp only [Bool.not_true, cond_false]
      have hj' : left[j] = (⟨s.Round, s.Place⟩, s) := by
       rw [List.getElem?_eq_getElem hjl] at hj
       exact Option.some.inj hj
      have hmem : ∀ x : aE, ((⟨x.Round, x.Place⟩ : aD), x) ∉ left.eraseIdx j ↔ ((⟨x.Round, x.Place⟩ : aD), x) ∉ left ∨ x = s := by
       intro x
       rw [aGc hnd hjl, hj']
       constructor
       ·intro h
        by_cases hx : x = s
        ·exact .inr hx
        ·exact .inl fun hm => h ⟨hm, fun e => hx (congrArg Prod.snd e)⟩
       ·rintro (h | rfl)
        ·exact fun h2 => h h2.1
        ·exact fun h => h.2 rfl
      refine ih k _ w (by rw [List.length_eraseIdx]; simp [hjl]; omega) (by omega) (hnd.eraseIdx j) (fun q hq => hsub q (List.mem_of_mem_eraseIdx hq)) ((hT rfl).2.ext fun m v => ?_) fun x hx hxl => ?_
      ·constructor
       ·rintro ((h | ⟨x, hx, h⟩) | h)
        ·exact .inl h
        ·exact .inr ⟨x, ⟨hx.1, (hmem x).2 (.inl hx.2)⟩, h⟩
        ·exact .inr ⟨s, ⟨hres, (hmem s).2 (.inr rfl)⟩, a, ha, he, h⟩
       ·rintro (h | ⟨x, ⟨hx1, hx2⟩, h⟩)
        ·exact .inl (.inl h)
        ·rcases (hmem x).1 hx2 with hx2 | rfl
         ·exact .inl (.inr ⟨x, ⟨hx1, hx2⟩, h⟩)
         ·exact .inr ((aCk hD hr ha he m v).1 ⟨x, rfl, h⟩)
      ·rcases (hmem x).1 hxl with hxl | rfl
       ·exact hg x hx hxl
       ·exact ⟨a, ha, he, hc⟩
    ·simp only [hc, decide_false, Bool.not_false, cond_true]
     exact hbad fun hO => hc ((aPd hD hr ha he).1 (hO.slot s hres))
   ·refine ⟨_, aNg (by omega) fun a ha e => hex ⟨a, ha, e⟩, ?_⟩
    simp only [show decide ((-1 : Int) < 0) = true by decide, cond_true]
    refine ⟨_, rfl, ?_⟩
    simp only [cond_true]
    refine hbad fun hO => ?_
    obtain ⟨a, ha, e, _⟩ := hO.slot s hres
    exact hex ⟨a, ha, e⟩
theorem aMz {Q : (Option aX × Bool) → Prop} {about : List (aD × aE)} (hgo : ∀ won, WonIs won (aQj d) → oM Q d won t about) : fL Q d.length d t about BIG 0 [] := by
 have h32 := ht.len32
 have hl := hD.len
 refine sP (S := List (aD × Int)) (fun k i won => fL Q d.length d t about k i won) d.length (fun p => p)
  (fun i won => WonIs won (fun m v => ∃ j, j < i ∧ j < d.length ∧ d.getD j 0 = -1 ∧ m = cell (sib j) 0 ∧ v = d.getD (sib j) 0)) ?_ ?_ BIG 0 [] (cC (by omega)) (WonIs.nil.ext fun m v => by simp)
 ·intro k i won hi hW ih
  simp only [fL, Int.ofNat_lt, hi, decide_true, cond_true, bS hi, bW (show i < 9223372036854775807 by omega)]
  refine ⟨_, rfl, ?_⟩
  rw [← aZ hi 0]
  by_cases hb : d.getD i 0 = -1
  ·simp only [hb, decide_true, cond_true]
   have hx : aDv (i : Int) 1 = ((sib i : Nat) : Int) := aRx ⟨i, by omega⟩
   have hs : sib i < d.length := by rw [hl]; exact aCj ht (by omega)
   obtain ⟨b, w, hw, hT, hF⟩ := aIl (t := t) hs (show 0 ≤ 5 by omega) hW
   rw [hx]
   refine ⟨_, hw, ih w ?_⟩
   have hco : qC (fun m v => ∃ j, j < i ∧ j < d.length ∧ d.getD j 0 = -1 ∧ m = cell (sib j) 0 ∧ v = d.getD (sib j) 0) (clm d (sib i) 0) := by
    rintro m v w' ⟨j, h1, h2, h3, h4, h5⟩ ⟨e1, q, hq, e2⟩
    have : q = 0 := by omega
    subst this
    have := aHm ht hD hi h2 hb h3 (e2.symm.trans h4)
    omega
   have hbt : b = true := by
    cases b with
    | true => rfl
    | false => exact absurd hco (hF rfl)
   refine (hT hbt).2.ext fun m v => ?_
   constructor
   ·rintro (⟨j, h1, h2⟩ | ⟨e1, q, hq, e2⟩)
    ·exact ⟨j, by omega, h2⟩
    ·have : q = 0 := by omega
     subst this
     exact ⟨i, by omega, hi, hb, e2, e1⟩
   ·rintro ⟨j, h1, h2, h3, h4, h5⟩
    by_cases hji : j = i
    ·subst hji; exact .inr ⟨h5, 0, by omega, h4⟩
    ·exact .inl ⟨j, by omega, h2, h3, h4, h5⟩
  ·simp only [hb, decide_false, cond_false]
   refine ih won (hW.ext fun m v => ?_)
   constructor
   ·rintro ⟨j, h1, h2⟩; exact ⟨j, by omega, h2⟩
   ·rintro ⟨j, h1, h2, h3, h4⟩
    by_cases hji : j = i
    ·subst hji; exact absurd h3 hb
    ·exact ⟨j, by omega, h2, h3, h4⟩
 ·intro k i won hi hW
  have hlt : decide ((i : Int) < (d.length : Int)) = false := decide_eq_false (by omega)
  simp only [fL, hlt, cond_false]
  exact hgo won (hW.ext fun m v => ⟨fun ⟨j, _, h⟩ => ⟨j, h⟩, fun ⟨j, h⟩ => ⟨j, by have := h.1; omega, h⟩⟩)
end
def fT (t : aJ) (l : List aE) : Option (List Int) := match vQ t l with
 | some (d, U) => if U.length = (cF l).length then some d else none
 | none => none
def AGR (t : aJ) (l : List aE) (d : List Int) : Prop := fT t l = some d ∧ OKF d l
theorem aIe {L : List aE} (hL : LOK L) {S : List Int} : ∀ {n i : Nat} {d ever : List Int} {U : List aE} {d' : List Int} {U' : List aE}, GI L S i d ever U → i + n = S.length → (∀ a, a < d.length → -1 ≤ d.getD a 0) → dU L n i d ever U = some (d', U') → ∀ a, a < d'.length → -1 ≤ d'.getD a 0
 | 0, i, d, ever, U, d', U', h, hn, hr, he => by
  simp only [dU, Option.some.injEq, Prod.mk.injEq] at he
  obtain ⟨rfl, rfl⟩ := he
  exact hr
 | n + 1, i, d, ever, U, d', U', h, hn, hr, he => by
  unfold dU at he
  have hi : i < S.length := by omega
  have hid : i < d.length := by rw [h.len]; exact hi
  cases hs : cY L i (L.length + 1) (d.getD i 0) ever U with
  | none => rw [hs] at he; simp at he
  | some q =>
   obtain ⟨now', ever', U1⟩ := q
   rw [hs] at he
   obtain ⟨_, _, hnow, _⟩ := vT hL (h.start hi) hs
   refine aIe hL (h.next hL hi hs) (by omega) (fun a ha => ?_) he
   rw [List.length_set] at ha
   rw [iF hid]
   split
   ·rcases hnow with e | ⟨_, e, _⟩
    ·rw [e]; exact hr i hid
    ·omega
   ·exact hr a ha
theorem sU {t : aJ} (ht : TreeOK t) : vX t.Slots := ⟨ht.rng, ht.bye, ht.dup⟩
theorem aBa {t : aJ} {l : List aE} (hs : ∀ s ∈ l, eI t s = true) : LOK (cF l) := by
 intro s hm
 simp only [cF, List.mem_filter, lD, isL, decide_eq_true_eq] at hm
 have := hs s hm.1
 simp only [eI, hm.2, if_true, Bool.and_eq_true, fU] at this
 omega
theorem aPi {t : aJ} (ht : TreeOK t) {l : List aE} (hs : ∀ s ∈ l, eI t s = true) {d : List Int} {U : List aE} (h : vQ t l = some (d, U)) : DOK t d := by
 have hL := aBa hs
 have hG := wG (cF l) (sU ht)
 obtain ⟨ever, hI⟩ := vP hL hG (by omega) h
 refine ⟨hI.len, hI.dup, fun a ha => hI.bye a ha, aIe hL hG (by omega) (fun a ha => ?_) h⟩
 rw [aZ ha]; exact (ht.rng a ha).1
theorem tJ {t : aJ} (ht : TreeOK t) {l : List aE} (hs : ∀ s ∈ l, eI t s = true) {d : List Int} (h : fT t l = some d) : DOK t d := by
 unfold fT at h
 split at h
 ·rename_i d' U hr
  split at h
  ·cases h; exact aPi ht hs hr
  ·cases h
 ·cases h
theorem aFc {t : aJ} (ht : TreeOK t) {l : List aE} (hs : ∀ s ∈ l, eI t s = true) (hl : l.length ≤ 500) {Q : (Option aX × Bool) → Prop}
  (hok : ∀ d, AGR t l d → ∀ won, WonIs won (iB d (Res l)) → Q (some ⟨t, d, won⟩, true)) (hbad : (∀ d, ¬ AGR t l d) → Q (none, false)) : pD t l Q := by
 have h32 := ht.len32
 have hll := zX (l := l)
 unfold pD
 refine ⟨t.Slots, by unfold fA; rw [gZ (by simp; omega)]; rfl, ?_⟩
 refine aNa (by omega) (fun h => hbad fun d hd => h hd.2.two) fun hN lucky about hLA => ?_
 unfold oL
 have hLn : (cF l).Nodup := (yH l).filter _
 refine aKy hLn _ (sU ht) (aBa hs) h32 (by omega) (lk := lucky) ⟨hLA.ln, fun s => ?_⟩ (fun d U hp hU => ?_) fun hno d lk => ?_
 ·rw [hLA.lm]; simp [cF, lD, isL]
 ·have hpo : fT t l = some d := by unfold fT vQ; rw [hp]; simp [hU]
  have hD := tJ ht hs hpo
  simp only [Bool.not_true, cond_false]
  refine aMz ht hD fun won hW => ?_
  have habn : about.Nodup := (List.Pairwise.of_map (·.1) (fun a b h e => h (e ▸ rfl)) hLA.an)
  unfold oM yV
  refine aLq ht hD (fun s hr => aFb (hs s hr.1) hr.2) hLA.am hN (fun hO won hW => hok d ⟨hpo, hO⟩ won hW) (fun hO => hbad fun d' hd' => ?_) about.length BIG about won rfl (cC ?_) habn (fun p hp => hp) (hW.ext fun m v => ?_) fun s hr hn => absurd ((hLA.am _ _).2 ⟨hr.1, hr.2, rfl⟩) hn
  ·have := hd'.1
   rw [hpo] at this
   cases this
   exact hO hd'.2
  ·have : about.length ≤ l.length := by
    have := lM (l := about) (m := l.map fun s => ((⟨s.Round, s.Place⟩ : aD), s)) habn fun x hx => ?_
    ·simpa using this
    ·obtain ⟨m, s⟩ := x
     obtain ⟨a1, a2, rfl⟩ := (hLA.am m s).1 hx
     exact List.mem_map.2 ⟨s, a1, rfl⟩
   omega
  ·constructor
   ·exact .inl
   ·rintro (h | ⟨x, ⟨hx1, hx2⟩, _⟩)
    ·exact h
    ·exact absurd ((hLA.am _ _).2 ⟨hx1.1, hx1.2, rfl⟩) hx2
 ·simp only [Bool.not_false, cond_true]
  refine hbad fun d' hd' => ?_
  have := hd'.1
  unfold fT at this
  split at this
  ·rename_i d2 U hr
   split at this
   ·rename_i hU; exact hno d2 U hr hU
   ·cases this
  ·cases this
end Go.Am
end
section
namespace Go.Am
def mat (must : List (List Int)) (r p : Nat) : Int := (must.getD r []).getD p (-2)
structure MustIs (t : aJ) (must : List (List Int)) (P : lK) : Prop where
 len : must.length = t.Rounds.toNat
 row : ∀ r : Nat, r < t.Rounds.toNat → (must.getD r []).length = bY t r
 mem : ∀ (r p : Nat) (v : Int), r < t.Rounds.toNat → p < bY t r → ((mat must r p = v ∧ v ≠ -2) ↔ P ⟨r, p⟩ v)
theorem MustIs.ext {t : aJ} {must : List (List Int)} {P Q : lK} (h : MustIs t must P) (he : ∀ m v, P m v ↔ Q m v) : MustIs t must Q := ⟨h.len, h.row, fun r p v h1 h2 => (h.mem r p v h1 h2).trans (he _ v)⟩
theorem MustIs.set {t : aJ} {must : List (List Int)} {P : lK} (h : MustIs t must P) {r p : Nat} {n : Int} (hr : r < t.Rounds.toNat) (hp : p < bY t r) (hn : n ≠ -2) (hc : ∀ v, P ⟨r, p⟩ v → v = n) :
  MustIs t (must.set r ((must.getD r []).set p n)) (fun m v => P m v ∨ (m = ⟨r, p⟩ ∧ v = n)) := by
 have hl := h.len
 have hrow := h.row r hr
 have hrl : r < must.length := by omega
 have hg : ∀ r', (must.set r ((must.getD r []).set p n)).getD r' [] = if r' = r then (must.getD r []).set p n else must.getD r' [] := by
  intro r'
  by_cases e : r' = r
  ·subst e; simp [List.getD, hrl]
  ·simp [List.getD, e, List.getElem?_set, Ne.symm e]
 refine ⟨by rw [List.length_set]; exact hl, fun r' hr' => ?_, fun r' p' v hr' hp' => ?_⟩
 ·rw [hg]
  split
  ·rename_i e; subst e; rw [List.length_set]; exact h.row r' hr'
  ·exact h.row r' hr'
 ·have hm := h.mem r' p' v hr' hp'
  unfold mat at hm ⊢
  rw [hg]
  by_cases e : r' = r
  ·subst e
   rw [if_pos rfl]
   by_cases e2 : p' = p
   ·subst e2
    have : ((must.getD r' []).set p' n).getD p' (-2) = n := by simp [List.getD]; rw [List.getElem?_set]; simp; have := hrow; simp [List.getD] at this; simp [this, hp]
    rw [this]
    constructor
    ·rintro ⟨rfl, _⟩; exact .inr ⟨rfl, rfl⟩
    ·rintro (hP | ⟨_, rfl⟩)
     ·exact ⟨(hc v hP).symm, (hm.2 hP).2⟩
     ·exact ⟨rfl, hn⟩
   ·have : ((must.getD r' []).set p n).getD p' (-2) = (must.getD r' []).getD p' (-2) := by simp only [List.getD]; rw [List.getElem?_set, if_neg (Ne.symm e2)]
    rw [this, hm]
    constructor
    ·exact .inl
    ·rintro (hP | ⟨e3, _⟩)
     ·exact hP
     ·simp only [aD.mk.injEq] at e3; omega
  ·rw [if_neg e, hm]
   constructor
   ·exact .inl
   ·rintro (hP | ⟨e3, _⟩)
    ·exact hP
    ·simp only [aD.mk.injEq] at e3; omega
theorem MustIs.func {t : aJ} {must : List (List Int)} {P : lK} (h : MustIs t must P) {r p : Nat} (hr : r < t.Rounds.toNat) (hp : p < bY t r) {v w : Int} (h1 : P ⟨r, p⟩ v) (h2 : P ⟨r, p⟩ w) : v = w :=
 ((h.mem r p v hr hp).2 h1).1.symm.trans ((h.mem r p w hr hp).2 h2).1
section
variable {t : aJ} (ht : TreeOK t) {d : List Int} (hD : DOK t d)
include ht
theorem yQ {a r : Nat} (ha : a < t.Slots.length) (hr : r < t.Rounds.toNat) : a / 2 ^ (r + 1) < bY t r := by
 rw [ht.len] at ha
 unfold bY
 rw [Nat.div_lt_iff_lt_mul (Nat.two_pow_pos _), ← Nat.pow_add]
 have e : t.Rounds.toNat - 1 - (r : Int).toNat + (r + 1) = t.Rounds.toNat := by simp; omega
 rw [e]; exact ha
theorem aCx : 2 * bY t 0 = t.Slots.length := by
 have h1 := ht.r1
 rw [ht.len]; unfold bY
 have e : t.Rounds.toNat = (t.Rounds.toNat - 1 - (0 : Int).toNat) + 1 := by simp; omega
 conv => rhs; rw [e, Nat.pow_succ]
 omega
omit ht in
def sX (d : List Int) (p : Nat) : Int := if d.getD (2 * p + 1) 0 = -1 then d.getD (2 * p) 0 else if d.getD (2 * p) 0 = -1 then d.getD (2 * p + 1) 0 else -2
def sE (t : aJ) (d : List Int) (r : Nat) : List Int := (List.range (bY t r)).map fun p => if r = 0 then sX d p else -2
include hD in
theorem aTc (a0 : Int → List (List Int) → List Int → Option (aQ × Bool)) (l : List aE) (o4 : aQ) (M : List (List Int)) (d2 : List Int) {r : Nat} (hr : r < t.Rounds.toNat) :
  eD a0 l d r t o4 M d2 BIG 0 [] = kZ a0 l d r t o4 M d2 (sE t d r) := by
 have hpl := nL ht (r := (r : Int))
 have h5 := ht.r5
 have hP := aBb ht (r := (r : Int)) (by omega) (by omega)
 have hp0 := aCx ht
 have hlen := hD.len
 have := eF (S := List Int) (fun k p row => eD a0 l d r t o4 M d2 k p row) (bY t r) (fun _ _ => kZ a0 l d r t o4 M d2 (sE t d r)) (fun p row => row = (List.range p).map fun p => if r = 0 then sX d p else -2) ?_ ?_ BIG [] (cC (by omega)) (by simp)
 ·exact this
 ·rintro k p row hp rfl ih
  have happ : ∀ v : Int, app 8 ((List.range p).map fun p => if r = 0 then sX d p else -2) [v] = some (((List.range p).map fun p => if r = 0 then sX d p else -2) ++ [v]) := fun v => gZ (by simp; omega)
  simp only [eD, hP, Option.bind_some, Int.ofNat_lt, hp, decide_true, cond_true, happ, bW (show p < 9223372036854775807 by omega)]
  have fin : ∀ v : Int, v = (if r = 0 then sX d p else -2) → eD a0 l d r t o4 M d2 k ((p + 1 : Nat) : Int) (((List.range p).map fun p => if r = 0 then sX d p else -2) ++ [v]) = kZ a0 l d r t o4 M d2 (sE t d r) := by
   intro v hv
   refine ih _ ?_
   rw [List.range_succ, List.map_append, hv]; rfl
  by_cases h0 : r = 0
  ·subst h0
   have hpl2 : p < bY t 0 := hp
   have w1 : w64 (2 * (p : Int)) = ((2 * p : Nat) : Int) := by rw [dP (by omega) (by omega)]; omega
   have w2 : w64 (((2 * p : Nat) : Int) + 1) = ((2 * p + 1 : Nat) : Int) := bW (by omega)
   have i1 : 2 * p < d.length := by omega
   have i2 : 2 * p + 1 < d.length := by omega
   simp only [w1, w2, bS i1, bS i2, Option.bind_some, Int.natCast_zero, decide_true, cond_true]
   rw [← aZ i1 0, ← aZ i2 0]
   by_cases b1 : d.getD (2 * p) 0 = -1
   ·by_cases b2 : d.getD (2 * p + 1) 0 = -1
    ·simp only [b1, b2, decide_true, cond_true]
     exact fin _ (by simp only [sX, b1, b2, if_true])
    ·simp only [b1, b2, decide_true, decide_false, cond_true, cond_false]
     exact fin _ (by simp only [sX, b1, b2, if_true, if_false])
   ·by_cases b2 : d.getD (2 * p + 1) 0 = -1
    ·simp only [b1, b2, decide_true, decide_false, cond_true, cond_false]
     exact fin _ (by simp only [sX, b2, if_true])
    ·simp only [b1, b2, decide_false, cond_false]
     exact fin _ (by simp only [sX, b1, b2, if_true, if_false])
  ·have hr0 : decide ((r : Int) = 0) = false := decide_eq_false (by omega)
   simp only [hr0, cond_false, Option.bind_some]
   exact fin _ (by rw [if_neg h0])
 ·intro k row hrow
  have hlt : decide ((bY t r : Int) < (bY t r : Int)) = false := decide_eq_false (by omega)
  simp only [eD, hP, Option.bind_some, hlt, cond_false, hrow, sE]
include hD in
theorem aRj (l : List aE) (o4 : aQ) (d2 : List Int) : jA l d t o4 BIG 0 [] d2 = kY l d o4 ((List.range t.Rounds.toNat).map (sE t d)) d2 := by
 have h1 := ht.r1
 have h5 := ht.r5
 have e : t.Rounds = ((t.Rounds.toNat : Nat) : Int) := by omega
 have := eF (S := List (List Int)) (fun k r M => jA l d t o4 k r M d2) t.Rounds.toNat (fun _ _ => kY l d o4 ((List.range t.Rounds.toNat).map (sE t d)) d2) (fun r M => M = (List.range r).map (sE t d)) ?_ ?_ BIG [] (cC (by omega)) (by simp)
 ·exact this
 ·rintro k r M hr rfl ih
  have hlt : decide ((r : Int) < t.Rounds) = true := decide_eq_true (by omega)
  simp only [jA, hlt, cond_true, aTc ht hD _ l o4 _ d2 hr, kZ, uM, bW (show r < 9223372036854775807 by omega)]
  rw [gZ (by simp; omega), Option.bind_some]
  refine ih _ ?_
  rw [List.range_succ, List.map_append]; rfl
 ·rintro k M rfl
  have hlt : decide (((t.Rounds.toNat : Nat) : Int) < t.Rounds) = false := decide_eq_false (by omega)
  simp only [jA, hlt, cond_false]
include hD in
theorem aUo : MustIs t ((List.range t.Rounds.toNat).map (sE t d)) (aQj d) := by
 have hg : ∀ r, r < t.Rounds.toNat → ((List.range t.Rounds.toNat).map (sE t d)).getD r [] = sE t d r := by
  intro r hr
  rw [aZ (by simpa using hr)]; simp
 have hp0 := aCx ht
 have hlen := hD.len
 refine ⟨by simp, fun r hr => by rw [hg r hr]; simp [sE], fun r p v hr hp => ?_⟩
 have hm : mat ((List.range t.Rounds.toNat).map (sE t d)) r p = if r = 0 then sX d p else -2 := by
  unfold mat
  rw [hg r hr, aZ (by simpa [sE] using hp)]
  simp [sE]
 rw [hm]
 by_cases h0 : r = 0
 ·subst h0
  have hpl2 : p < bY t 0 := hp
  have i1 : 2 * p < d.length := by omega
  have i2 : 2 * p + 1 < d.length := by omega
  have s1 : sib (2 * p) = 2 * p + 1 := by unfold sib; split <;> omega
  have s2 : sib (2 * p + 1) = 2 * p := by unfold sib; split <;> omega
  rw [if_pos rfl]
  constructor
  ·rintro ⟨hv, hn⟩
   unfold sX at hv
   split at hv
   ·rename_i b; exact ⟨2 * p + 1, i2, b, by rw [s2]; simp [cell], by rw [s2]; exact hv.symm⟩
   ·split at hv
    ·rename_i b; exact ⟨2 * p, i1, b, by rw [s1]; simp [cell]; omega, by rw [s1]; exact hv.symm⟩
    ·exact absurd hv.symm hn
  ·rintro ⟨i, hi, hb, hc, rfl⟩
   have hsib := hD.sib_ne ht hi hb
   have hsl : sib i < d.length := by rw [hlen]; exact aCj ht (by omega)
   have hrng := hD.rng _ hsl
   refine ⟨?_, by omega⟩
   have : p = i / 2 := by
    rw [aDz] at hc
    simp only [cell, aD.mk.injEq] at hc
    omega
   rcases (show i = 2 * p ∨ i = 2 * p + 1 by omega) with rfl | rfl
   ·rw [s1] at hsib ⊢
    unfold sX; rw [if_neg hsib, if_pos hb]
   ·rw [s2]
    unfold sX; rw [if_pos hb]
 ·rw [if_neg h0]
  constructor
  ·rintro ⟨rfl, hn⟩; exact absurd rfl hn
  ·rintro ⟨i, hi, hb, hc, _⟩
   simp only [cell, aD.mk.injEq] at hc
   omega
end
end Go.Am
end
section
namespace Go.Am
abbrev aBw : Option (aQ × Bool) := some (aQ.mk [] [], false)
def Out (t : aJ) (d : List Int) (l : List aE) (o : Option (aQ × Bool)) : Prop :=
 (OKF d l → ∃ must, o = some (⟨d, must⟩, true) ∧ MustIs t must (iB d (Res l))) ∧ (¬ OKF d l → o = aBw)
theorem Out.bad {t : aJ} {d : List Int} {l : List aE} (h : ¬ OKF d l) : Out t d l aBw := ⟨fun h' => absurd h' h, fun _ => rfl⟩
section
variable {t : aJ} (ht : TreeOK t) {d : List Int} (hD : DOK t d) {l : List aE} (hR : ∀ s, Res l s → ROK t s)
include ht hD
theorem aOo {P : lK} {x : aE} (hx : ROK t x) {a : Nat} (ha : a < d.length) (he : d.getD a 0 = x.Player) (a4 : Int → aQ → List (List Int) → Option (aQ × Bool)) (all : List aE) (i : Int) (o4 : aQ)
  {must : List (List Int)} (h : MustIs t must P) (hok : qC P (clm d a x.Round.toNat) → ∀ must', MustIs t must' (fun m v => P m v ∨ clm d a x.Round.toNat m v) → Out t d l (a4 (w64 (i + 1)) o4 must'))
  (hbad : ¬ qC P (clm d a x.Round.toNat) → ¬ OKF d l) : Out t d l (iL a4 d all i a d x BIG 0 o4 must) := by
 have h5 := ht.r5
 have hr0 := hx.r0
 have hr1 := hx.r1
 have hp0 := hx.p0
 have hal : a < t.Slots.length := by rw [← hD.len]; exact ha
 have key : ∀ n q k must', q + n = x.Round.toNat + 1 → n < k → MustIs t must' (fun m v => P m v ∨ (v = d.getD a 0 ∧ ∃ p, p < q ∧ m = cell a p)) → (∀ p, p < q → ∀ v, P (cell a p) v → v = d.getD a 0) →
   Out t d l (iL a4 d all i a d x k q o4 must') := by
  intro n
  induction n with
  | zero =>
   intro q k must' hq hk hW hc
   cases k with
   | zero => omega
   | succ k =>
    have hlt : decide ((q : Int) ≤ x.Round) = false := decide_eq_false (by omega)
    simp only [iL, hlt, cond_false, tY, nD]
    refine hok ?_ must' (hW.ext fun m v => ?_)
    ·rintro m v w hp ⟨rfl, p, hp', rfl⟩
     exact hc p (by omega) v hp
    ·constructor
     ·rintro (h | ⟨e, p, hp, e2⟩)
      ·exact .inl h
      ·exact .inr ⟨e, p, by omega, e2⟩
     ·rintro (h | ⟨e, p, hp, e2⟩)
      ·exact .inl h
      ·exact .inr ⟨e, p, by omega, e2⟩
  | succ n ih =>
   intro q k must' hq hk hW hc
   cases k with
   | zero => omega
   | succ k =>
    have hlt : decide ((q : Int) ≤ x.Round) = true := decide_eq_true (by omega)
    have hqR : q < t.Rounds.toNat := by omega
    have hw : w64 ((q : Int) + 1) = ((q + 1 : Nat) : Int) := bW (by omega)
    have hu : IntKind.u64.wrap ((q + 1 : Nat) : Int) = ((q + 1 : Nat) : Int) := sT (by omega) (by omega)
    have hch : chk (decide (0 ≤ ((q + 1 : Nat) : Int))) = some () := by unfold chk; rw [decide_eq_true (by omega)]; rfl
    have hmin : min ((q + 1 : Nat) : Int).toNat 64 = q + 1 := by omega
    have hml := hW.len
    have hrl := hW.row q hqR
    have hpin := yQ ht hal hqR
    have hql : q < must'.length := by omega
    have hi1 : idx must' (q : Int) = some (must'.getD q []) := by rw [bS hql, aZ hql]
    have hi2 : idx (must'.getD q []) ((a / 2 ^ (q + 1) : Nat) : Int) = some (mat must' q (a / 2 ^ (q + 1))) := by
     have hlt' : a / 2 ^ (q + 1) < (must'.getD q []).length := by omega
     rw [bS hlt']; exact congrArg some (aZ hlt' (-2)).symm
    simp only [iL, hlt, cond_true, hw, hu, hch, hmin, wK, Option.bind_some, hi1, hi2]
    have hmem := fun v => hW.mem q (a / 2 ^ (q + 1)) v hqR hpin
    have hcell : (⟨(q : Int), ((a / 2 ^ (q + 1) : Nat) : Int)⟩ : aD) = cell a q := rfl
    rw [hcell] at hmem
    by_cases hex : mat must' q (a / 2 ^ (q + 1)) ≠ -2 ∧ mat must' q (a / 2 ^ (q + 1)) ≠ x.Player
    ·simp only [hex.1, hex.2, decide_false, Bool.not_false, cond_true, Option.bind_some]
     refine Out.bad (hbad fun hco => hex.2 ?_)
     rcases (hmem _).1 ⟨rfl, hex.1⟩ with h | ⟨h, _⟩
     ·rw [← he]; exact hco _ _ _ h ⟨rfl, q, by omega, rfl⟩
     ·rw [h, he]
    ·have hb : ((bif !decide (mat must' q (a / 2 ^ (q + 1)) = -2) then some (!decide (mat must' q (a / 2 ^ (q + 1)) = x.Player)) else some false) : Option Bool) = some false := by
      rw [eJ, Option.some.injEq, Bool.and_eq_false_iff]
      by_cases h1 : mat must' q (a / 2 ^ (q + 1)) = -2
      ·exact .inl (by simp [h1])
      ·exact .inr (by simpa using fun h2 => hex ⟨h1, h2⟩)
     have hall : ∀ v, (P (cell a q) v ∨ (v = d.getD a 0 ∧ ∃ p, p < q ∧ cell a q = cell a p)) → v = d.getD a 0 := by
      intro v hv
      have ⟨h1, h2⟩ := (hmem v).2 hv
      rw [he]
      refine Classical.byContradiction fun hne => hex ⟨by rw [h1]; exact h2, by rw [h1]; exact hne⟩
     simp only [hb, Option.bind_some, cond_false]
     simp only [← he]
     have e8 : ((q : Int)).toNat = q := by omega
     have e9 : (((a / 2 ^ (q + 1) : Nat)) : Int).toNat = a / 2 ^ (q + 1) := Int.toNat_natCast _
     rw [e8, e9]
     rw [← he] at hp0
     refine ih (q + 1) k _ (by omega) (by omega) ((hW.set hqR hpin (n := d.getD a 0) (by omega) hall).ext fun m v => ?_) fun p hp v hv => ?_
     ·rw [hcell]
      constructor
      ·rintro ((h | ⟨e, p, hp, e2⟩) | ⟨e1, e2⟩)
       ·exact .inl h
       ·exact .inr ⟨e, p, by omega, e2⟩
       ·exact .inr ⟨e2, q, by omega, e1⟩
      ·rintro (h | ⟨e, p, hp, e2⟩)
       ·exact .inl (.inl h)
       ·by_cases hpq : p = q
        ·subst hpq; exact .inr ⟨e2, e⟩
        ·exact .inl (.inr ⟨e, p, by omega, e2⟩)
     ·by_cases hpq : p = q
      ·subst hpq; exact hall v (.inl hv)
      ·exact hc p (by omega) v hv
 exact key (x.Round.toNat + 1) 0 BIG must (by omega) (cC (by omega)) (h.ext fun m v => by simp) (fun p hp => by omega)
omit ht in
theorem aRa (hl : d.length ≤ 1000) {x : aE} (hp : 0 ≤ x.Player) (a4 : Int → aQ → List (List Int) → Option (aQ × Bool)) (all : List aE) (i : Int) (o4 : aQ) (must : List (List Int)) (d2 : List Int) :
  (∀ a, a < d.length → d.getD a 0 = x.Player → dR a4 d all i o4 must d2 x BIG (-1) 0 = gP a4 d all i a o4 must d2 x) ∧
  ((∀ a, a < d.length → d.getD a 0 ≠ x.Player) → dR a4 d all i o4 must d2 x BIG (-1) 0 = gP a4 d all i (-1) o4 must d2 x) := by
 refine ⟨fun a ha he => ?_, fun hno => ?_⟩
 ·have := eF (S := Int) (fun k s at' => dR a4 d all i o4 must d2 x k at' s) d.length (fun s at' => gP a4 d all i (if s ≤ a then (a : Int) else at') o4 must d2 x) (fun _ _ => True) ?_ ?_ BIG (-1) (cC (by omega)) trivial
  ·simpa using this
  ·intro k s at' hs _ ih
   simp only [dR, Int.ofNat_lt, hs, decide_true, cond_true, bS hs, Option.bind_some, bW (show s < 9223372036854775807 by omega), ih _ trivial]
   rw [← aZ hs 0]
   by_cases hsa : s = a
   ·subst hsa
    simp only [he, decide_true, cond_true]
    rw [if_neg (by omega), if_pos (Nat.le_refl s)]
   ·have : d.getD s 0 ≠ x.Player := fun e => hsa (hD.uni hs ha (e.trans he.symm) (by omega))
    simp only [this, decide_false, cond_false]
    by_cases hle : s ≤ a
    ·rw [if_pos hle, if_pos (by omega)]
    ·rw [if_neg hle, if_neg (by omega)]
  ·intro k at' _
   have hlt : decide ((d.length : Int) < (d.length : Int)) = false := decide_eq_false (by omega)
   simp only [dR, hlt, cond_false]
   rw [if_neg (by omega)]
 ·have := eF (S := Int) (fun k s at' => dR a4 d all i o4 must d2 x k at' s) d.length (fun s at' => gP a4 d all i at' o4 must d2 x) (fun _ _ => True) ?_ ?_ BIG (-1) (cC (by omega)) trivial
  ·exact this
  ·intro k s at' hs _ ih
   simp only [dR, Int.ofNat_lt, hs, decide_true, cond_true, bS hs, Option.bind_some, bW (show s < 9223372036854775807 by omega), ih _ trivial]
   rw [← aZ hs 0]
   simp only [hno s hs, decide_false, cond_false]
  ·intro k at' _
   have hlt : decide ((d.length : Int) < (d.length : Int)) = false := decide_eq_false (by omega)
   simp only [dR, hlt, cond_false]
include hR in
theorem aPs (hl : l.length ≤ 1000) : Out t d l (kY l d (aQ.mk [] []) ((List.range t.Rounds.toNat).map (sE t d)) d) := by
 have h5 := ht.r5
 have h32 := ht.len32
 have hlen := hD.len
 have hol := uU l
 unfold kY
 rw [aMm l hl, Option.bind_some]
 refine sP (S := List (List Int)) (fun k i must => eE d (bQ l) d k i (aQ.mk [] []) must) (bQ l).length (Out t d l)
  (fun i must => MustIs t must (iB d (Res ((bQ l).take i))) ∧ (∀ x, Res ((bQ l).take i) x → gs d x) ∧ aCq ((bQ l).take i)) ?_ ?_ BIG 0 _ (cC (by omega)) ?_
 ·intro k i must hi ⟨hM, hg, hN⟩ ih
  have hmt : ∀ x, x ∈ (bQ l).take (i + 1) ↔ x ∈ (bQ l).take i ∨ x = (bQ l)[i] := fun x => by
   rw [List.take_succ_eq_append_getElem hi, List.mem_append, List.mem_singleton]
  have hsub : ∀ x, x ∈ (bQ l).take i → x ∈ l := fun x hx => (lD l x).1 (List.mem_of_mem_take hx)
  simp only [eE, Int.ofNat_lt, hi, decide_true, cond_true, bS hi, Option.bind_some]
  by_cases hk : (bQ l)[i].Kind = 5
  ·simp only [hk, decide_true, cond_true, nD, bW (show i < 9223372036854775807 by omega)]
   have hres : ∀ x, Res ((bQ l).take (i + 1)) x ↔ Res ((bQ l).take i) x := by
    intro x
    unfold Res
    rw [hmt]
    constructor
    ·rintro ⟨h | h, h2⟩
     ·exact ⟨h, h2⟩
     ·exact absurd (h ▸ hk) h2
    ·rintro ⟨h, h2⟩; exact ⟨.inl h, h2⟩
   refine ih must ⟨hM.ext fun m v => ?_, fun x hx => hg x ((hres x).1 hx), fun x hx y hy kx ky => hN x ((hres x).1 ⟨hx, kx⟩).1 y ((hres y).1 ⟨hy, ky⟩).1 kx ky⟩
   simp only [iB, aCy, hres]
  ·have hmi : (bQ l)[i] ∈ l := (lD l _).1 (List.getElem_mem hi)
   have hresx : Res l (bQ l)[i] := ⟨hmi, hk⟩
   have hx := hR _ hresx
   have hxp := hx.p0
   have hxr0 := hx.r0
   have hxr1 := hx.r1
   simp only [hk, decide_false, cond_false]
   have htwo : jB (eE d (bQ l) d k) d (bQ l) i must d (bQ l)[i] BIG 0 (aQ.mk [] []) =
     bif (List.range i).all fun j => !(!decide ((bQ l)[j]?.any (fun y => decide (y.Kind = 5)) = true) && decide ((bQ l)[j]?.any (fun y => decide (y.Round = (bQ l)[i].Round)) = true) && decide ((bQ l)[j]?.any (fun y => decide (y.Place = (bQ l)[i].Place)) = true)) then
      qH (eE d (bQ l) d k) d (bQ l) i (aQ.mk [] []) must d (bQ l)[i] else aBw := by
    refine jO (fun q j => jB (eE d (bQ l) d k) d (bQ l) i must d (bQ l)[i] q j (aQ.mk [] [])) i _ aBw _ ?_ ?_ BIG (cC (by omega))
    ·intro q j hj
     have hj' : j < (bQ l).length := by omega
     simp only [jB, Int.ofNat_lt, hj, decide_true, cond_true, bS hj', Option.bind_some, eJ, bW (show j < 9223372036854775807 by omega), List.getElem?_eq_getElem hj', Option.any_some, decide_eq_true_eq]
     cases (!decide ((bQ l)[j].Kind = 5) && decide ((bQ l)[j].Round = (bQ l)[i].Round) && decide ((bQ l)[j].Place = (bQ l)[i].Place)) <;> rfl
    ·intro q
     have hlt : decide ((i : Int) < (i : Int)) = false := decide_eq_false (by omega)
     simp only [jB, hlt, cond_false]
   rw [htwo]
   cases hall : (List.range i).all fun j => !(!decide ((bQ l)[j]?.any (fun y => decide (y.Kind = 5)) = true) && decide ((bQ l)[j]?.any (fun y => decide (y.Round = (bQ l)[i].Round)) = true) && decide ((bQ l)[j]?.any (fun y => decide (y.Place = (bQ l)[i].Place)) = true)) with
   | false =>
    rw [cond_false]
    refine Out.bad fun hO => ?_
    rw [List.all_eq_false] at hall
    obtain ⟨j, hj, hb⟩ := hall
    simp only [List.mem_range] at hj
    have hj' : j < (bQ l).length := by omega
    rw [Bool.not_eq_true, Bool.not_eq_false'] at hb
    simp only [List.getElem?_eq_getElem hj', Option.any_some, Bool.and_eq_true, Bool.not_eq_true', decide_eq_true_eq, decide_eq_false_iff_not] at hb
    have := hO.two _ ((lD l _).1 (List.getElem_mem hj')) _ hmi hb.1.1 hk hb.1.2 hb.2
    have := (List.getElem_inj (yH l)).1 this
    omega
   | true =>
    rw [cond_true]
    rw [fD] at hall
    have hfresh : ∀ y, y ∈ (bQ l).take i → y.Kind ≠ 5 → ¬ (y.Round = (bQ l)[i].Round ∧ y.Place = (bQ l)[i].Place) := by
     rintro y hy ky ⟨e1, e2⟩
     obtain ⟨j, hj, rfl⟩ := List.mem_take_iff_getElem.1 hy
     have hj' : j < (bQ l).length := by omega
     have := hall j (by omega)
     simp only [List.getElem?_eq_getElem hj', Option.any_some, Bool.not_eq_true', Bool.and_eq_false_iff, Bool.not_eq_false', decide_eq_true_eq, decide_eq_false_iff_not] at this
     rcases this with (h | h) | h
     ·exact ky h
     ·exact h e1
     ·exact h e2
    unfold qH
    have hlast := aRa hD (by omega) hxp (eE d (bQ l) d k) (bQ l) i (aQ.mk [] []) must d
    by_cases hex : ∃ a, a < d.length ∧ d.getD a 0 = (bQ l)[i].Player
    ·obtain ⟨a, ha, he⟩ := hex
     rw [hlast.1 a ha he]
     have er : (bQ l)[i].Round = (((bQ l)[i].Round.toNat : Nat) : Int) := by omega
     have hw : w64 ((bQ l)[i].Round + 1) = (((bQ l)[i].Round.toNat + 1 : Nat) : Int) := by rw [dP (by omega) (by omega)]; omega
     have hu : IntKind.u64.wrap (((bQ l)[i].Round.toNat + 1 : Nat) : Int) = (((bQ l)[i].Round.toNat + 1 : Nat) : Int) := sT (by omega) (by omega)
     have hch : chk (decide (0 ≤ (((bQ l)[i].Round.toNat + 1 : Nat) : Int))) = some () := by unfold chk; rw [decide_eq_true (by omega)]; rfl
     have hmin : min (((bQ l)[i].Round.toNat + 1 : Nat) : Int).toNat 64 = (bQ l)[i].Round.toNat + 1 := by omega
     have hneg : decide ((a : Int) < 0) = false := decide_eq_false (by omega)
     have hcell : cell a (bQ l)[i].Round.toNat = ⟨(bQ l)[i].Round, (bQ l)[i].Place⟩ ↔ ((a / 2 ^ ((bQ l)[i].Round.toNat + 1) : Nat) : Int) = (bQ l)[i].Place := by
      simp only [cell, aD.mk.injEq, ← er, true_and]
     unfold gP
     simp only [hneg, cond_false, hw, hu, hch, hmin, wK, Option.bind_some]
     by_cases hc : ((a / 2 ^ ((bQ l)[i].Round.toNat + 1) : Nat) : Int) = (bQ l)[i].Place
     ·simp only [hc, decide_true, Bool.not_true, cond_false]
      refine aOo ht hD hx ha he _ _ _ _ hM (fun hco must' hM' => ?_) fun hco hO => hco fun m v w h1 h2 => hO.fn m v w ?_ (.inr ⟨_, hresx, a, ha, he, h2⟩)
      ·rw [bW (show i < 9223372036854775807 by omega)]
       have hres : ∀ x, Res ((bQ l).take (i + 1)) x ↔ Res ((bQ l).take i) x ∨ x = (bQ l)[i] := by
        intro x
        unfold Res
        rw [hmt]
        constructor
        ·rintro ⟨h | h, h2⟩
         ·exact .inl ⟨h, h2⟩
         ·exact .inr h
        ·rintro (⟨h, h2⟩ | rfl)
         ·exact ⟨.inl h, h2⟩
         ·exact ⟨.inr rfl, hk⟩
       refine ih must' ⟨hM'.ext fun m v => ?_, fun x hxx => ?_, fun x hxx y hyy kx ky e1 e2 => ?_⟩
       ·constructor
        ·rintro ((h | ⟨y, hy, h⟩) | h)
         ·exact .inl h
         ·exact .inr ⟨y, (hres y).2 (.inl hy), h⟩
         ·exact .inr ⟨_, (hres _).2 (.inr rfl), a, ha, he, h⟩
        ·rintro (h | ⟨y, hy, h⟩)
         ·exact .inl (.inl h)
         ·rcases (hres y).1 hy with hy | rfl
          ·exact .inl (.inr ⟨y, hy, h⟩)
          ·exact .inr ((aCk hD hx ha he m v).1 ⟨_, rfl, h⟩)
       ·rcases (hres x).1 hxx with h | rfl
        ·exact hg x h
        ·exact ⟨a, ha, he, hcell.2 hc⟩
       ·rcases (hres x).1 ⟨hxx, kx⟩ with h | rfl
        ·rcases (hres y).1 ⟨hyy, ky⟩ with h' | rfl
         ·exact hN x h.1 y h'.1 kx ky e1 e2
         ·exact absurd ⟨e1, e2⟩ (hfresh x h.1 kx)
        ·rcases (hres y).1 ⟨hyy, ky⟩ with h' | h'
         ·exact absurd ⟨e1.symm, e2.symm⟩ (hfresh y h'.1 ky)
         ·exact h'.symm
      ·rcases h1 with h1 | ⟨y, hy, h1⟩
       ·exact .inl h1
       ·exact .inr ⟨y, ⟨hsub y hy.1, hy.2⟩, h1⟩
     ·simp only [hc, decide_false, Bool.not_false, cond_true]
      exact Out.bad fun hO => hc (hcell.1 ((aPd hD hx ha he).1 (hO.slot _ hresx)))
    ·rw [hlast.2 fun a ha e => hex ⟨a, ha, e⟩]
     unfold gP
     simp only [show decide ((-1 : Int) < 0) = true by decide, cond_true, Option.bind_some]
     refine Out.bad fun hO => ?_
     obtain ⟨a, ha, e, _⟩ := hO.slot _ hresx
     exact hex ⟨a, ha, e⟩
 ·intro k i must hi ⟨hM, hg, hN⟩
  have hlt : decide ((i : Int) < ((bQ l).length : Int)) = false := decide_eq_false (by omega)
  have hta : (bQ l).take i = bQ l := List.take_of_length_le (by omega)
  rw [hta] at hM hg hN
  have hres : ∀ x, Res (bQ l) x ↔ Res l x := fun x => by unfold Res; rw [lD]
  have hM' : MustIs t must (iB d (Res l)) := hM.ext fun m v => by simp only [iB, aCy, hres]
  simp only [eE, hlt, cond_false, uN]
  refine ⟨fun _ => ⟨must, rfl, hM'⟩, fun hO => absurd ⟨fun x hx y hy => hN x ((lD l x).2 hx) y ((lD l y).2 hy), fun x hx => hg x ((hres x).2 hx), ?_⟩ hO⟩
  intro m v w h1 h2
  have hin : ∀ {v}, iB d (Res l) m v → ∃ r p : Nat, m = ⟨r, p⟩ ∧ r < t.Rounds.toNat ∧ p < bY t r := by
   have h1 := ht.r1
   rintro v (⟨j, hj, hb, rfl, _⟩ | ⟨x, hx, a, ha, he, _, q, hq, rfl⟩)
   ·refine ⟨0, sib j / 2 ^ (0 + 1), rfl, by omega, yQ ht (aCj ht (by omega)) (by omega)⟩
   ·have := (hR x hx).r1
    have := (hR x hx).r0
    exact ⟨q, a / 2 ^ (q + 1), rfl, by omega, yQ ht (by omega) (by omega)⟩
  obtain ⟨r, p, rfl, hr, hp⟩ := hin h1
  exact hM'.func hr hp h1 h2
 ·refine ⟨(aUo ht hD).ext fun m v => ?_, fun x hx => absurd hx.1 (by simp), fun x hx => absurd hx (by simp)⟩
  simp [iB, aCy, Res]
end
theorem aHn {t : aJ} (ht : TreeOK t) {l : List aE} (hs : ∀ s ∈ l, eI t s = true) (hl : l.length ≤ 1000) :
  (∀ d, AGR t l d → ∃ must, fJ t l = some (⟨d, must⟩, true) ∧ MustIs t must (iB d (Res l))) ∧ ((∀ d, ¬ AGR t l d) → fJ t l = aBw) := by
 have h32 := ht.len32
 have hP := aMx hl h32 (sU ht) (aBa hs)
 unfold fJ
 rw [hP, Option.bind_some]
 cases hp : vQ t l with
 | none =>
  have hno : ∀ d, ¬ AGR t l d := fun d h => by have := h.1; unfold fT at this; rw [hp] at this; cases this
  exact ⟨fun d h => absurd h (hno d), fun _ => rfl⟩
 | some q =>
  obtain ⟨d, U⟩ := q
  simp only
  by_cases hU : U.length = (cF l).length
  ·have hpo : fT t l = some d := by unfold fT; rw [hp]; simp [hU]
   have hD := tJ ht hs hpo
   have hO := aPs ht hD (fun s hr => aFb (hs s hr.1) hr.2) hl
   simp only [hU, decide_true, Bool.not_true, cond_false, aRj ht hD]
   refine ⟨fun d' hd' => ?_, fun hno => hO.2 fun h => hno d ⟨hpo, h⟩⟩
   have := hd'.1
   rw [hpo] at this
   cases this
   exact hO.1 hd'.2
  ·have hno : ∀ d, ¬ AGR t l d := fun d h => by have := h.1; unfold fT at this; rw [hp] at this; simp [hU] at this
   simp only [hU, decide_false, Bool.not_false, cond_true]
   exact ⟨fun d h => absurd h (hno d), fun _ => trivial⟩
end Go.Am
end
section
namespace Go.Am
structure Good (t : aJ) (l : List aE) (d : List Int) : Prop where
 tree : qB t = true
 len : l.length ≤ 60
 slips : ∀ s ∈ l, eI t s = true
 agr : AGR t l d
inductive Stat (t : aJ) (l : List aE) : Int → Prop
 | s70 : qB t = false → Stat t l 70
 | s71 : qB t = true → (60 < l.length ∨ ∃ s ∈ l, eI t s = false) → Stat t l 71
 | s72 : qB t = true → l.length ≤ 60 → (∀ s ∈ l, eI t s = true) → (∀ d, ¬ AGR t l d) → Stat t l 72
theorem Stat.ne {t : aJ} {l : List aE} {e : Int} (h : Stat t l e) : decide (e = 0) = false := by cases h <;> rfl
theorem aGp (t : aJ) (l : List aE) : (∃ d, Good t l d) ∨ ∃ e, Stat t l e := by
 cases ht : qB t with
 | false => exact .inr ⟨70, .s70 ht⟩
 | true =>
  by_cases hl : 60 < l.length
  ·exact .inr ⟨71, .s71 ht (.inl hl)⟩
  ·by_cases hs : ∃ s ∈ l, eI t s = false
   ·exact .inr ⟨71, .s71 ht (.inr hs)⟩
   ·have hs' : ∀ s ∈ l, eI t s = true := fun s hm => by
     cases h : eI t s with
     | true => rfl
     | false => exact absurd ⟨s, hm, h⟩ hs
    by_cases hd : ∃ d, AGR t l d
    ·obtain ⟨d, hd⟩ := hd
     exact .inl ⟨d, ht, by omega, hs', hd⟩
    ·exact .inr ⟨72, .s72 ht (by omega) hs' fun d h => hd ⟨d, h⟩⟩
theorem Good.ht {t : aJ} {l : List aE} {d : List Int} (h : Good t l d) : TreeOK t := lY h.tree
theorem Good.dok {t : aJ} {l : List aE} {d : List Int} (h : Good t l d) : DOK t d := tJ h.ht h.slips h.agr.1
theorem Good.uniq {t : aJ} {l : List aE} {d d' : List Int} (h : Good t l d) (h' : Good t l d') : d = d' := by
 have := h.agr.1
 rw [h'.agr.1] at this
 exact (Option.some.inj this).symm
theorem aKr {t : aJ} {l : List aE} {e : Int} (h : Stat t l e) {Q : (Option aX × Int) → Prop} (hq : Q (none, e)) : kV t l Q := by
 unfold kV
 refine ⟨_, aHw t, ?_⟩
 cases h with
 | s70 ht => simp only [ht, Bool.not_false, cond_true]; exact hq
 | s71 ht hs =>
  simp only [ht, Bool.not_true, cond_false]
  by_cases hl : 60 < l.length
  ·have : decide (60 < (l.length : Int)) = true := decide_eq_true (by omega)
   simp only [this, cond_true]
   exact ⟨_, rfl, hq⟩
  ·have : decide (60 < (l.length : Int)) = false := decide_eq_false (by omega)
   simp only [this, cond_false]
   rw [oK l (by omega) _ (fun s => !eI t s) fun x _ => by simp [mE, aBm (lY ht)]]
   refine ⟨_, rfl, ?_⟩
   have : (l.any fun s => !eI t s) = true := by
    rcases hs with h | ⟨s, h1, h2⟩
    ·exact absurd h hl
    ·rw [List.any_eq_true]; exact ⟨s, h1, by rw [h2]; rfl⟩
   simp only [this, cond_true]; exact hq
 | s72 ht hl hs hno =>
  have : decide (60 < (l.length : Int)) = false := decide_eq_false (by omega)
  simp only [ht, Bool.not_true, cond_false, this]
  rw [oK l (by omega) _ (fun s => !eI t s) fun x _ => by simp [mE, aBm (lY ht)]]
  refine ⟨_, rfl, ?_⟩
  have : (l.any fun s => !eI t s) = false := by
   rw [List.any_eq_false]; intro s hm; rw [hs s hm]; simp
  simp only [this, cond_false]
  exact aFc (lY ht) hs (by omega) (fun d hd => absurd hd (hno d)) fun _ => hq
theorem aIc {t : aJ} {l : List aE} {d : List Int} (h : Good t l d) {Q : (Option aX × Int) → Prop} (hq : ∀ won, WonIs won (iB d (Res l)) → Q (some ⟨t, d, won⟩, 0)) : kV t l Q := by
 unfold kV
 have hl := h.len
 have : decide (60 < (l.length : Int)) = false := decide_eq_false (by omega)
 refine ⟨_, aHw t, ?_⟩
 simp only [h.tree, Bool.not_true, cond_false, this]
 rw [oK l (by omega) _ (fun s => !eI t s) fun x _ => by simp [mE, aBm h.ht]]
 refine ⟨_, rfl, ?_⟩
 have : (l.any fun s => !eI t s) = false := by
  rw [List.any_eq_false]; intro s hm; rw [h.slips s hm]; simp
 simp only [this, cond_false]
 refine aFc h.ht h.slips (by omega) (fun d' hd won hW => ?_) fun hno => absurd h.agr (hno d)
 have := h.uniq ⟨h.tree, h.len, h.slips, hd⟩
 subst this
 exact hq won hW
theorem xW {t : aJ} (ht : TreeOK t) {l : List aE} (hl : l.length ≤ 60) : iJ l t BIG 0 = bif l.all (eI t) then kJ l t else some 71 := by
 have := jO (fun k i => iJ l t k i) l.length (fun i => l[i]?.any (eI t)) (some 71) (kJ l t) ?_ ?_ BIG (cC (by omega))
 ·rw [this]
  have e : (List.range l.length).all (fun i => l[i]?.any (eI t)) = l.all (eI t) := by
   rw [Bool.eq_iff_iff, fD, List.all_eq_true]
   constructor
   ·intro h x hx
    obtain ⟨i, hi, rfl⟩ := List.mem_iff_getElem.1 hx
    have := h i hi
    rwa [List.getElem?_eq_getElem hi] at this
   ·intro h i hi
    rw [List.getElem?_eq_getElem hi]
    exact h _ (List.getElem_mem hi)
  rw [e]
 ·intro k i hi
  simp only [iJ, Int.ofNat_lt, hi, decide_true, cond_true, bS hi, Option.bind_some, aNh ht, bW (show i < 9223372036854775807 by omega), List.getElem?_eq_getElem hi, Option.any_some]
  cases eI t l[i] <;> rfl
 ·intro k
  have hlt : decide ((l.length : Int) < (l.length : Int)) = false := decide_eq_false (by omega)
  simp only [iJ, hlt, cond_false]
theorem aHh {t : aJ} {l : List aE} {e : Int} (h : Stat t l e) : kM t l = some e := by
 unfold kM
 rw [aHi, Option.bind_some]
 cases h with
 | s70 ht => simp only [ht, Bool.not_false, cond_true]
 | s71 ht hs =>
  simp only [ht, Bool.not_true, cond_false]
  by_cases hl : 60 < l.length
  ·have : decide (60 < (l.length : Int)) = true := decide_eq_true (by omega)
   simp only [this, cond_true]
  ·have : decide (60 < (l.length : Int)) = false := decide_eq_false (by omega)
   have h2 : l.all (eI t) = false := by
    rcases hs with h | ⟨s, h1, h2⟩
    ·exact absurd h hl
    ·rw [List.all_eq_false]; exact ⟨s, h1, by simp [h2]⟩
   simp only [this, cond_false, xW (lY ht) (show l.length ≤ 60 by omega), h2]
 | s72 ht hl hs hno =>
  have : decide (60 < (l.length : Int)) = false := decide_eq_false (by omega)
  have h2 : l.all (eI t) = true := by rw [List.all_eq_true]; exact hs
  simp only [ht, Bool.not_true, cond_false, this, xW (lY ht) hl, h2, cond_true, kJ, (aHn (lY ht) hs (by omega)).2 hno, Option.bind_some, Bool.not_false]
theorem xF {t : aJ} {l : List aE} {d : List Int} (h : Good t l d) : ∃ must, fJ t l = some (⟨d, must⟩, true) ∧ MustIs t must (iB d (Res l)) :=
 (aHn h.ht h.slips (by have := h.len; omega)).1 d h.agr
theorem aEy {t : aJ} {l : List aE} {d : List Int} (h : Good t l d) : kM t l = some 0 := by
 have hl := h.len
 have : decide (60 < (l.length : Int)) = false := decide_eq_false (by omega)
 have h2 : l.all (eI t) = true := by rw [List.all_eq_true]; exact h.slips
 obtain ⟨must, hd, _⟩ := xF h
 unfold kM
 rw [aHi, Option.bind_some]
 simp only [h.tree, Bool.not_true, cond_false, this, xW h.ht hl, h2, cond_true, kJ, hd, Option.bind_some]
theorem aKj {t : aJ} {won : List (aD × Int)} {must : List (List Int)} {P : lK} (hW : WonIs won P) (hM : MustIs t must P) {r p : Nat} (hr : r < t.Rounds.toNat) (hp : p < bY t r) :
  cX (⟨r, p⟩ : aD) won = !decide (mat must r p = -2) := by
 rw [Bool.eq_iff_iff, hW.has, Bool.not_eq_true', decide_eq_false_iff_not]
 constructor
 ·rintro ⟨v, hv⟩
  have := (hM.mem r p v hr hp).2 hv
  rw [this.1]; exact this.2
 ·exact fun h => ⟨_, (hM.mem r p _ hr hp).1 ⟨rfl, h⟩⟩
theorem aKi {t : aJ} {won : List (aD × Int)} {must : List (List Int)} {P : lK} (hW : WonIs won P) (hM : MustIs t must P) {r p : Nat} (hr : r < t.Rounds.toNat) (hp : p < bY t r) (h : mat must r p ≠ -2) (z : Int) :
  cG (⟨r, p⟩ : aD) z won = mat must r p := hW.get ((hM.mem r p _ hr hp).1 ⟨rfl, h⟩)
theorem aSs {t : aJ} {must : List (List Int)} {P : lK} (hM : MustIs t must P) {r p : Nat} (hr : r < t.Rounds.toNat) (hp : p < bY t r) : ((idx must (r : Int)).bind fun x => idx x (p : Int)) = some (mat must r p) := by
 have hl := hM.len
 have hrow := hM.row r hr
 have hrl : r < must.length := by omega
 rw [bS hrl, Option.bind_some]
 unfold mat
 rw [aZ hrl] at hrow ⊢
 have hp' : p < must[r].length := by omega
 rw [bS hp', aZ hp']
theorem aDn {t : aJ} {r : Nat} (hr : r + 1 < t.Rounds.toNat) : bY t r = 2 * bY t ((r + 1 : Nat) : Int) := by
 unfold bY
 have e : t.Rounds.toNat - 1 - ((r : Nat) : Int).toNat = (t.Rounds.toNat - 1 - ((r + 1 : Nat) : Int).toNat) + 1 := by omega
 rw [e, Nat.pow_succ]; omega
def nW (d : List Int) (must : List (List Int)) (r at' : Nat) : Int := if r = 0 then d.getD at' 0 else mat must (r - 1) at'
section
variable {t : aJ} (ht : TreeOK t) {d : List Int} (hD : DOK t d) {must : List (List Int)} {P : lK} (hM : MustIs t must P) {won : List (aD × Int)} (hW : WonIs won P)
include ht hD hM
theorem aPe {r p s : Nat} (hr : r < t.Rounds.toNat) (hp : p < bY t r) (hs : s < 2) : rM ⟨d, must⟩ r p s = some (nW d must r (2 * p + s)) := by
 have hpl := nL ht (r := (r : Int))
 have h5 := ht.r5
 have w1 : w64 (2 * (p : Int)) = ((2 * p : Nat) : Int) := by rw [dP (by omega) (by omega)]; omega
 have w2 : w64 (((2 * p : Nat) : Int) + (s : Int)) = ((2 * p + s : Nat) : Int) := by rw [dP (by omega) (by omega)]; omega
 unfold rM nW
 simp only [w1, w2]
 by_cases h0 : r = 0
 ·subst h0
  have hp0 := aCx ht
  have hlen := hD.len
  have hpl2 : p < bY t 0 := hp
  have hi : 2 * p + s < d.length := by omega
  simp only [Int.natCast_zero, decide_true, cond_true, bS hi, Option.bind_some, if_true, aZ hi]
 ·have hr0 : decide ((r : Int) = 0) = false := decide_eq_false (by omega)
  have hw : w64 ((r : Int) - 1) = ((r - 1 : Nat) : Int) := aEv (by omega) (by omega)
  have hph := aDn (t := t) (r := r - 1) (by omega)
  have e : r - 1 + 1 = r := by omega
  rw [e] at hph
  have := aSs hM (r := r - 1) (p := 2 * p + s) (by omega) (by omega)
  simp only [hr0, cond_false, hw, if_neg h0]
  rw [← this]
  congr 1
  funext x
  cases idx x ((2 * p + s : Nat) : Int) <;> rfl
include hW
theorem aMr {r p s : Nat} (hr : r < t.Rounds.toNat) (hp : p < bY t r) (hs : s < 2) : jX ⟨t, d, won⟩ ⟨r, p⟩ s = some (nW d must r (2 * p + s)) := by
 have hpl := nL ht (r := (r : Int))
 have h5 := ht.r5
 have w1 : w64 (2 * (p : Int)) = ((2 * p : Nat) : Int) := by rw [dP (by omega) (by omega)]; omega
 have w2 : w64 (((2 * p : Nat) : Int) + (s : Int)) = ((2 * p + s : Nat) : Int) := by rw [dP (by omega) (by omega)]; omega
 unfold jX nW
 simp only [w1, w2]
 by_cases h0 : r = 0
 ·subst h0
  have hp0 := aCx ht
  have hlen := hD.len
  have hpl2 : p < bY t 0 := hp
  have hi : 2 * p + s < d.length := by omega
  simp only [Int.natCast_zero, decide_true, cond_true, bS hi, Option.bind_some, if_true, aZ hi]
 ·have hr0 : decide ((r : Int) = 0) = false := decide_eq_false (by omega)
  have hw : w64 ((r : Int) - 1) = ((r - 1 : Nat) : Int) := aEv (by omega) (by omega)
  have hph := aDn (t := t) (r := r - 1) (by omega)
  have e : r - 1 + 1 = r := by omega
  rw [e] at hph
  simp only [hr0, cond_false, hw, if_neg h0]
  have h1 : r - 1 < t.Rounds.toNat := by omega
  have h2 : 2 * p + s < bY t ((r - 1 : Nat) : Int) := by omega
  rw [aKj hW hM h1 h2]
  by_cases hm : mat must (r - 1) (2 * p + s) = -2
  ·simp only [hm, decide_true, Bool.not_true, cond_false]
  ·simp only [hm, decide_false, Bool.not_false, cond_true, aKi hW hM h1 h2 hm]
omit ht hD hM hW
def gG (t : aJ) (d : List Int) (must : List (List Int)) (r : Nat) : List bX := (List.range (bY t r)).map fun p : Nat => ⟨r, p, nW d must r (2 * p), nW d must r (2 * p + 1)⟩
def iW (t : aJ) (d : List Int) (must : List (List Int)) : List bX := (List.range t.Rounds.toNat).flatMap (gG t d must)
theorem zE {α : Type} (f : Nat → List α) (n : Nat) : (List.range (n + 1)).flatMap f = (List.range n).flatMap f ++ f n := by
 rw [List.range_succ, List.flatMap_append]; simp
include ht
theorem aQi (r : Nat) : (gG t d must r).length ≤ 16 := by
 have := nL ht (r := (r : Int))
 simpa [gG] using this
theorem aBd : ∀ r, ((List.range r).flatMap (gG t d must)).length ≤ 16 * r
 | 0 => by simp
 | r + 1 => by
  have h1 := aBd r
  have h2 := aQi ht (d := d) (must := must) r
  rw [zE, List.length_append]; omega
include hD hM
theorem aOl : rX t ⟨d, must⟩ = some (iW t d must) := by
 have h1 := ht.r1
 have h5 := ht.r5
 unfold rX
 have := eF (S := List bX) (fun k r out => eL t ⟨d, must⟩ k r out) t.Rounds.toNat (fun _ _ => some (iW t d must)) (fun r out => out = (List.range r).flatMap (gG t d must)) ?_ ?_ BIG [] (cC (by omega)) (by simp)
 ·exact this
 ·rintro k r out hr rfl ih
  have hfl := aBd ht (d := d) (must := must) r
  have hpl := nL ht (r := (r : Int))
  have hlt : decide ((r : Int) < t.Rounds) = true := decide_eq_true (by omega)
  have hin : iK (eL t ⟨d, must⟩ k) r t ⟨d, must⟩ BIG 0 ((List.range r).flatMap (gG t d must)) = mP (eL t ⟨d, must⟩ k) r t ⟨d, must⟩ ((List.range r).flatMap (gG t d must) ++ gG t d must r) := by
   have hP := aBb ht (r := (r : Int)) (by omega) (by omega)
   refine eF (S := List bX) (fun q p out => iK (eL t ⟨d, must⟩ k) r t ⟨d, must⟩ q p out) (bY t r) (fun _ _ => mP (eL t ⟨d, must⟩ k) r t ⟨d, must⟩ ((List.range r).flatMap (gG t d must) ++ gG t d must r))
    (fun p out => out = (List.range r).flatMap (gG t d must) ++ (List.range p).map fun p : Nat => (⟨r, p, nW d must r (2 * p), nW d must r (2 * p + 1)⟩ : bX)) ?_ ?_ BIG _ (cC (by omega)) (by simp)
   ·rintro q p out hp rfl ih2
    simp only [iK, hP, Option.bind_some, Int.ofNat_lt, hp, decide_true, cond_true, bW (show p < 9223372036854775807 by omega)]
    have e0 := aPe ht hD hM hr hp (s := 0) (by omega)
    have e1 := aPe ht hD hM hr hp (s := 1) (by omega)
    simp only [Int.natCast_zero, Int.natCast_one, Nat.add_zero] at e0 e1
    rw [e0, Option.bind_some, e1, Option.bind_some, gZ (by simp only [List.length_append, List.length_map, List.length_range, List.length_cons, List.length_nil]; omega), Option.bind_some]
    refine ih2 _ ?_
    rw [List.range_succ, List.map_append, List.append_assoc]; rfl
   ·rintro q out rfl
    have hlt : decide ((bY t r : Int) < (bY t r : Int)) = false := decide_eq_false (by omega)
    simp only [iK, hP, Option.bind_some, hlt, cond_false, gG]
  simp only [eL, hlt, cond_true, hin, mP, tX, bW (show r < 9223372036854775807 by omega)]
  exact ih _ (zE _ _).symm
 ·rintro k out rfl
  have hlt : decide (((t.Rounds.toNat : Nat) : Int) < t.Rounds) = false := decide_eq_false (by omega)
  simp only [eL, hlt, cond_false, tW]
  rfl
include hW
theorem aNk {S : Type} (y : S → aD → bX → Option S) (f : List bX → S) (good : List bX → Prop)
  (hy : ∀ (out : List bX) (r p : Nat), r < t.Rounds.toNat → p < bY t r → out.length ≤ 200 → y (f out) ⟨r, p⟩ ⟨r, p, nW d must r (2 * p), nW d must r (2 * p + 1)⟩ = some (f (out ++ [⟨r, p, nW d must r (2 * p), nW d must r (2 * p + 1)⟩]))) :
  jI ⟨t, d, won⟩ y (f []) = some (f (iW t d must)) := by
 have h1 := ht.r1
 have h5 := ht.r5
 unfold jI
 have := eF (S := S) (fun k r out => cM y ⟨t, d, won⟩ t.Rounds k r out) t.Rounds.toNat (fun _ _ => some (f (iW t d must))) (fun r out => out = f ((List.range r).flatMap (gG t d must))) ?_ ?_ BIG (f []) (cC (by omega)) (by simp)
 ·exact this
 ·rintro k r out hr rfl ih
  have hfl := aBd ht (d := d) (must := must) r
  have hpl := nL ht (r := (r : Int))
  have hlt : decide ((r : Int) < t.Rounds) = true := decide_eq_true (by omega)
  have hch : chk (decide (0 ≤ w64 ((r : Int) + 1))) = some () := by
   rw [bW (by omega)]; unfold chk; rw [decide_eq_true (by omega)]; rfl
  have hin : dX y (cM y ⟨t, d, won⟩ t.Rounds k) ⟨t, d, won⟩ r t.Rounds r (bY t r) BIG 0 (f ((List.range r).flatMap (gG t d must))) =
    hZ y (cM y ⟨t, d, won⟩ t.Rounds k) ⟨t, d, won⟩ t.Rounds r (f ((List.range r).flatMap (gG t d must) ++ gG t d must r)) := by
   refine eF (S := S) (fun q p out => dX y (cM y ⟨t, d, won⟩ t.Rounds k) ⟨t, d, won⟩ r t.Rounds r (bY t r) q p out) (bY t r) (fun _ _ => hZ y (cM y ⟨t, d, won⟩ t.Rounds k) ⟨t, d, won⟩ t.Rounds r (f ((List.range r).flatMap (gG t d must) ++ gG t d must r)))
    (fun p out => out = f ((List.range r).flatMap (gG t d must) ++ (List.range p).map fun p : Nat => (⟨r, p, nW d must r (2 * p), nW d must r (2 * p + 1)⟩ : bX))) ?_ ?_ BIG _ (cC (by omega)) (by simp)
   ·rintro q p out hp rfl ih2
    have e0 := aMr ht hD hM hW hr hp (s := 0) (by omega)
    have e1 := aMr ht hD hM hW hr hp (s := 1) (by omega)
    simp only [Int.natCast_zero, Int.natCast_one, Nat.add_zero] at e0 e1
    simp only [dX, Int.ofNat_lt, hp, decide_true, cond_true, bW (show p < 9223372036854775807 by omega), e0, e1, Option.bind_some]
    rw [hy _ r p hr hp (by simp only [List.length_append, List.length_map, List.length_range, List.length_cons, List.length_nil]; omega), Option.bind_some]
    refine ih2 _ ?_
    rw [List.range_succ, List.map_append, List.append_assoc]; rfl
   ·rintro q out rfl
    have hlt : decide ((bY t r : Int) < (bY t r : Int)) = false := decide_eq_false (by omega)
    simp only [dX, hlt, cond_false, gG]
  simp only [cM, hlt, cond_true, hch, Option.bind_some, aMq ht (r := (r : Int)) (by omega) (by omega), hin, hZ, mS]
  rw [bW (show r < 9223372036854775807 by omega)]
  exact ih _ (congrArg f (zE _ _)).symm
 ·rintro k out rfl
  have hlt : decide (((t.Rounds.toNat : Nat) : Int) < t.Rounds) = false := decide_eq_false (by omega)
  simp only [cM, hlt, cond_false, mR]
  rfl
end
theorem aEx {t : aJ} {l : List aE} {d : List Int} (h : Good t l d) {must : List (List Int)} (hd : fJ t l = some (⟨d, must⟩, true)) (hM : MustIs t must (iB d (Res l))) : kL t l = some (iW t d must, 0) := by
 unfold kL
 rw [aEy h, Option.bind_some]
 simp only [decide_true, Bool.not_true, cond_false, hd, Option.bind_some, aOl h.ht h.dok hM]
theorem aOh {t : aJ} {l : List aE} {e : Int} (h : Stat t l e) : kL t l = some ([], e) := by
 unfold kL
 rw [aHh h, Option.bind_some]
 simp only [h.ne, Bool.not_false, cond_true]
theorem aOi (t : aJ) (l : List aE) {r : List bX × Int} (h : kL t l = some r) (Q : List bX × Int → Prop) (hq : Q r) : pC t l Q := by
 unfold pC
 rcases aGp t l with ⟨d, hg⟩ | ⟨e, he⟩
 ·obtain ⟨must, hd, hM⟩ := xF hg
  rw [aEx hg hd hM] at h; cases h
  refine aIc hg fun won hW => ?_
  simp only [decide_true, Bool.not_true, cond_false]
  refine ⟨_, rfl, _, ?_, hq⟩
  refine aNk hg.ht hg.dok hM hW _ (fun x => x) (fun _ => True) fun out r p hr hp hl => ?_
  rw [gZ (by simp; omega)]; rfl
 ·rw [aOh he] at h; cases h
  refine aKr he ?_
  simp only [he.ne, Bool.not_false, cond_true]
  exact hq
theorem aTs {t : aJ} {l : List aE} {e : Int} (h : Stat t l e) {r p : Int} {Q : (Option aX × aD × Int) → Prop} (hq : Q (none, ⟨r, p⟩, e)) : oN t l r p Q := by
 unfold oN
 refine aKr h ?_
 simp only [h.ne, cond_false]
 exact ⟨_, rfl, hq⟩
theorem aSm {t : aJ} {l : List aE} {d : List Int} (h : Good t l d) {r p : Int} {Q : (Option aX × aD × Int) → Prop} (hq : ∀ won, WonIs won (iB d (Res l)) → Q (some ⟨t, d, won⟩, ⟨r, p⟩, bif iN t r p then 0 else 1)) : oN t l r p Q := by
 unfold oN
 refine aIc h fun won hW => ?_
 have := hq won hW
 simp only [decide_true, cond_true, aSa h.ht, Option.bind_some]
 refine ⟨_, rfl, ?_⟩
 cases hm : iN t r p with
 | true => rw [hm] at this; exact this
 | false => rw [hm] at this; exact this
theorem aGt {t : aJ} {l : List aE} {e : Int} (h : Stat t l e) (r p : Int) : iZ t l r p = some e := by
 unfold iZ
 rw [aHh h, Option.bind_some]
 simp only [h.ne, Bool.not_false, cond_true]
theorem xD {t : aJ} {l : List aE} {d : List Int} (h : Good t l d) (r p : Int) : iZ t l r p = some (bif iN t r p then 0 else 1) := by
 unfold iZ
 rw [aEy h, Option.bind_some]
 simp only [decide_true, Bool.not_true, cond_false, aEz h.ht, Option.bind_some]
 cases iN t r p <;> rfl
theorem aGa {t : aJ} {r p : Int} (h : iN t r p = true) : ∃ r' p' : Nat, r = r' ∧ p = p' ∧ r' < t.Rounds.toNat ∧ p' < bY t r' := by
 simp only [iN, Bool.and_eq_true, fU] at h
 refine ⟨r.toNat, p.toNat, by omega, by omega, by omega, ?_⟩
 have e : ((r.toNat : Nat) : Int) = r := by omega
 rw [e]; omega
end Go.Am
end
section
namespace Go.Am
structure HB (S ever : List Int) (U : List aE) : Prop where
 se : ∀ x ∈ S, x ∈ ever
 ue : ∀ u ∈ U, u.Player ∈ ever
 us : ∀ u ∈ U, u.Player ∉ S
 uu : ∀ u ∈ U, ∀ v ∈ U, u.Player = v.Player → u = v
def aJk (S : List Int) (U : List aE) (i : Nat) (x : Int) : Prop := x = S.getD i 0 ∨ ∃ u ∈ U, u.Place = (i : Int) ∧ u.Player = x
theorem HB.next {S ever : List Int} {U : List aE} (h : HB S ever U) {s : aE} (hp : s.Player ∉ ever) : HB S (ever ++ [s.Player]) (U ++ [s]) := by
 refine ⟨fun x hx => List.mem_append_left _ (h.se x hx), fun u hu => ?_, fun u hu => ?_, fun u hu v hv e => ?_⟩
 ·rcases List.mem_append.1 hu with hu | hu
  ·exact List.mem_append_left _ (h.ue u hu)
  ·simp at hu; subst hu; simp
 ·rcases List.mem_append.1 hu with hu | hu
  ·exact h.us u hu
  ·simp at hu; subst hu; exact fun hs => hp (h.se _ hs)
 ·rcases List.mem_append.1 hu with hu | hu
  ·rcases List.mem_append.1 hv with hv | hv
   ·exact h.uu u hu v hv e
   ·simp at hv; subst hv; exact absurd (e ▸ h.ue _ ‹u ∈ U›) hp
  ·simp at hu; subst hu
   rcases List.mem_append.1 hv with hv | hv
   ·exact absurd (e ▸ h.ue v hv) hp
   ·simp at hv; exact hv.symm
theorem aGo {L : List aE} {S : List Int} {i : Nat} : ∀ {n : Nat} {now : Int} {ever : List Int} {U : List aE} {now' : Int} {ever' : List Int} {U' : List aE},
  HB S ever U → aJk S U i now → cY L i n now ever U = some (now', ever', U') → HB S ever' U' ∧ aJk S U' i now' ∧ (∀ u ∈ U, u ∈ U')
 | 0, _, _, _, _, _, _, _, _, h => by simp [cY] at h
 | n + 1, now, ever, U, now', ever', U', hB, hH, h => by
  unfold cY at h
  cases hc : dA L i now with
  | nil =>
   rw [hc] at h
   simp only [Option.some.injEq, Prod.mk.injEq] at h
   obtain ⟨rfl, rfl, rfl⟩ := h
   exact ⟨hB, hH, fun u hu => hu⟩
  | cons s cs =>
   cases cs with
   | cons s2 cs => simp [hc] at h
   | nil =>
    have hs : s ∈ dA L i now := by rw [hc]; simp
    obtain ⟨m1, m2, m3⟩ := jZ.1 hs
    rw [hc] at h
    by_cases hp : s.Player ∈ ever
    ·simp [hp] at h
    ·simp only [hp, if_false] at h
     obtain ⟨r1, r2, r3⟩ := aGo (hB.next hp) (.inr ⟨s, by simp, m2, rfl⟩) h
     exact ⟨r1, r2, fun u hu => r3 u (List.mem_append_left _ hu)⟩
theorem aGg {L : List aE} {S : List Int} : ∀ {n i : Nat} {d ever : List Int} {U : List aE} {d' : List Int} {U' : List aE}, i + n ≤ d.length → HB S ever U → (∀ j, j < d.length → aJk S U j (d.getD j 0)) →
  dU L n i d ever U = some (d', U') → ∃ ever', HB S ever' U' ∧ (∀ j, j < d'.length → aJk S U' j (d'.getD j 0))
 | 0, i, d, ever, U, d', U', hn, hB, hH, he => by
  simp only [dU, Option.some.injEq, Prod.mk.injEq] at he
  obtain ⟨rfl, rfl⟩ := he
  exact ⟨ever, hB, hH⟩
 | n + 1, i, d, ever, U, d', U', hn, hB, hH, he => by
  unfold dU at he
  have hid : i < d.length := by omega
  cases hs : cY L i (L.length + 1) (d.getD i 0) ever U with
  | none => rw [hs] at he; simp at he
  | some q =>
   obtain ⟨now', ever', U1⟩ := q
   rw [hs] at he
   obtain ⟨r1, r2, r3⟩ := aGo hB (hH i hid) hs
   refine aGg (by rw [List.length_set]; omega) r1 (fun j hj => ?_) he
   rw [List.length_set] at hj
   rw [iF hid]
   split
   ·rename_i e; subst e; exact r2
   ·rcases hH j hj with h | ⟨u, hu, h⟩
    ·exact .inl h
    ·exact .inr ⟨u, r3 u hu, h⟩
structure HD (t : aJ) (l : List aE) (d : List Int) : Prop where
 us : ∀ u ∈ cF l, u.Player ∉ t.Slots
 uu : ∀ u ∈ cF l, ∀ v ∈ cF l, u.Player = v.Player → u = v
 home : ∀ j, j < d.length → aJk t.Slots (cF l) j (d.getD j 0)
theorem aLx {t : aJ} (ht : TreeOK t) {l : List aE} (hs : ∀ s ∈ l, eI t s = true) {d : List Int} (h : fT t l = some d) : HD t l d := by
 unfold fT at h
 split at h
 ·rename_i d' U hr
  split at h
  ·rename_i hU
   cases h
   have hL := aBa hs
   obtain ⟨ever, hI⟩ := vP hL (wG (cF l) (sU ht)) (by omega) hr
   have hall : ∀ u, u ∈ U ↔ u ∈ cF l := fun u => by
    refine ⟨hI.us u, fun hu => Classical.byContradiction fun hn => ?_⟩
    have := lM (l := u :: U) (m := cF l) (List.nodup_cons.2 ⟨hn, hI.un⟩) fun x hx => by
     rcases List.mem_cons.1 hx with rfl | hx
     ·exact hu
     ·exact hI.us x hx
    simp only [List.length_cons] at this
    omega
   obtain ⟨ever', hB, hH⟩ := aGg (S := t.Slots) (by omega) ⟨fun x hx => hx, by simp, by simp, by simp⟩ (fun j _ => .inl rfl) hr
   refine ⟨fun u hu => hB.us u ((hall u).2 hu), fun u hu v hv => hB.uu u ((hall u).2 hu) v ((hall v).2 hv), fun j hj => ?_⟩
   rcases hH j hj with h | ⟨u, hu, h⟩
   ·exact .inl h
   ·exact .inr ⟨u, (hall u).1 hu, h⟩
  ·cases h
 ·cases h
theorem HD.same {t : aJ} (ht : TreeOK t) {l l' : List aE} {d d' : List Int} (h : HD t l d) (h' : HD t l' d') (hl : d.length = t.Slots.length) (hl' : d'.length = t.Slots.length) (hsub : ∀ s ∈ l', s ∈ l) {a b : Nat} (ha : a < d'.length) (hb : b < d.length)
  (e : d'.getD a 0 = d.getD b 0) (hn : d.getD b 0 ≠ -1) : a = b := by
 have hL : ∀ u ∈ cF l', u ∈ cF l := fun u hu => by
  simp only [cF, List.mem_filter, lD] at hu ⊢
  exact ⟨hsub u hu.1, hu.2⟩
 have hSm : ∀ j, j < t.Slots.length → t.Slots.getD j 0 ∈ t.Slots := fun j hj => zS hj
 rcases h'.home a ha with e1 | ⟨u, hu, e1, e2⟩
 ·rcases h.home b hb with e3 | ⟨v, hv, e3, e4⟩
  ·have hab : t.Slots.getD a 0 = t.Slots.getD b 0 := by rw [← e1, ← e3, e]
   have ha' : a < t.Slots.length := hl' ▸ ha
   have hb' : b < t.Slots.length := hl ▸ hb
   rw [aZ ha', aZ hb'] at hab
   rw [e3, aZ hb'] at hn
   rcases Nat.lt_trichotomy a b with hlt | rfl | hlt
   ·exact absurd (ht.dup b hb' a hlt hab) hn
   ·rfl
   ·exact absurd (hab ▸ ht.dup a ha' b hlt hab.symm) hn
  ·exact absurd (by rw [e4, ← e, e1]; exact hSm a (hl' ▸ ha)) (h.us v hv)
 ·rcases h.home b hb with e3 | ⟨v, hv, e3, e4⟩
  ·exact absurd (by rw [e2, e, e3]; exact hSm b (hl ▸ hb)) (h.us u (hL u hu))
  ·have := h.uu u (hL u hu) v hv (by rw [e2, e4, e])
   subst this
   omega
theorem Good.home {t : aJ} {l : List aE} {d : List Int} (h : Good t l d) : HD t l d := aLx h.ht h.slips h.agr.1
end Go.Am
end
section
namespace Go.Am
theorem aUd {α : Type} {l l' : List α} (hn : l.Nodup) (hn' : l'.Nodup) (h : ∀ x, x ∈ l ↔ x ∈ l') : (l = [] ↔ l' = []) ∧ (∀ x, l = [x] ↔ l' = [x]) := by
 have key : ∀ {l l' : List α}, l.Nodup → l'.Nodup → (∀ x, x ∈ l ↔ x ∈ l') → (l = [] → l' = []) ∧ ∀ x, l = [x] → l' = [x] := by
  intro l l' hn hn' h
  refine ⟨fun e => ?_, fun x e => ?_⟩
  ·subst e
   cases l' with
   | nil => rfl
   | cons a l' => exact absurd ((h a).2 (by simp)) (by simp)
  ·subst e
   cases l' with
   | nil => exact absurd ((h x).1 (by simp)) (by simp)
   | cons a l' =>
    have ha : a = x := by simpa using (h a).2 (by simp)
    subst ha
    cases l' with
    | nil => rfl
    | cons b l' =>
     have hb : b = a := by simpa using (h b).2 (by simp)
     subst hb
     simp at hn'
 exact ⟨⟨(key hn hn' h).1, (key hn' hn fun x => (h x).symm).1⟩, fun x => ⟨(key hn hn' h).2 x, (key hn' hn fun x => (h x).symm).2 x⟩⟩
theorem aOz {α : Type} [DecidableEq α] {l l' : List α} (hn : l.Nodup) (hn' : l'.Nodup) (h : ∀ x, x ∈ l ↔ x ∈ l') : l.length = l'.length :=
 Nat.le_antisymm (lM hn fun x hx => (h x).1 hx) (lM hn' fun x hx => (h x).2 hx)
theorem aIi {L L' : List aE} (hn : L.Nodup) (hn' : L'.Nodup) (h : ∀ x, x ∈ L ↔ x ∈ L') (i : Int) : ∀ (n : Nat) (now : Int) (ever : List Int) (U : List aE), cY L i n now ever U = cY L' i n now ever U
 | 0, _, _, _ => rfl
 | n + 1, now, ever, U => by
  have hc := aUd (l := dA L i now) (l' := dA L' i now) (hn.filter _) (hn'.filter _) fun x => by simp only [jZ, h]
  unfold cY
  cases e : dA L i now with
  | nil => rw [hc.1.1 e]
  | cons s cs =>
   cases cs with
   | nil =>
    rw [(hc.2 s).1 e]
    simp only
    rw [aIi hn hn' h i n]
   | cons s2 cs =>
    cases e' : dA L' i now with
    | nil => rw [hc.1.2 e'] at e; cases e
    | cons s' cs' =>
     cases cs' with
     | nil => rw [(hc.2 s').2 e'] at e; cases e
     | cons s2' cs' => rfl
theorem aIf {L L' : List aE} (hn : L.Nodup) (hn' : L'.Nodup) (h : ∀ x, x ∈ L ↔ x ∈ L') : ∀ (n i : Nat) (d ever : List Int) (U : List aE), dU L n i d ever U = dU L' n i d ever U
 | 0, _, _, _, _ => rfl
 | n + 1, i, d, ever, U => by
  unfold dU
  rw [aIi hn hn' h, aOz hn hn' h]
  cases cY L' i (L'.length + 1) (d.getD i 0) ever U with
  | none => rfl
  | some q => exact aIf hn hn' h n _ _ _ _
theorem tH (l : List aE) : (cF l).Nodup := (yH l).filter _
theorem aAa {l : List aE} {x : aE} : x ∈ cF l ↔ x ∈ l ∧ x.Kind = 5 := by simp [cF, lD, isL]
theorem aNs {t : aJ} {l l' : List aE} (h : ∀ x : aE, x.Kind = 5 → (x ∈ l ↔ x ∈ l')) : fT t l = fT t l' := by
 have hm : ∀ x, x ∈ cF l ↔ x ∈ cF l' := fun x => by
  rw [aAa, aAa]
  exact ⟨fun ⟨a, b⟩ => ⟨(h x b).1 a, b⟩, fun ⟨a, b⟩ => ⟨(h x b).2 a, b⟩⟩
 unfold fT vQ
 rw [aIf (tH l) (tH l') hm, aOz (tH l) (tH l') hm]
section
variable {t : aJ} {l : List aE} {d : List Int} (hg : Good t l d)
include hg
theorem Good.fn : Func (iB d (Res l)) := hg.agr.2.fn
theorem Good.rok {x : aE} (hx : Res l x) : ROK t x := aFb (hg.slips x hx.1) hx.2
theorem Good.down {q p : Nat} {v : Int} (h : iB d (Res l) ⟨q, p⟩ v) : ∃ a, a < d.length ∧ v = d.getD a 0 ∧ d.getD a 0 ≠ -1 ∧ cell a q = ⟨q, p⟩ ∧ q < t.Rounds.toNat ∧ ∀ q', q' ≤ q → iB d (Res l) (cell a q') v := by
 have hD := hg.dok
 have h1 := hg.ht.r1
 rcases h with ⟨i, hi, hb, hm, hv⟩ | ⟨x, hx, a, ha, he, hv, q', hq, hm⟩
 ·have hsl : sib i < d.length := by rw [hD.len]; exact aCj hg.ht (by rw [← hD.len]; exact hi)
  have hq0 : q = 0 := by simp only [cell, aD.mk.injEq] at hm; omega
  refine ⟨sib i, hsl, hv, hD.sib_ne hg.ht hi hb, by rw [hq0] at hm ⊢; exact hm.symm, by omega, fun q' hq' => ?_⟩
  have : q' = 0 := by omega
  subst this
  exact .inl ⟨i, hi, hb, rfl, hv⟩
 ·have hr := hg.rok hx
  have hp := hr.p0
  have hr0 := hr.r0
  have hr1 := hr.r1
  have hqq : q = q' := by simp only [cell, aD.mk.injEq] at hm; omega
  subst hqq
  exact ⟨a, ha, hv, by omega, hm.symm, by omega, fun q' hq' => .inr ⟨x, hx, a, ha, he, hv, q', by omega, rfl⟩⟩
end
theorem sJ {l : List aE} {x : aE} (hx : x.Kind ≠ 5) (y : aE) : Res (l ++ [x]) y ↔ Res l y ∨ y = x := by
 unfold Res
 rw [List.mem_append, List.mem_singleton]
 constructor
 ·rintro ⟨h | h, h2⟩
  ·exact .inl ⟨h, h2⟩
  ·exact .inr h
 ·rintro (⟨h, h2⟩ | rfl)
  ·exact ⟨.inl h, h2⟩
  ·exact ⟨.inr rfl, hx⟩
section
variable {t : aJ} {l : List aE} {d : List Int} (hg : Good t l d) {x : aE} (hx : x.Kind ≠ 5) (hs : eI t x = true)
include hg hx hs
theorem zB {a : Nat} (ha : a < d.length) (he : d.getD a 0 = x.Player) (m : aD) (v : Int) : iB d (Res (l ++ [x])) m v ↔ iB d (Res l) m v ∨ clm d a x.Round.toNat m v := by
 have h1 := aCk hg.dok (aFb hs hx) ha he m v
 constructor
 ·rintro (h | ⟨y, hy, h⟩)
  ·exact .inl (.inl h)
  ·rcases (sJ hx y).1 hy with hy | rfl
   ·exact .inl (.inr ⟨y, hy, h⟩)
   ·exact .inr (h1.1 ⟨_, rfl, h⟩)
 ·rintro ((h | ⟨y, hy, h⟩) | h)
  ·exact .inl h
  ·exact .inr ⟨y, (sJ hx y).2 (.inl hy), h⟩
  ·exact .inr ⟨x, (sJ hx x).2 (.inr rfl), a, ha, he, h⟩
omit hg hs in
theorem aGj : fT t (l ++ [x]) = fT t l := aNs fun y hy => by
 rw [List.mem_append, List.mem_singleton]
 exact ⟨fun h => h.resolve_right fun e => hx (e ▸ hy), .inl⟩
theorem aSh {a : Nat} (ha : a < d.length) (he : d.getD a 0 = x.Player) (hc : cell a x.Round.toNat = ⟨x.Round, x.Place⟩) (hco : qC (iB d (Res l)) (clm d a x.Round.toNat)) (hno : ∀ y ∈ l, y.Kind ≠ 5 → y.Round = x.Round → y.Place = x.Place → y = x) : AGR t (l ++ [x]) d := by
 have hO := hg.agr.2
 refine ⟨by rw [aGj hx]; exact hg.agr.1, fun y hy z hz ky kz e1 e2 => ?_, fun y hy => ?_, fun m v w h1 h2 => ?_⟩
 ·rcases (sJ hx y).1 ⟨hy, ky⟩ with hy' | rfl
  ·rcases (sJ hx z).1 ⟨hz, kz⟩ with hz' | rfl
   ·exact hO.two y hy'.1 z hz'.1 ky kz e1 e2
   ·exact hno y hy'.1 ky e1 e2
  ·rcases (sJ hx z).1 ⟨hz, kz⟩ with hz' | hz'
   ·exact (hno z hz'.1 kz e1.symm e2.symm).symm
   ·exact hz'.symm
 ·rcases (sJ hx y).1 hy with hy' | rfl
  ·exact hO.slot y hy'
  ·exact ⟨a, ha, he, hc⟩
 ·rcases (zB hg hx hs ha he m v).1 h1 with p1 | p1 <;> rcases (zB hg hx hs ha he m w).1 h2 with p2 | p2
  ·exact hO.fn m v w p1 p2
  ·exact hco m v w p1 p2
  ·exact (hco m w v p2 p1).symm
  ·rw [p1.1, p2.1]
theorem aLp {d' : List Int} (hA : AGR t (l ++ [x]) d') : d' = d ∧ ∃ a, a < d.length ∧ d.getD a 0 = x.Player ∧ cell a x.Round.toNat = ⟨x.Round, x.Place⟩ ∧ qC (iB d (Res l)) (clm d a x.Round.toNat) := by
 have h1 := hA.1
 rw [aGj hx, hg.agr.1] at h1
 cases h1
 obtain ⟨a, ha, he, hc⟩ := hA.2.slot x ((sJ hx x).2 (.inr rfl))
 refine ⟨rfl, a, ha, he, hc, fun m v w p1 p2 => hA.2.fn m v w ((zB hg hx hs ha he m v).2 (.inl p1)) ((zB hg hx hs ha he m w).2 (.inr p2))⟩
theorem Good.add {a : Nat} (hl : l.length < 60) (ha : a < d.length) (he : d.getD a 0 = x.Player) (hc : cell a x.Round.toNat = ⟨x.Round, x.Place⟩) (hco : qC (iB d (Res l)) (clm d a x.Round.toNat)) (hno : ∀ y ∈ l, y.Kind ≠ 5 → y.Round = x.Round → y.Place = x.Place → y = x) : Good t (l ++ [x]) d :=
 ⟨hg.tree, by simp; omega, fun s hm => by
  rcases List.mem_append.1 hm with h | h
  ·exact hg.slips s h
  ·rw [List.mem_singleton.1 h]; exact hs, aSh hg hx hs ha he hc hco hno⟩
theorem Stat.add (hl : l.length < 60) (hno : ¬ ∃ a, a < d.length ∧ d.getD a 0 = x.Player ∧ cell a x.Round.toNat = ⟨x.Round, x.Place⟩ ∧ qC (iB d (Res l)) (clm d a x.Round.toNat)) : Stat t (l ++ [x]) 72 :=
 .s72 hg.tree (by simp; omega) (fun s hm => by
  rcases List.mem_append.1 hm with h | h
  ·exact hg.slips s h
  ·rw [List.mem_singleton.1 h]; exact hs) fun d' hd => hno (aLp hg hx hs hd).2
end
end Go.Am
end
section
namespace Go.Am
def aEe (bad : Nat → Bool) (n : Nat) : Nat := ((List.range n).find? bad).getD n
theorem aFz {T : Type} (F : Nat → Int → T) (n : Nat) (bad : Nat → Bool) (out : Nat → T) (hstep : ∀ k i : Nat, i < n → F (k + 1) (i : Int) = bif bad i then out i else F k ((i + 1 : Nat) : Int)) (hstop : ∀ k, F (k + 1) (n : Int) = out n) : ∀ k, n < k → F k 0 = out (aEe bad n) := by
 have := fun k h => eF (S := Unit) (fun k i _ => F k i) n (fun i _ => out (((List.range' i (n - i)).find? bad).getD n)) (fun _ _ => True) ?_ ?_ k () h trivial
 ·intro k h
  have := this k h
  simpa [aEe, List.range_eq_range'] using this
 ·intro k i _ hi _ ih
  have e : n - i = (n - (i + 1)) + 1 := by omega
  rw [hstep k i hi, ih () trivial, e, List.range'_succ, List.find?_cons]
  cases bad i <;> simp
 ·intro k _ _
  rw [hstop k]; simp
section
variable {t : aJ} (d : List Int) (must : List (List Int)) (a : Nat)
def aJn (r : Nat) : Bool := !decide (mat must r (a / 2 ^ (r + 1)) = -2) && !decide (mat must r (a / 2 ^ (r + 1)) = d.getD a 0)
def xN (t : aJ) : Nat := aEe (aJn d must a) t.Rounds.toNat
end
section
variable {t : aJ} (ht : TreeOK t) {d : List Int} (hD : DOK t d) {must : List (List Int)} {P : lK} (hM : MustIs t must P)
include ht hD hM
end
def Srt (l : List Int) : Prop := l.Pairwise (· ≤ ·)
theorem aPv : ∀ {l m : List Int}, Srt l → Srt m → l.Perm m → l = m
 | [], m, _, _, hp => hp.nil_eq
 | a :: l, [], _, _, hp => absurd hp.length_eq (by simp)
 | a :: l, b :: m, hl, hm, hp => by
  have hl' := List.pairwise_cons.1 hl
  have hm' := List.pairwise_cons.1 hm
  have h1 : a = b := by
   have ha : a ∈ b :: m := hp.subset (by simp)
   have hb : b ∈ a :: l := hp.symm.subset (by simp)
   rcases List.mem_cons.1 ha with e | ha
   ·exact e
   ·rcases List.mem_cons.1 hb with e | hb
    ·exact e.symm
    ·have := hl'.1 b hb
     have := hm'.1 a ha
     omega
  subst h1
  rw [aPv hl'.2 hm'.2 (List.Perm.cons_inv hp)]
theorem aOe (l : List Int) : Srt (l.mergeSort fun x y => decide (x ≤ y)) := by
 have := List.pairwise_mergeSort (le := fun x y : Int => decide (x ≤ y)) (fun a b c h1 h2 => by simp at *; omega) (fun a b => by simp; omega) l
 exact this.imp fun h => by simpa using h
structure SinkI (l out : List Int) (k : Nat) : Prop where
 lt : k < out.length
 perm : out.Perm l
 srt : ∀ i j, i < j → j < out.length → j ≠ k → i ≠ k → out.getD i 0 ≤ out.getD j 0
 up : ∀ j, k < j → j < out.length → out.getD k 0 ≤ out.getD j 0
theorem SinkI.done {l out : List Int} {k : Nat} (h : SinkI l out k) (hd : k = 0 ∨ out.getD (k - 1) 0 ≤ out.getD k 0) : Srt out ∧ out.Perm l := by
 refine ⟨?_, h.perm⟩
 unfold Srt
 rw [List.pairwise_iff_getElem]
 intro i j hi hj hij
 rw [← aZ hi 0, ← aZ hj 0]
 by_cases hjk : j = k
 ·subst hjk
  rcases hd with h0 | h0
  ·omega
  ·by_cases hik : i = j - 1
   ·subst hik; exact h0
   ·have := h.srt i (j - 1) (by omega) (by omega) (by omega) (by omega)
    omega
 ·by_cases hik : i = k
  ·subst hik; exact h.up j hij hj
  ·exact h.srt i j hij hj hjk hik
theorem aPz {l : List Int} {i j : Nat} (hi : i < l.length) (hj : j < l.length) : ((l.set i (l.getD j 0)).set j (l.getD i 0)).Perm l := by
 rw [aZ hi, aZ hj]
 by_cases hij : i = j
 ·subst hij; rw [List.set_set]; rw [List.set_getElem_self]
 ·exact List.set_set_perm hi hj
theorem SinkI.next {l out : List Int} {k : Nat} (h : SinkI l out k) (hk : 0 < k) (hlt : out.getD k 0 < out.getD (k - 1) 0) : SinkI l ((out.set k (out.getD (k - 1) 0)).set (k - 1) (out.getD k 0)) (k - 1) := by
 have hkl := h.lt
 have hg : ∀ j, ((out.set k (out.getD (k - 1) 0)).set (k - 1) (out.getD k 0)).getD j 0 = if j = k - 1 then out.getD k 0 else if j = k then out.getD (k - 1) 0 else out.getD j 0 := by
  intro j
  rw [iF (by rw [List.length_set]; omega), iF hkl]
 refine ⟨by simp; omega, (aPz hkl (by omega)).trans h.perm, fun i j hij hj hjk hik => ?_, fun j hj1 hj => ?_⟩
 ·simp only [List.length_set] at hj
  rw [hg, hg, if_neg hik, if_neg hjk]
  by_cases hi : i = k
  ·subst hi
   rw [if_pos rfl, if_neg (by omega)]
   exact h.srt (i - 1) j (by omega) hj (by omega) (by omega)
  ·rw [if_neg hi]
   by_cases hj' : j = k
   ·subst hj'
    rw [if_pos rfl]
    exact h.srt i (j - 1) (by omega) (by omega) (by omega) (by omega)
   ·rw [if_neg hj']
    exact h.srt i j hij hj hj' hi
 ·simp only [List.length_set] at hj
  rw [hg, hg, if_pos rfl, if_neg (by omega)]
  by_cases hj' : j = k
  ·subst hj'; rw [if_pos rfl]; omega
  ·rw [if_neg hj']
   exact h.up j (by omega) hj
theorem SinkI.start {out : List Int} (hs : Srt out) (x : Int) : SinkI (out ++ [x]) (out ++ [x]) out.length := by
 unfold Srt at hs
 rw [List.pairwise_iff_getElem] at hs
 refine ⟨by simp, .refl _, fun i j hij hj hjk hik => ?_, fun j h1 h2 => by simp at h2; omega⟩
 simp only [List.length_append, List.length_singleton] at hj
 have hj' : j < out.length := by omega
 have hi' : i < out.length := by omega
 rw [aZ (by simp; omega), aZ (by simp; omega), List.getElem_append_left hi', List.getElem_append_left hj']
 exact hs i j hi' hj' hij
end Go.Am
end
section
namespace Go.Am
section
variable {t : aJ} {l : List aE} {d : List Int} (hg : Good t l d)
include hg
end
end Go.Am
end
section
namespace Go.Am
theorem aCm (l : List Int) : Srt (iQ l) := aOe l
theorem vU (l : List Int) : (iQ l).Perm l := List.mergeSort_perm l _
theorem aEs {l m : List Int} (h1 : Srt m) (h2 : m.Perm l) : m = iQ l := aPv h1 (aCm l) (h2.trans (vU l).symm)
theorem aRr (a0 : Int → List Int → Option (List Int)) (l0 : List Int) (i : Int) {l : List Int} : ∀ (n k fuel : Nat) (out : List Int), k = n → SinkI l out k → k < fuel → out.length ≤ 1000 → jM a0 l0 i fuel k out = oU a0 l0 i (iQ l) := by
 intro n
 induction n with
 | zero =>
  intro k fuel out hn hS hf hl
  subst hn
  cases fuel with
  | zero => omega
  | succ fuel =>
   obtain ⟨h1, h2⟩ := hS.done (.inl rfl)
   simp only [jM, show decide ((0 : Int) < ((0 : Nat) : Int)) = false by decide, cond_false, Option.bind_some, aEs h1 h2]
 | succ n ih =>
  intro k fuel out hn hS hf hl
  subst hn
  cases fuel with
  | zero => omega
  | succ fuel =>
   have hk := hS.lt
   have hk1 : n < out.length := by omega
   have hlt : decide ((0 : Int) < ((n + 1 : Nat) : Int)) = true := decide_eq_true (by omega)
   have hp : w64 (((n + 1 : Nat) : Int) - 1) = (n : Int) := by rw [dP (by omega) (by omega)]; omega
   simp only [jM, hlt, cond_true, hp, bS hk, bS hk1, Option.bind_some]
   rw [← aZ hk 0, ← aZ hk1 0]
   by_cases hc : out.getD (n + 1) 0 < out.getD n 0
   ·have hN := hS.next (by omega) hc
    have e : ((n + 1 : Nat) : Int).toNat = n + 1 := by omega
    have e2 : ((n : Nat) : Int).toNat = n := by omega
    have hk2 : n < (out.set (n + 1) (out.getD n 0)).length := by rw [List.length_set]; exact hk1
    simp only [hc, decide_true, cond_true, e, e2, bS hk2, Option.bind_some]
    exact ih n fuel _ rfl hN (by omega) (by simp; omega)
   ·simp only [hc, decide_false, cond_false]
    obtain ⟨h1, h2⟩ := hS.done (.inr (by simp only [Nat.add_sub_cancel]; omega))
    rw [aEs h1 h2]
theorem aOd (l : List Int) (hl : l.length ≤ 900) : rD l = some (iQ l) := by
 unfold rD
 have := eF (S := List Int) (fun k i out => jL l k i out) l.length (fun _ _ => some (iQ l)) (fun i out => out = iQ (l.take i)) ?_ ?_ BIG [] (cC (by omega)) (by simp [iQ])
 ·exact this
 ·rintro k i out hi rfl ih
  have hlen : (iQ (l.take i)).length = i := by rw [(vU _).length_eq]; simp; omega
  simp only [jL, Int.ofNat_lt, hi, decide_true, cond_true, bS hi, Option.bind_some]
  rw [gZ (by simp; omega), Option.bind_some]
  have e : w64 (((iQ (l.take i) ++ [l[i]]).length : Int) - 1) = (((iQ (l.take i)).length : Nat) : Int) := by
   rw [List.length_append, List.length_singleton, dP (by omega) (by omega)]; omega
  rw [e, aRr _ l i (iQ (l.take i)).length _ BIG _ rfl (SinkI.start (aCm _) l[i]) (cC (by omega)) (by simp; omega)]
  unfold oU tD
  rw [bW (show i < 9223372036854775807 by omega)]
  refine ih _ ?_
  rw [List.take_succ_eq_append_getElem hi]
  exact aEs (aCm _) ((vU _).trans ((vU (l.take i)).append_right _))
 ·rintro k out rfl
  have hlt : decide ((l.length : Int) < (l.length : Int)) = false := decide_eq_false (by omega)
  simp only [jL, hlt, cond_false, tC, List.take_length]
section
variable {t : aJ} (ht : TreeOK t) {d : List Int} (hD : DOK t d) {must : List (List Int)} {P : lK} (hM : MustIs t must P) {won : List (aD × Int)} (hW : WonIs won P)
include ht hD hM
theorem aRd {a : Nat} (ha : a < d.length) : tB t ⟨d, must⟩ a = some (xN d must a t : Int) := by
 have h1 := ht.r1
 have h5 := ht.r5
 unfold tB
 refine aFz (fun k i => lA a t ⟨d, must⟩ k i) t.Rounds.toNat (aJn d must a) (fun i => some (i : Int)) (fun k i hi => ?_) (fun k => ?_) BIG (cC (by omega))
 ·have hlt : decide ((i : Int) < t.Rounds) = true := decide_eq_true (by omega)
  have hw : w64 ((i : Int) + 1) = ((i + 1 : Nat) : Int) := bW (by omega)
  have hu : IntKind.u64.wrap ((i + 1 : Nat) : Int) = ((i + 1 : Nat) : Int) := sT (by omega) (by omega)
  have hch : chk (decide (0 ≤ ((i + 1 : Nat) : Int))) = some () := by unfold chk; rw [decide_eq_true (by omega)]; rfl
  have hmin : min ((i + 1 : Nat) : Int).toNat 64 = i + 1 := by omega
  have hml := hM.len
  have hrl := hM.row i hi
  have hpin := yQ ht (hD.len ▸ ha) hi
  have hql : i < must.length := by omega
  have hi1 : idx must (i : Int) = some (must.getD i []) := by rw [bS hql, aZ hql]
  have hi2 : idx (must.getD i []) ((a / 2 ^ (i + 1) : Nat) : Int) = some (mat must i (a / 2 ^ (i + 1))) := by
   have hlt' : a / 2 ^ (i + 1) < (must.getD i []).length := by omega
   rw [bS hlt']; exact congrArg some (aZ hlt' (-2)).symm
  simp only [lA, hlt, cond_true, hw, hu, hch, hmin, wK, Option.bind_some, hi1, hi2, bS ha, kS, qI]
  rw [← aZ ha 0]
  unfold aJn
  cases decide (mat must i (a / 2 ^ (i + 1)) = -2) <;> cases decide (mat must i (a / 2 ^ (i + 1)) = d.getD a 0) <;> rfl
 ·have hlt : decide (((t.Rounds.toNat : Nat) : Int) < t.Rounds) = false := decide_eq_false (by omega)
  simp only [lA, hlt, cond_false, Option.bind_some, qI]
include hW
theorem aOm {a : Nat} (ha : a < d.length) : mH ⟨t, d, won⟩ a = some (xN d must a t : Int) := by
 have h1 := ht.r1
 have h5 := ht.r5
 have e : t.Rounds = ((t.Rounds.toNat : Nat) : Int) := by omega
 unfold mH
 refine aFz (fun k i => gB ⟨t, d, won⟩ a t.Rounds k i) t.Rounds.toNat (aJn d must a) (fun i => some (i : Int)) (fun k i hi => ?_) (fun k => ?_) BIG (cC (by omega))
 ·have hlt : decide ((i : Int) < t.Rounds) = true := decide_eq_true (by omega)
  have hpin := yQ ht (hD.len ▸ ha) hi
  have hh := aKj hW hM hi hpin
  simp only [gB, hlt, cond_true, aJa (show i ≤ 5 by omega), Option.bind_some, bW (show i < 9223372036854775807 by omega), bS ha]
  have hcell : cell a i = ⟨(i : Int), ((a / 2 ^ (i + 1) : Nat) : Int)⟩ := rfl
  rw [← aZ ha 0, hcell, hh]
  unfold aJn
  by_cases h2 : mat must i (a / 2 ^ (i + 1)) = -2
  ·simp only [h2, decide_true, Bool.not_true, cond_false, Option.bind_some, Bool.false_and]
  ·simp only [h2, decide_false, Bool.not_false, cond_true, Option.bind_some, Bool.true_and, aKi hW hM hi hpin h2]
 ·have hlt : decide (((t.Rounds.toNat : Nat) : Int) < t.Rounds) = false := decide_eq_false (by omega)
  simp only [gB, hlt, cond_false, pO]
  rw [← e]
end
def aBr (d : List Int) (must : List (List Int)) (t : aJ) (r p a : Nat) : Bool := !decide (d.getD a 0 = -1) && decide (a / 2 ^ (r + 1) = p) && decide (r < xN d must a t)
def wQ (d : List Int) (must : List (List Int)) (t : aJ) (r p n : Nat) : List Int := ((List.range n).filter (aBr d must t r p)).map (d.getD · 0)
def aKl (d : List Int) (must : List (List Int)) (t : aJ) (r p : Nat) : List Int := wQ d must t r p d.length
theorem aHy (d : List Int) (must : List (List Int)) (t : aJ) (r p n : Nat) : wQ d must t r p (n + 1) = wQ d must t r p n ++ (if aBr d must t r p n = true then [d.getD n 0] else []) := by
 unfold wQ
 rw [List.range_succ, List.filter_append, List.map_append]
 congr 1
 simp only [List.filter_cons, List.filter_nil]
 split <;> rfl
theorem zY (d : List Int) (must : List (List Int)) (t : aJ) (r p n : Nat) : (wQ d must t r p n).length ≤ n := by
 have := List.length_filter_le (aBr d must t r p) (List.range n)
 simpa [wQ] using this
section
variable {t : aJ} {l : List aE} {d : List Int} (hg : Good t l d) {must : List (List Int)} (hd : fJ t l = some (⟨d, must⟩, true)) (hM : MustIs t must (iB d (Res l)))
include hg hM
theorem aSv {r p : Nat} (hr : r < t.Rounds.toNat) : fY r p t ⟨d, must⟩ BIG 0 [] = some (iQ (aKl d must t r p), 0) := by
 have ht := hg.ht
 have hD := hg.dok
 have h5 := ht.r5
 have h32 := ht.len32
 have hlen := hD.len
 have := eF (S := List Int) (fun k s out => fY r p t ⟨d, must⟩ k s out) d.length (fun _ _ => some (iQ (aKl d must t r p), 0)) (fun s out => out = wQ d must t r p s) ?_ ?_ BIG [] (cC (by omega)) (by simp [wQ])
 ·exact this
 ·rintro k s out hs rfl ih
  have hml := zY d must t r p s
  have hw : w64 ((r : Int) + 1) = ((r + 1 : Nat) : Int) := bW (by omega)
  have hu : IntKind.u64.wrap ((r + 1 : Nat) : Int) = ((r + 1 : Nat) : Int) := sT (by omega) (by omega)
  have hch : chk (decide (0 ≤ ((r + 1 : Nat) : Int))) = some () := by unfold chk; rw [decide_eq_true (by omega)]; rfl
  have hmin : min ((r + 1 : Nat) : Int).toNat 64 = r + 1 := by omega
  have hst := aHy d must t r p s
  have hdp : decide (((s / 2 ^ (r + 1) : Nat) : Int) = (p : Int)) = decide (s / 2 ^ (r + 1) = p) := by rw [Bool.eq_iff_iff]; simp only [decide_eq_true_eq]; omega
  have hdm : decide ((r : Int) < (xN d must s t : Int)) = decide (r < xN d must s t) := by rw [Bool.eq_iff_iff]; simp only [decide_eq_true_eq]; omega
  simp only [fY, Int.ofNat_lt, hs, decide_true, cond_true, bS hs, Option.bind_some, hw, hu, hch, hmin, wK, hdp, eJ, aRd ht hD hM hs, hdm, bW (show s < 9223372036854775807 by omega)]
  rw [← aZ hs 0]
  have e : (!decide (d.getD s 0 = -1) && decide (s / 2 ^ (r + 1) = p) && decide (r < xN d must s t)) = aBr d must t r p s := rfl
  rw [e]
  cases hb : aBr d must t r p s with
  | true =>
   rw [hb, if_pos rfl] at hst
   simp only [cond_true]
   rw [gZ (by simp; omega), Option.bind_some]
   exact ih _ hst.symm
  | false =>
   rw [hb] at hst
   simp only [cond_false]
   exact ih _ (by rw [hst]; simp)
 ·rintro k out rfl
  have hlt : decide ((d.length : Int) < (d.length : Int)) = false := decide_eq_false (by omega)
  have hml := zY d must t r p d.length
  simp only [fY, hlt, cond_false, vG, aOd _ (show (wQ d must t r p d.length).length ≤ 900 by omega), Option.bind_some]
  rfl
theorem aRc {won : List (aD × Int)} (hW : WonIs won (iB d (Res l))) {r p : Nat} (hr : r < t.Rounds.toNat) {Q : List Int × Int → Prop} (hq : Q (iQ (aKl d must t r p), 0)) :
  gW Q r (some ⟨t, d, won⟩) d d.length ⟨r, p⟩ BIG 0 [] := by
 have ht := hg.ht
 have hD := hg.dok
 have h5 := ht.r5
 have h32 := ht.len32
 have hlen := hD.len
 refine sP (S := List Int) (fun k s out => gW Q r (some ⟨t, d, won⟩) d d.length ⟨r, p⟩ k s out) d.length (fun x => x) (fun s out => out = wQ d must t r p s ∧ s ≤ d.length) ?_ ?_ BIG 0 [] (cC (by omega)) ⟨by simp [wQ], by omega⟩
 ·rintro k s out hs ⟨rfl, hsl⟩ ih
  have hml := zY d must t r p s
  have hst := aHy d must t r p s
  have hdm : decide ((r : Int) < (xN d must s t : Int)) = decide (r < xN d must s t) := by rw [Bool.eq_iff_iff]; simp only [decide_eq_true_eq]; omega
  have hdc : decide (cell s r = (⟨r, p⟩ : aD)) = decide (s / 2 ^ (r + 1) = p) := by
   rw [Bool.eq_iff_iff]; simp only [decide_eq_true_eq, cell, aD.mk.injEq, true_and]; omega
  simp only [gW, Int.ofNat_lt, hs, decide_true, cond_true, bS hs, aJa (show r ≤ 5 by omega), Option.bind_some, aOm ht hD hM hW hs, hdm, hdc, eJ, bW (show s < 9223372036854775807 by omega)]
  refine ⟨_, rfl, _, rfl, _, rfl, aBr d must t r p s, ?_, ?_⟩
  ·rw [← aZ hs 0]
   unfold aBr
   cases (!decide (d.getD s 0 = -1) && decide (s / 2 ^ (r + 1) = p)) with
   | false => rfl
   | true => simp only [cond_true, aOm ht hD hM hW hs, Option.bind_some, hdm, Bool.true_and]
  rw [← aZ hs 0]
  cases hb : aBr d must t r p s with
  | true =>
   rw [hb, if_pos rfl] at hst
   simp only [cond_true]
   exact ⟨_, gZ (by simp; omega), ih _ ⟨hst.symm, hs⟩⟩
  | false =>
   rw [hb] at hst
   simp only [cond_false]
   exact ih _ ⟨by rw [hst]; simp, hs⟩
 ·rintro k s out hs ⟨rfl, hsl⟩
  have : s = d.length := by omega
  subst this
  have hlt : decide ((d.length : Int) < (d.length : Int)) = false := decide_eq_false (by omega)
  have hml := zY d must t r p d.length
  simp only [gW, hlt, cond_false, uC]
  refine ⟨iQ (aKl d must t r p), ?_, hq⟩
  unfold slices_Sort_int
  rw [if_pos (by omega)]; rfl
end
theorem aTb {α : Type} (A : Option Int) (B : Option (aQ × Bool)) (F : aQ → Option α) (z : Int → α) {d : aQ} (hA : A = some 0) (hB : B = some (d, true)) :
  (A.bind fun r2 => bif !decide (r2 = 0) then some (z r2) else (B.bind fun r3 => F r3.1)) = F d := by subst hA; subst hB; rfl
theorem aSj {t : aJ} {l : List aE} {e : Int} (h : Stat t l e) (r p : Int) : iX t l r p = some ([], e) := by
 unfold iX
 rw [aGt h, Option.bind_some]
 simp only [h.ne, Bool.not_false, cond_true]
theorem aSi {t : aJ} {l : List aE} {d : List Int} (h : Good t l d) {r p : Int} (hm : iN t r p = false) : iX t l r p = some ([], 1) := by
 unfold iX
 rw [xD h, hm, Option.bind_some]
 rfl
theorem aQf {t : aJ} {l : List aE} {d : List Int} (h : Good t l d) {must : List (List Int)} (hd : fJ t l = some (⟨d, must⟩, true)) (hM : MustIs t must (iB d (Res l))) {r p : Nat} (hm : iN t r p = true) :
  iX t l r p = some (iQ (aKl d must t r p), 0) := by
 obtain ⟨r', p', e1, e2, hr, hp⟩ := aGa hm
 have e1 : r = r' := by omega
 subst e1
 unfold iX
 exact (aTb _ _ (fun dd => fY r p t dd BIG 0 []) (fun r2 => ([], r2)) (by rw [xD h, hm]; rfl) hd).trans (aSv h hM hr)
theorem aSk (t : aJ) (l : List aE) (r p : Int) {o : List Int × Int} (h : iX t l r p = some o) (Q : List Int × Int → Prop) (hq : Q o) : rI t l r p Q := by
 unfold rI
 rcases aGp t l with ⟨d, hg⟩ | ⟨e, he⟩
 ·refine aSm hg fun won hW => ?_
  cases hm : iN t r p with
  | false =>
   rw [aSi hg hm] at h; cases h
   exact hq
  | true =>
   obtain ⟨r', p', rfl, rfl, hr, hp⟩ := aGa hm
   obtain ⟨must, hd, hM⟩ := xF hg
   rw [aQf hg hd hM hm] at h; cases h
   simp only [cond_true, decide_true, Bool.not_true, cond_false]
   exact ⟨_, rfl, aRc hg hM hW hr hq⟩
 ·rw [aSj he] at h; cases h
  refine aTs he ?_
  simp only [he.ne, Bool.not_false, cond_true]
  exact hq
end Go.Am
end
section
namespace Go.Am
section
variable {t : aJ} {l : List aE} {d : List Int} (hg : Good t l d) {must : List (List Int)} (hM : MustIs t must (iB d (Res l)))
include hg hM
end
section
variable {t : aJ} {l : List aE} {d : List Int} (hg : Good t l d) {must : List (List Int)} (hM : MustIs t must (iB d (Res l)))
include hg hM
end
theorem min2 (a b : Int) : yY [a, b] = some (min a b) := by
 have key := eF (S := Int) (fun k i m => lS [a, b] k m ((i : Int) + 1)) 1 (fun i m => some (if i = 0 then min m b else m)) (fun _ _ => True) ?_ ?_ BIG a (cC (by omega)) trivial
 ·unfold yY
  have h1 : decide ((([a, b] : List Int).length : Int) < 1) = false := decide_eq_false (by simp)
  rw [h1, cond_false, aEm, Option.bind_some]
  simpa using key
 ·intro k i m hi _ ih
  have : i = 0 := by omega
  subst this
  have h1 : decide (((0 : Nat) : Int) + 1 < (([a, b] : List Int).length : Int)) = true := decide_eq_true (by simp)
  have i1 : idx [a, b] (((0 : Nat) : Int) + 1) = some b := rfl
  have w2 : w64 (((0 : Nat) : Int) + 1 + 1) = ((0 + 1 : Nat) : Int) + 1 := by decide +kernel
  simp only [lS, h1, cond_true, i1, Option.bind_some, w2, ih _ trivial]
  rfl
 ·intro k m _
  have h1 : decide (((1 : Nat) : Int) + 1 < (([a, b] : List Int).length : Int)) = false := decide_eq_false (by simp)
  simp only [lS, h1, cond_false, vJ]
  rfl
end Go.Am
end
section
namespace Go.Am
theorem aDa (a0 : aJ) (a1 : List aE) {r} (h : pX a0 a1 = some r) (Q : List bX × Int → Prop) (hq : Q r) : pC a0 a1 Q := aOi a0 a1 h Q hq
theorem aFh (a0 : aJ) (a1 : List aE) (a2 a3 : Int) {r} (h : vD a0 a1 a2 a3 = some r) (Q : List Int × Int → Prop) (hq : Q r) : rI a0 a1 a2 a3 Q := aSk a0 a1 a2 a3 h Q hq
end Go.Am
end
section
namespace Go.Am
end Go.Am
end
section
namespace Go.Am
end Go.Am
end
section
namespace Go.Am
end Go.Am
end
section
namespace Go.Am
section
variable {t : aJ} {l : List aE} {d : List Int} (hg : Good t l d) {must : List (List Int)} (hM : MustIs t must (iB d (Res l)))
include hg hM
end
end Go.Am
end
section
namespace Go.Am
end Go.Am
end
