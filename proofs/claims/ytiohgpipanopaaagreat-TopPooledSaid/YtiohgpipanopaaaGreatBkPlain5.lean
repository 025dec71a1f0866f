/- Plain laws, one behind the other. -/
import Derived.Test.YtiohgpipanopaaaGreatTlSh
import Derived.Test.YtiohgpipanopaaaGreatAmPlain
import Derived.KernelRfl
section
namespace Go.Am
theorem aLb {α β : Type} [DecidableEq α] (a b : α) (z v : β) : ∀ l : List (α × β), cW b z (gA a v l) = if b = a then v else cW b z l
 | [] => by by_cases h : b = a <;> simp [gA, cW, h]
 | (k, u) :: l => by
  by_cases h1 : a = k
  ·subst h1
   by_cases h2 : b = a
   ·simp [gA, cW, h2]
   ·simp [gA, cW, h2]
  ·by_cases h2 : b = k
   ·subst h2
    simp [gA, cW, h1, Ne.symm h1]
   ·simp [gA, cW, h1, h2, aLb a b z v l]
def wi (n lo hi : Int) : Bool := decide (lo ≤ n) && decide (n ≤ hi)
theorem jB {n lo hi : Int} : wi n lo hi = true ↔ lo ≤ n ∧ n ≤ hi := by simp [wi]
theorem wG (n lo hi : Int) : fL n lo hi = some (wi n lo hi) := by simp [fL, dG, wi]
theorem xD (n lo hi : Int) : eF n lo hi = some (wi n lo hi) := by simp [eF, dG, wi]
theorem bM {α : Type} {l : List α} {i : Nat} (h : i < l.length) (d : α) : l.getD i d = l[i] := by simp [List.getD, h]
structure TreeOK (t : aP) : Prop where
 r1 : 1 ≤ t.Rounds
 r5 : t.Rounds ≤ 5
 len : t.Slots.length = 2 ^ t.Rounds.toNat
 rng : ∀ i (h : i < t.Slots.length), -1 ≤ t.Slots[i] ∧ t.Slots[i] ≤ 999
 bye : ∀ j (h : 2 * j + 1 < t.Slots.length), t.Slots[2 * j] = -1 → t.Slots[2 * j + 1] ≠ -1
 dup : ∀ i (h : i < t.Slots.length) k (hk : k < i), t.Slots[k] = t.Slots[i] → t.Slots[i] = -1
theorem TreeOK.len32 {t : aP} (h : TreeOK t) : t.Slots.length ≤ 32 := by
 rw [h.len]
 have h1 := h.r1
 have h5 := h.r5
 have : t.Rounds.toNat ≤ 5 := by omega
 exact Nat.pow_le_pow_right (by omega) this
theorem bAa : ∀ i : Fin 32, aHw ((i.val : Nat) : Int) 1 = ((if i.val % 2 = 0 then i.val + 1 else i.val - 1 : Nat) : Int) := by decide +kernel
theorem aZi : ∀ r : Fin 6, w64 (1 * 2 ^ (min r.val 64)) = ((2 ^ r.val : Nat) : Int) := by decide +kernel
theorem xI {n : Int} (h0 : 0 ≤ n) (h : n ≤ 9223372036854775807) : IntKind.u64.wrap n = n := by
 simp [IntKind.wrap, IntKind.signed, IntKind.bits]
 omega
def pM (t : aP) : Bool := wi t.Rounds 1 5 && decide (t.Slots.length = 2 ^ t.Rounds.toNat)
theorem bBr {t : aP} (h : wi t.Rounds 1 5 = true) : w64 (1 * 2 ^ (min t.Rounds.toNat 64)) = ((2 ^ t.Rounds.toNat : Nat) : Int) := by
 rw [jB] at h
 have := aZi ⟨t.Rounds.toNat, by omega⟩
 simpa using this
def aIj (S : List Int) (i : Nat) : Bool :=
 if S.getD i 0 = -1 then !decide (S.getD (if i % 2 = 0 then i + 1 else i - 1) 0 = -1) else !decide (S.getD i 0 ∈ S.take i) && wi (S.getD i 0) 0 999
def aIk (S : List Int) (i : Nat) : Bool :=
 wi (S.getD i 0) (-1) 999 && !(decide (i % 2 = 1) && decide (S.getD i 0 = -1) && decide (S.getD (i - 1) 0 = -1)) && ((List.range i).all fun k => !(decide (S.getD k 0 = S.getD i 0) && !decide (S.getD i 0 = -1)))
theorem aIz {t : aP} (h : pM t = true) : t.Slots.length ≤ 32 ∧ t.Slots.length % 2 = 0 := by
 simp only [pM, Bool.and_eq_true, jB, decide_eq_true_eq] at h
 obtain ⟨⟨h1, h2⟩, h3⟩ := h
 have key : ∀ r : Fin 6, 1 ≤ r.val → 2 ^ r.val ≤ 32 ∧ 2 ^ r.val % 2 = 0 := by decide +kernel
 have := key ⟨t.Rounds.toNat, by omega⟩ (by simp; omega)
 rw [h3]
 exact this
theorem bDh (t : aP) : qY t = some (pM t && (List.range t.Slots.length).all (aIj t.Slots)) := by
 unfold qY
 rw [wG]
 cases hw : wi t.Rounds 1 5 with
 | false => simp [pM, hw]
 | true =>
  have hr := jB.1 hw
  have hch : chk (decide (0 ≤ t.Rounds)) = some () := by unfold chk; rw [decide_eq_true (by omega)]; rfl
  simp only [Option.bind_some, Bool.not_true, cond_false, hch, bBr hw]
  by_cases hl : t.Slots.length = 2 ^ t.Rounds.toNat
  ·have hsh : pM t = true := by simp [pM, hw, hl]
   obtain ⟨h32, hev⟩ := aIz hsh
   have hl' : decide ((t.Slots.length : Int) = ((2 ^ t.Rounds.toNat : Nat) : Int)) = true := decide_eq_true (by rw [hl])
   rw [hl', hsh]
   simp only [Bool.not_true, cond_false, Bool.true_and]
   have main := eX (S := List (Int × Int)) (fun k i m => jR t.Slots t.Slots.length t k i m) t.Slots.length (fun i _ => some ((List.range' i (t.Slots.length - i)).all (aIj t.Slots)))
    (fun i m => ∀ x, x ≠ -1 → cW x 0 m = if x ∈ t.Slots.take i then 1 else 0) ?_ ?_ BIG [] (cG (by omega)) (by simp [cW])
   ·simpa [List.range_eq_range'] using main
   ·intro k i m hi hI ih
    have hx := bAa ⟨i, by omega⟩
    simp only at hx
    have e : t.Slots.length - i = (t.Slots.length - (i + 1)) + 1 := by omega
    rw [e, List.range'_succ, List.all_cons]
    have hm : ∀ x, x ∈ t.Slots.take (i + 1) ↔ x ∈ t.Slots.take i ∨ x = t.Slots[i] := by
     intro x
     rw [List.take_succ_eq_append_getElem hi, List.mem_append, List.mem_singleton]
    simp only [jR, Int.ofNat_lt, hi, decide_true, cond_true, bN hi, Option.bind_some, bU (show i < 9223372036854775807 by omega), aIj, bM hi]
    by_cases hb : t.Slots[i] = -1
    ·have hj : (if i % 2 = 0 then i + 1 else i - 1) < t.Slots.length := by split <;> omega
     simp only [hb, decide_true, cond_true, hx, if_true, bN hj, Option.bind_some, bM hj]
     by_cases hc : t.Slots[if i % 2 = 0 then i + 1 else i - 1] = -1
     ·simp [hc]
     ·simp only [hc, decide_false, cond_false, Bool.not_false, Bool.true_and]
      refine ih m fun x hxn => ?_
      rw [hI x hxn]
      have : (x ∈ t.Slots.take (i + 1)) ↔ (x ∈ t.Slots.take i) := by
       rw [hm x]
       constructor
       ·rintro (h | h)
        ·exact h
        ·rw [hb] at h; exact absurd h hxn
       ·exact .inl
      simp [this]
    ·have hcnt := hI t.Slots[i] hb
     simp only [hb, decide_false, cond_false, if_false]
     rw [aLb]
     simp only [if_true, hcnt]
     by_cases hd : t.Slots[i] ∈ t.Slots.take i
     ·have : w64 2 = 2 := by decide +kernel
      simp [hd, this]
     ·have h1 : w64 (0 + 1) = 1 := by decide +kernel
      simp only [hd, if_false, h1, wG, Option.bind_some, show decide ((1 : Int) < 1) = false by decide, cond_false, decide_false, Bool.not_false, Bool.true_and]
      cases hwi : wi t.Slots[i] 0 999 with
      | false => simp
      | true =>
       simp only [Bool.not_true, cond_false, Bool.true_and]
       refine ih _ fun x hxn => ?_
       rw [aLb, hI x hxn]
       by_cases hxe : x = t.Slots[i]
       ·simp [hxe, hm]
       ·simp [hxe, hm]
   ·intro k m _
    simp [jR, xR]
  ·have hl' : decide ((t.Slots.length : Int) = ((2 ^ t.Rounds.toNat : Nat) : Int)) = false := decide_eq_false (by omega)
   rw [hl']
   simp [pM, hl]
theorem bDi (t : aP) : nC t = some (pM t && (List.range t.Slots.length).all (aIk t.Slots)) := by
 unfold nC
 rw [xD]
 cases hw : wi t.Rounds 1 5 with
 | false => simp [pM, hw]
 | true =>
  have hr := jB.1 hw
  have hu : IntKind.u64.wrap t.Rounds = t.Rounds := xI (by omega) (by omega)
  have hch : chk (decide (0 ≤ t.Rounds)) = some () := by unfold chk; rw [decide_eq_true (by omega)]; rfl
  simp only [Option.bind_some, Bool.not_true, cond_false, hu, hch, bBr hw]
  by_cases hl : t.Slots.length = 2 ^ t.Rounds.toNat
  ·have hsh : pM t = true := by simp [pM, hw, hl]
   obtain ⟨h32, hev⟩ := aIz hsh
   have hl' : decide ((t.Slots.length : Int) = ((2 ^ t.Rounds.toNat : Nat) : Int)) = true := decide_eq_true (by rw [hl])
   rw [hl', hsh]
   simp only [Bool.not_true, cond_false, Bool.true_and]
   have main := rH (fun k i => gF t k i) t.Slots.length (aIk t.Slots) (some false) (some true) ?_ ?_ BIG (cG (by omega))
   ·rw [main]
    cases (List.range t.Slots.length).all (aIk t.Slots) <;> rfl
   ·intro k i hi
    have hin : ∀ ag : Int → Option Bool, gG ag i t BIG 0 = bif (List.range i).all fun k => !(decide (t.Slots.getD k 0 = t.Slots.getD i 0) && !decide (t.Slots.getD i 0 = -1)) then ag ((i + 1 : Nat) : Int) else some false := by
     intro ag
     refine rH (fun k j => gG ag i t k j) i _ (some false) (ag ((i + 1 : Nat) : Int)) ?_ ?_ BIG (cG (by omega))
     ·intro k j hj
      have hj' : j < t.Slots.length := by omega
      simp only [gG, Int.ofNat_lt, hj, decide_true, cond_true, bN hj', bN hi, Option.bind_some, dG, bU (show j < 9223372036854775807 by omega), bM hj', bM hi]
      cases (decide (t.Slots[j] = t.Slots[i]) && !decide (t.Slots[i] = -1)) <;> simp
     ·intro k
      simp [gG, uV, uU, bU (show i < 9223372036854775807 by omega)]
    have htm : decide (((i : Nat) : Int).tmod 2 = 1) = decide (i % 2 = 1) := by
     have : ((i : Nat) : Int).tmod 2 = ((i % 2 : Nat) : Int) := by
      rw [Int.tmod_eq_emod_of_nonneg (by omega)]; omega
     rw [this]
     simp
     omega
    simp only [gF, Int.ofNat_lt, hi, decide_true, cond_true, bN hi, Option.bind_some, xD, htm, dG, hin, aIk, bM hi]
    cases hwi : wi t.Slots[i] (-1) 999 with
    | false => simp
    | true =>
     by_cases ho : i % 2 = 1
     ·have hp : i - 1 < t.Slots.length := by omega
      have hwp : w64 ((i : Int) - 1) = ((i - 1 : Nat) : Int) := zE (by omega) (by omega)
      simp only [ho, decide_true, Bool.true_and, hwp, bN hp, Option.bind_some, dG, Bool.not_true, cond_false, bM hp]
      cases (decide (t.Slots[i] = -1) && decide (t.Slots[i - 1] = -1)) <;> simp
     ·simp [ho]
   ·intro k
    simp [gF, uT]
  ·have hl' : decide ((t.Slots.length : Int) = ((2 ^ t.Rounds.toNat : Nat) : Int)) = false := decide_eq_false (by omega)
   rw [hl']
   simp [pM, hl]
theorem zO (l : List Int) (hl : l.length ≤ 9223372036854775807) (v : Int) : gT l v = some (match l.findIdx? (fun x => decide (v = x)) with | some i => (i : Int) | none => -1) := by
 unfold gT
 rw [eX (S := Unit) (fun k i _ => kC l v l.length k i) l.length (fun i _ => some (match (l.drop i).findIdx? (fun x => decide (v = x)) with | some j => ((i + j : Nat) : Int) | none => -1)) (fun _ _ => True) ?_ ?_ BIG () (cG hl) trivial]
 ·simp
 ·intro k i _ hi _ ih
  have := ih () trivial
  simp only [kC, bN hi, Option.bind_some, bU (show i < 9223372036854775807 by omega), Int.ofNat_lt, hi, decide_true, cond_true, this]
  rw [List.drop_eq_getElem_cons hi, List.findIdx?_cons]
  by_cases h : v = l[i]
  ·simp [h]
  ·simp only [h, decide_false, cond_false, Bool.false_eq_true, if_false]
   cases List.findIdx? (fun x => decide (v = x)) (List.drop (i + 1) l) with
   | none => rfl
   | some j => simp; omega
 ·intro k _ _
  simp [kC, wA]
theorem pP (l : List Int) (hl : l.length ≤ 9223372036854775807) (v : Int) : cO l v = some (decide (v ∈ l)) := by
 unfold cO
 rw [zO l hl v]
 cases h : List.findIdx? (fun x => decide (v = x)) l with
 | none =>
  simp at h
  have : v ∉ l := fun hm => h v hm rfl
  simp [this]
 | some j =>
  have : v ∈ l := by
   obtain ⟨h1, h2, _⟩ := List.findIdx?_eq_some_iff_getElem.1 h
   simp at h2
   rw [h2]; exact List.getElem_mem h1
  simp [this]
theorem uL (l : List aG) (hl : l.length ≤ 9223372036854775807) (f : aG → Option Bool) (g : aG → Bool) (hf : ∀ x ∈ l, f x = some (g x)) : iP l f = some (l.any g) := by
 have key : kE l f = some (match l.findIdx? g with | some i => (i : Int) | none => -1) := by
  unfold kE
  rw [eX (S := Unit) (fun k i _ => eP l f l.length k i) l.length (fun i _ => some (match (l.drop i).findIdx? g with | some j => ((i + j : Nat) : Int) | none => -1)) (fun _ _ => True) ?_ ?_ BIG () (cG hl) trivial]
  ·simp
  ·intro k i _ hi _ ih
   have := ih () trivial
   simp only [eP, bN hi, Option.bind_some, bU (show i < 9223372036854775807 by omega), Int.ofNat_lt, hi, decide_true, cond_true, this, hf _ (List.getElem_mem hi)]
   rw [List.drop_eq_getElem_cons hi, List.findIdx?_cons]
   cases h : g l[i] with
   | true => simp
   | false =>
    simp only [cond_false, Bool.false_eq_true, if_false]
    cases List.findIdx? g (List.drop (i + 1) l) with
    | none => rfl
    | some j => simp; omega
  ·intro k _ _
   simp [eP, oO]
 unfold iP
 rw [key]
 cases h : List.findIdx? g l with
 | none =>
  simp at h
  have : l.any g = false := by simpa using h
  simp [this]
 | some j =>
  have : l.any g = true := by
   obtain ⟨h1, h2, _⟩ := List.findIdx?_eq_some_iff_getElem.1 h
   simp only [List.any_eq_true]
   exact ⟨_, List.getElem_mem h1, h2⟩
  simp [this]
end Go.Am
end
section
namespace Go.Am
structure aDs (S : List Int) : Prop where
 rng : ∀ i (h : i < S.length), -1 ≤ S[i] ∧ S[i] ≤ 999
 bye : ∀ j (h : 2 * j + 1 < S.length), S[2 * j] = -1 → S[2 * j + 1] ≠ -1
 dup : ∀ i (h : i < S.length) k (hk : k < i), S[k] = S[i] → S[i] = -1
theorem aNr {S : List Int} (hev : S.length % 2 = 0) : (List.range S.length).all (aIj S) = true ↔ aDs S := by
 rw [kP]
 constructor
 ·intro h
  have hd : ∀ i (hi : i < S.length), (if S[i] = -1 then !decide (S.getD (if i % 2 = 0 then i + 1 else i - 1) 0 = -1) else !decide (S[i] ∈ S.take i) && wi S[i] 0 999) = true := by
   intro i hi
   have := h i hi
   simpa only [aIj, bM hi] using this
  refine ⟨fun i hi => ?_, fun j hj hb => ?_, fun i hi k hk he => ?_⟩
  ·have := hd i hi
   split at this
   ·rename_i hb; omega
   ·rw [Bool.and_eq_true, jB] at this; omega
  ·have := hd (2 * j) (by omega)
   rw [if_pos hb, if_pos (by omega), bM hj] at this
   simpa using this
  ·have := hd i hi
   by_cases hb : S[i] = -1
   ·exact hb
   ·rw [if_neg hb, Bool.and_eq_true] at this
    have hm : S[i] ∈ S.take i := by
     rw [← he, List.mem_take_iff_getElem]
     exact ⟨k, by omega, rfl⟩
    simp [hm] at this
 ·intro h i hi
  simp only [aIj, bM hi]
  by_cases hb : S[i] = -1
  ·rw [if_pos hb]
   by_cases he : i % 2 = 0
   ·rw [if_pos he]
    obtain ⟨j, rfl⟩ : ∃ j, i = 2 * j := ⟨i / 2, by omega⟩
    rw [bM (by omega)]
    have := h.bye j (by omega) hb
    simpa using this
   ·rw [if_neg he]
    obtain ⟨j, rfl⟩ : ∃ j, i = 2 * j + 1 := ⟨i / 2, by omega⟩
    have e : 2 * j + 1 - 1 = 2 * j := by omega
    rw [e, bM (by omega)]
    have := h.bye j hi
    simp only [Bool.not_eq_true', decide_eq_false_iff_not]
    intro hc
    exact this hc hb
  ·rw [if_neg hb, Bool.and_eq_true, jB]
   refine ⟨?_, ?_⟩
   ·simp only [Bool.not_eq_true', decide_eq_false_iff_not]
    intro hm
    rw [List.mem_take_iff_getElem] at hm
    obtain ⟨k, hk, he⟩ := hm
    exact hb (h.dup i hi k (by omega) he)
   ·have := h.rng i hi; omega
theorem bCs {S : List Int} (hev : S.length % 2 = 0) : (List.range S.length).all (aIk S) = true ↔ aDs S := by
 rw [kP]
 constructor
 ·intro h
  have hd : ∀ i (hi : i < S.length), (wi S[i] (-1) 999 = true ∧ ¬ (i % 2 = 1 ∧ S[i] = -1 ∧ S.getD (i - 1) 0 = -1)) ∧ ∀ k, k < i → ¬ (S.getD k 0 = S[i] ∧ S[i] ≠ -1) := by
   intro i hi
   have := h i hi
   simp only [aIk, bM hi, Bool.and_eq_true, kP, Bool.not_eq_true', Bool.and_eq_false_iff, decide_eq_false_iff_not, Bool.not_eq_false', decide_eq_true_eq] at this
   refine ⟨⟨this.1.1, fun ⟨a, b, c⟩ => ?_⟩, fun k hk ⟨a, b⟩ => ?_⟩
   ·rcases this.1.2 with (h1 | h1) | h1
    ·exact h1 a
    ·exact h1 b
    ·exact h1 c
   ·rcases this.2 k hk with h1 | h1
    ·exact h1 a
    ·exact b h1
  refine ⟨fun i hi => jB.1 (hd i hi).1.1, fun j hj hb hc => ?_, fun i hi k hk he => ?_⟩
  ·refine (hd (2 * j + 1) hj).1.2 ⟨by omega, hc, ?_⟩
   have e : 2 * j + 1 - 1 = 2 * j := by omega
   rw [e, bM (by omega)]
   exact hb
  ·have := (hd i hi).2 k hk
   rw [bM (by omega)] at this
   by_cases hb : S[i] = -1
   ·exact hb
   ·exact absurd ⟨he, hb⟩ this
 ·intro h i hi
  simp only [aIk, bM hi, Bool.and_eq_true, kP, Bool.not_eq_true', Bool.and_eq_false_iff, decide_eq_false_iff_not, Bool.not_eq_false', decide_eq_true_eq]
  refine ⟨⟨jB.2 (h.rng i hi), ?_⟩, fun k hk => ?_⟩
  ·by_cases ho : i % 2 = 1
   ·obtain ⟨j, rfl⟩ : ∃ j, i = 2 * j + 1 := ⟨i / 2, by omega⟩
    have e : 2 * j + 1 - 1 = 2 * j := by omega
    rw [e, bM (by omega)]
    by_cases hc : S[2 * j] = -1
    ·exact .inl (.inr (h.bye j hi hc))
    ·exact .inr hc
   ·exact .inl (.inl ho)
  ·rw [bM (by omega)]
   by_cases he : S[k] = S[i]
   ·exact .inr (h.dup i hi k hk he)
   ·exact .inl he
def tN (t : aP) : Bool := pM t && (List.range t.Slots.length).all (aIj t.Slots)
theorem aSi (t : aP) : qY t = some (tN t) := bDh t
theorem aRq (t : aP) : nC t = some (tN t) := by
 rw [bDi, tN]
 cases hs : pM t with
 | false => rfl
 | true =>
  obtain ⟨_, hev⟩ := aIz hs
  congr 1
  rw [Bool.true_and, Bool.true_and, Bool.eq_iff_iff, aNr hev, bCs hev]
theorem pA {t : aP} (h : tN t = true) : TreeOK t := by
 rw [tN, Bool.and_eq_true] at h
 obtain ⟨hs, ha⟩ := h
 obtain ⟨_, hev⟩ := aIz hs
 obtain ⟨h1, h2, h3⟩ := (aNr hev).1 ha
 simp only [pM, Bool.and_eq_true, jB, decide_eq_true_eq] at hs
 exact ⟨hs.1.1, hs.1.2, hs.2, h1, h2, h3⟩
def dB (t : aP) (r : Int) : Nat := 2 ^ (t.Rounds.toNat - 1 - r.toNat)
def kN (t : aP) (r p : Int) : Bool := wi r 0 (t.Rounds - 1) && wi p 0 (dB t r - 1)
def gM (t : aP) (s : aG) : Bool :=
 wi s.Player 0 999 && (if s.Kind = 5 then decide (s.Round = 0) && wi s.Place 0 (t.Slots.length - 1) && wi s.Old 0 999
  else wi s.Kind 1 4 && kN t s.Round s.Place && decide (s.Old = 0) && (decide (0 < s.Round) || !decide (t.Slots.getD (2 * s.Place).toNat 0 = -1) && !decide (t.Slots.getD (2 * s.Place + 1).toNat 0 = -1)))
theorem bFz : ∀ R : Fin 6, ∀ r : Fin 6, r.val < R.val → ((2 ^ R.val : Nat) : Int).fdiv (2 ^ (min (r.val + 1) 64)) = ((2 ^ (R.val - 1 - r.val) : Nat) : Int) := by decide +kernel
theorem aZd : ∀ n : Fin 6, w64 (1 * 2 ^ (min n.val 64)) = ((2 ^ n.val : Nat) : Int) := by decide +kernel
section
variable {t : aP} (ht : TreeOK t)
include ht
theorem bFf : (t.Slots.length : Int) = ((2 ^ t.Rounds.toNat : Nat) : Int) := by rw [ht.len]
theorem bFy {r : Int} (h0 : 0 ≤ r) (h1 : r < t.Rounds) : (t.Slots.length : Int).fdiv (2 ^ (min (w64 (r + 1)).toNat 64)) = ((dB t r : Nat) : Int) := by
 have h5 := ht.r5
 have hw : w64 (r + 1) = r + 1 := dF (by omega) (by omega)
 have := bFz ⟨t.Rounds.toNat, by omega⟩ ⟨r.toNat, by omega⟩ (by simp; omega)
 rw [hw, bFf ht]
 have e : (r + 1).toNat = r.toNat + 1 := by omega
 rw [e]
 exact this
theorem aCi {r : Int} : dB t r ≤ 16 := by
 have h5 := ht.r5
 have : t.Rounds.toNat - 1 - r.toNat ≤ 4 := by omega
 exact Nat.pow_le_pow_right (by omega) this
omit ht in
theorem aQg {t : aP} {r : Int} : 1 ≤ dB t r := Nat.one_le_two_pow
theorem bEl (r p : Int) : oB ⟨r, p⟩ t = some (kN t r p) := by
 have h1 := ht.r1
 have h5 := ht.r5
 have hw : w64 (t.Rounds - 1) = t.Rounds - 1 := dF (by omega) (by omega)
 unfold oB
 simp only [wG, hw, Option.bind_some, kN]
 cases hr : wi r 0 (t.Rounds - 1) with
 | false => simp
 | true =>
  have hr' := jB.1 hr
  have hch : chk (decide (0 ≤ w64 (r + 1))) = some () := by
   rw [dF (by omega) (by omega)]
   unfold chk; rw [decide_eq_true (by omega)]; rfl
  have hpl := aCi ht (r := r)
  have hpp := aQg (t := t) (r := r)
  have hw2 : w64 ((dB t r : Int) - 1) = (dB t r : Int) - 1 := dF (by omega) (by omega)
  simp only [hch, Option.bind_some, cond_true, bFy ht hr'.1 (by omega), hw2, Bool.true_and]
theorem aKb {r : Int} (h0 : 0 ≤ r) (h1 : r < t.Rounds) : kX t r = some ((dB t r : Nat) : Int) := by
 have h5 := ht.r5
 have hw : w64 (t.Rounds - 1) = t.Rounds - 1 := dF (by omega) (by omega)
 have hw2 : w64 (t.Rounds - 1 - r) = t.Rounds - 1 - r := dF (by omega) (by omega)
 have hu : IntKind.u64.wrap (t.Rounds - 1 - r) = t.Rounds - 1 - r := xI (by omega) (by omega)
 have hch : chk (decide (0 ≤ t.Rounds - 1 - r)) = some () := by unfold chk; rw [decide_eq_true (by omega)]; rfl
 unfold kX
 simp only [hw, hw2, hu, hch, Option.bind_some]
 have := aZd ⟨(t.Rounds - 1 - r).toNat, by omega⟩
 simp only at this
 rw [this]
 unfold dB
 have e : (t.Rounds - 1 - r).toNat = t.Rounds.toNat - 1 - r.toNat := by omega
 rw [e]
theorem aOp (r p : Int) : lR t r p = some (kN t r p) := by
 have h1 := ht.r1
 have h5 := ht.r5
 have hw : w64 (t.Rounds - 1) = t.Rounds - 1 := dF (by omega) (by omega)
 unfold lR
 simp only [xD, hw, Option.bind_some, kN]
 cases hr : wi r 0 (t.Rounds - 1) with
 | false => simp
 | true =>
  have hr' := jB.1 hr
  have hpl := aCi ht (r := r)
  have hpp := aQg (t := t) (r := r)
  have hw2 : w64 ((dB t r : Int) - 1) = (dB t r : Int) - 1 := dF (by omega) (by omega)
  simp only [cond_true, aKb ht hr'.1 (by omega), Option.bind_some, hw2, Bool.true_and]
theorem aNe {p : Int} (h : kN t 0 p = true) : 0 ≤ p ∧ (2 * p + 1).toNat < t.Slots.length ∧ p ≤ 15 := by
 simp only [kN, Bool.and_eq_true, jB] at h
 have hl := ht.len
 have h1 := ht.r1
 have hpl := aCi ht (r := 0)
 have e : 2 ^ t.Rounds.toNat = 2 * dB t 0 := by
  unfold dB
  have : t.Rounds.toNat = (t.Rounds.toNat - 1 - (0 : Int).toNat) + 1 := by simp; omega
  rw [this, Nat.pow_succ]
  simp
  omega
 omega
theorem aKw (s : aG) : tP t s = some (gM t s) := by
 have h32 := ht.len32
 have hw : w64 ((t.Slots.length : Int) - 1) = (t.Slots.length : Int) - 1 := dF (by omega) (by omega)
 unfold tP gM
 simp only [wG, Option.bind_some, hw]
 cases hp : wi s.Player 0 999 with
 | false => simp
 | true =>
  by_cases hk : s.Kind = 5
  ·simp only [hk, decide_true, cond_true, if_true, Bool.not_true, cond_false, Bool.true_and, dG, Option.bind_some]
  ·simp only [hk, decide_false, cond_false, if_false, Bool.not_true, Bool.true_and, eL, Option.bind_some, bEl ht]
   cases wi s.Kind 1 4 with
   | false => simp
   | true =>
    by_cases ho : s.Old = 0
    ·simp only [ho, decide_true, Bool.not_true, Bool.or_false, cond_false, Option.bind_some, Bool.true_and, Bool.and_true]
     cases hm : kN t s.Round s.Place with
     | false => simp
     | true =>
      simp only [Bool.not_true, cond_false, Bool.true_and]
      by_cases hr : 0 < s.Round
      ·simp [hr]
      ·have hm0 : s.Round = 0 := by
        simp only [kN, Bool.and_eq_true, jB] at hm
        omega
       rw [hm0] at hm
       obtain ⟨p0, p1, p2⟩ := aNe ht hm
       have e1 : w64 (2 * s.Place) = 2 * s.Place := dF (by omega) (by omega)
       have e2 : w64 (2 * s.Place + 2) = 2 * s.Place + 2 := dF (by omega) (by omega)
       have hsub : sub t.Slots (2 * s.Place) (2 * s.Place + 2) = some [t.Slots.getD (2 * s.Place).toNat 0, t.Slots.getD (2 * s.Place + 1).toNat 0] := by
        obtain ⟨q, hq⟩ : ∃ q : Nat, s.Place = q := ⟨s.Place.toNat, by omega⟩
        rw [hq] at p1 ⊢
        have a1 : 2 * q + 1 < t.Slots.length := by omega
        have b1 : (2 * (q : Int)).toNat = 2 * q := by omega
        have b2 : (2 * (q : Int) + 1).toNat = 2 * q + 1 := by omega
        have b3 : (2 * (q : Int) + 2).toNat = 2 * q + 2 := by omega
        rw [b1, b2, bM (by omega), bM a1]
        unfold sub
        rw [if_pos ⟨by omega, by omega, by omega⟩, b1, b3]
        congr 1
        apply List.ext_getElem
        ·simp; omega
        ·intro i h1 h2
         simp at h2
         have : i = 0 ∨ i = 1 := by omega
         rcases this with rfl | rfl <;> simp
       simp only [hr, decide_false, cond_false, Bool.false_or, e1, e2, hsub, Option.bind_some]
       have hc : ∀ a b : Int, cO [a, b] (-1) = some (decide (a = -1) || decide (b = -1)) := by
        intro a b
        rw [pP [a, b] (show (2 : Nat) ≤ 9223372036854775807 by omega)]
        congr 1
        rw [Bool.eq_iff_iff]
        simp only [decide_eq_true_eq, List.mem_cons, List.not_mem_nil, or_false, Bool.or_eq_true]
        exact ⟨fun h => h.imp Eq.symm Eq.symm, fun h => h.imp Eq.symm Eq.symm⟩
       rw [hc]
       cases decide (t.Slots.getD (2 * s.Place).toNat 0 = -1) <;> cases decide (t.Slots.getD (2 * s.Place + 1).toNat 0 = -1) <;> rfl
    ·simp [ho]
theorem aYx (s : aG) : qH t s = some (gM t s) := by
 have h32 := ht.len32
 have hw : w64 ((t.Slots.length : Int) - 1) = (t.Slots.length : Int) - 1 := dF (by omega) (by omega)
 unfold qH gM
 simp only [xD, Option.bind_some, hw]
 cases hp : wi s.Player 0 999 with
 | false => simp
 | true =>
  by_cases hk : s.Kind = 5
  ·simp only [hk, decide_true, cond_true, if_true, Bool.not_true, cond_false, Bool.true_and, dG, Option.bind_some]
  ·simp only [hk, decide_false, cond_false, if_false, Bool.not_true, Bool.true_and, eL, Option.bind_some, aOp ht]
   cases wi s.Kind 1 4 with
   | false => simp
   | true =>
    cases hm : kN t s.Round s.Place with
    | false => simp
    | true =>
     by_cases ho : s.Old = 0
     ·simp only [ho, decide_true, Bool.not_true, Bool.or_false, cond_false, Option.bind_some, Bool.true_and, Bool.and_true]
      by_cases hr : 0 < s.Round
      ·simp [hr]
      ·have hm0 : s.Round = 0 := by
        simp only [kN, Bool.and_eq_true, jB] at hm
        omega
       rw [hm0] at hm
       obtain ⟨p0, p1, p2⟩ := aNe ht hm
       have e1 : w64 (2 * s.Place) = 2 * s.Place := dF (by omega) (by omega)
       have e2 : w64 (2 * s.Place + 1) = 2 * s.Place + 1 := dF (by omega) (by omega)
       have i1 : idx t.Slots (2 * s.Place) = some (t.Slots.getD (2 * s.Place).toNat 0) := by
        rw [aMe (by omega) (by omega), bM (by omega)]
       have i2 : idx t.Slots (2 * s.Place + 1) = some (t.Slots.getD (2 * s.Place + 1).toNat 0) := by
        rw [aMe (by omega) p1, bM p1]
       simp only [hr, decide_false, cond_false, Bool.false_or, e1, e2, i1, i2, Option.bind_some, dG]
     ·simp [ho]
end
end Go.Am
end
section
namespace Go.Am
def rI (out : List aG) (x : aG) : List aG := if x ∈ out then out else out ++ [x]
def bZ (l : List aG) : List aG := l.foldl rI []
theorem aLh (l : List aG) : ∀ out, out.Nodup → (l.foldl rI out).Nodup ∧ (∀ x, x ∈ l.foldl rI out ↔ x ∈ out ∨ x ∈ l) ∧ (l.foldl rI out).length ≤ out.length + l.length := by
 induction l with
 | nil => intro out h; exact ⟨h, by simp, by simp⟩
 | cons a l ih =>
  intro out h
  have hs : (rI out a).Nodup ∧ (∀ x, x ∈ rI out a ↔ x ∈ out ∨ x = a) ∧ (rI out a).length ≤ out.length + 1 := by
   unfold rI
   split
   ·rename_i hm
    exact ⟨h, fun x => ⟨.inl, fun h => h.elim id fun e => e ▸ hm⟩, by omega⟩
   ·rename_i hm
    refine ⟨List.nodup_append.2 ⟨h, by simp, fun x hx y hy => ?_⟩, by simp, by simp⟩
    simp at hy; subst hy; exact fun e => hm (e ▸ hx)
  obtain ⟨h1, h2, h3⟩ := ih _ hs.1
  refine ⟨h1, fun x => ?_, ?_⟩
  ·rw [List.foldl_cons, h2, hs.2.1, List.mem_cons, or_assoc]
  ·rw [List.foldl_cons]; simp only [List.length_cons]; omega
theorem aGn (l : List aG) : (bZ l).Nodup := (aLh l [] List.nodup_nil).1
theorem qW (l : List aG) (x : aG) : x ∈ bZ l ↔ x ∈ l := by
 have := (aLh l [] List.nodup_nil).2.1 x
 simpa [bZ] using this
theorem aCf (l : List aG) : (bZ l).length ≤ l.length := by
 have := (aLh l [] List.nodup_nil).2.2
 simpa [bZ] using this
theorem aXw (l : List aG) (hl : l.length ≤ 1000) : pU l = some (bZ l) := by
 unfold pU
 have main := eX (S := List aG) (fun k i out => eI l k i out) l.length (fun i out => some ((l.drop i).foldl rI out)) (fun i out => out.length ≤ i) ?_ ?_ BIG [] (cG (by omega)) (by simp)
 ·simpa [bZ] using main
 ·intro k i out hi hI ih
  have hin : iX (eI l k) l i out BIG false 0 = pF (eI l k) l i (decide (l[i] ∈ out)) out := by
   have h := eX (S := Bool) (fun q j tw => iX (eI l k) l i out q tw j) out.length (fun j tw => pF (eI l k) l i (tw || decide (l[i] ∈ out.drop j)) out) (fun _ _ => True) ?_ ?_ BIG false (cG (by omega)) trivial
   ·simpa using h
   ·intro q j tw hj _ ih2
    have e : out.drop j = out[j] :: out.drop (j + 1) := List.drop_eq_getElem_cons hj
    simp only [iX, Int.ofNat_lt, hj, decide_true, cond_true, bN hj, bN hi, Option.bind_some, eL, bU (show j < 9223372036854775807 by omega), ih2 _ trivial]
    congr 1
    rw [e]
    by_cases h1 : out[j] = l[i]
    ·simp [h1]
    ·rw [← e]
     have : l[i] ∈ out.drop j ↔ l[i] ∈ out.drop (j + 1) := by
      rw [e, List.mem_cons]
      exact ⟨fun h => h.resolve_left fun e => h1 e.symm, .inr⟩
     simp [h1, this]
   ·intro q tw _
    simp [iX]
  have e : l.drop i = l[i] :: l.drop (i + 1) := List.drop_eq_getElem_cons hi
  simp only [eI, Int.ofNat_lt, hi, decide_true, cond_true, hin]
  unfold pF
  rw [e, List.foldl_cons]
  by_cases hm : l[i] ∈ out
  ·simp only [hm, decide_true, Bool.not_true, cond_false, lZ, bU (show i < 9223372036854775807 by omega)]
   rw [ih out (by omega), rI, if_pos hm]
  ·simp only [hm, decide_false, Bool.not_false, cond_true, lZ, bU (show i < 9223372036854775807 by omega), bN hi, Option.bind_some]
   rw [eN (by simp; omega), Option.bind_some, ih _ (by simp; omega), rI, if_neg hm]
 ·intro k out _
  simp [eI, wR]
def isL (s : aG) : Bool := decide (s.Kind = 5)
def dK (l : List aG) : List aG := (bZ l).filter isL
structure LA (pre : List aG) (lucky : List (aG × Int)) (about : List (aD × aG)) : Prop where
 lm : ∀ s, s ∈ lucky.map (·.1) ↔ s ∈ pre ∧ s.Kind = 5
 ln : (lucky.map (·.1)).Nodup
 am : ∀ m s, (m, s) ∈ about ↔ (s ∈ pre ∧ s.Kind ≠ 5 ∧ m = ⟨s.Round, s.Place⟩)
 an : (about.map (·.1)).Nodup
theorem aLc {α β : Type} [DecidableEq α] (a : α) (v : β) : ∀ l : List (α × β), (gA a v l).map (·.1) = if a ∈ l.map (·.1) then l.map (·.1) else l.map (·.1) ++ [a]
 | [] => by simp [gA]
 | (k, u) :: l => by
  by_cases h : a = k
  ·subst h; simp [gA]
  ·have := aLc a v l
   simp only [gA, h, decide_false, cond_false, List.map_cons, this, List.mem_cons, false_or]
   split <;> simp
theorem aEo {α β : Type} [DecidableEq α] (a : α) : ∀ l : List (α × β), dO a l = decide (a ∈ l.map (·.1))
 | [] => by simp [dO]
 | (k, u) :: l => by
  simp only [dO, aEo a l, List.map_cons, List.mem_cons]
  by_cases h : a = k <;> simp [h]
theorem aOg {α β : Type} [DecidableEq α] {a : α} {v z : β} : ∀ {l : List (α × β)}, (l.map (·.1)).Nodup → (a, v) ∈ l → cW a z l = v
 | (k, u) :: l, hn, hm => by
  rw [List.map_cons, List.nodup_cons] at hn
  rcases List.mem_cons.1 hm with h | h
  ·cases h; simp [cW]
  ·have hne : a ≠ k := fun e => hn.1 (e ▸ List.mem_map.2 ⟨_, h, rfl⟩)
   simp only [cW, hne, decide_false, cond_false]
   exact aOg hn.2 h
theorem aSl {α β : Type} [DecidableEq α] {a : α} {v : β} {l : List (α × β)} (h : a ∉ l.map (·.1)) : gA a v l = l ++ [(a, v)] :=
 aOh a v l (by rw [aEo]; simpa using h)
theorem aLd {α β : Type} [DecidableEq α] {a : α} {v : β} : ∀ {l : List (α × β)}, (l.map (·.1)).Nodup → (a, v) ∈ l → gA a v l = l
 | (k, u) :: l, hn, hm => by
  rw [List.map_cons, List.nodup_cons] at hn
  rcases List.mem_cons.1 hm with h | h
  ·cases h; simp [gA]
  ·have hne : a ≠ k := fun e => hn.1 (e ▸ List.mem_map.2 ⟨_, h, rfl⟩)
   simp only [gA, hne, decide_false, cond_false]
   rw [aLd hn.2 h]
def aMa (l : List aG) : Prop := ∀ x ∈ l, ∀ y ∈ l, x.Kind ≠ 5 → y.Kind ≠ 5 → x.Round = y.Round → x.Place = y.Place → x = y
theorem aYn {l : List aG} (hl : l.length ≤ 1000) {Q : (Option bJ × Bool) → Prop} {pl : List Int} {won : List (aD × Int)} {t : aP}
  (hbad : ¬ aMa l → Q (none, false)) (hgood : aMa l → ∀ lucky about, LA l lucky about → uM Q pl won t lucky about) : jD Q l l.length pl won t BIG 0 [] [] := by
 refine pK (S := List (aG × Int) × List (aD × aG)) (fun k i s => jD Q l l.length pl won t k i s.1 s.2) l.length (fun p => p) (fun i s => LA (l.take i) s.1 s.2 ∧ aMa (l.take i)) ?_ ?_ BIG 0 ([], []) (cG (by omega)) ?_
 ·rintro k i ⟨lucky, about⟩ hi ⟨⟨h1, h2, h3, h4⟩, hno⟩ ih
  have ht : ∀ x, x ∈ l.take (i + 1) ↔ x ∈ l.take i ∨ x = l[i] := fun x => by
   rw [List.take_succ_eq_append_getElem hi, List.mem_append, List.mem_singleton]
  have hmi : l[i] ∈ l.take (i + 1) := (ht _).2 (.inr rfl)
  simp only [jD, Int.ofNat_lt, hi, decide_true, cond_true, bN hi, bU (show i < 9223372036854775807 by omega)]
  refine ⟨_, rfl, ?_⟩
  by_cases hk : l[i].Kind = 5
  ·simp only [hk, decide_true, cond_true]
   refine ih (_, _) ⟨⟨fun s => ?_, ?_, fun m s => ?_, h4⟩, fun x hx y hy kx ky => ?_⟩
   ·rw [aLc]
    split
    ·rename_i hm
     rw [h1, ht]
     constructor
     ·rintro ⟨a, b⟩; exact ⟨.inl a, b⟩
     ·rintro ⟨a | a, b⟩
      ·exact ⟨a, b⟩
      ·exact (h1 s).1 (a ▸ hm)
    ·rw [List.mem_append, List.mem_singleton, h1, ht]
     constructor
     ·rintro (⟨a, b⟩ | rfl)
      ·exact ⟨.inl a, b⟩
      ·exact ⟨.inr rfl, hk⟩
     ·rintro ⟨a | a, b⟩
      ·exact .inl ⟨a, b⟩
      ·exact .inr a
   ·rw [aLc]
    split
    ·exact h2
    ·rename_i hm
     exact List.nodup_append.2 ⟨h2, by simp, fun x hx y hy => by simp at hy; subst hy; exact fun e => hm (e ▸ hx)⟩
   ·rw [h3, ht]
    constructor
    ·rintro ⟨a, b⟩; exact ⟨.inl a, b⟩
    ·rintro ⟨a | a, b, c⟩
     ·exact ⟨a, b, c⟩
     ·exact absurd (a ▸ hk) b
   ·have hx' : x ∈ l.take i := ((ht x).1 hx).resolve_right fun e => kx (e ▸ hk)
    have hy' : y ∈ l.take i := ((ht y).1 hy).resolve_right fun e => ky (e ▸ hk)
    exact hno x hx' y hy' kx ky
  ·simp only [hk, decide_false, cond_false]
   by_cases hm : (⟨l[i].Round, l[i].Place⟩ : aD) ∈ about.map (·.1)
   ·have hhas : dO (⟨l[i].Round, l[i].Place⟩ : aD) about = true := by rw [aEo]; simpa using hm
    obtain ⟨⟨m0, y⟩, hy, hmy⟩ := List.mem_map.1 hm
    simp only at hmy
    subst hmy
    have hget := aOg (z := (⟨0, 0, 0, 0, 0⟩ : aG)) h4 hy
    obtain ⟨y1, y2, y3⟩ := (h3 _ _).1 hy
    simp only [hhas, cond_true, hget]
    refine ⟨_, rfl, ?_⟩
    by_cases he : y = l[i]
    ·simp only [he, decide_true, Bool.not_true, cond_false]
     rw [aLd h4 (by rw [he] at hy; exact hy)]
     have hin : ∀ x, x ∈ l.take (i + 1) ↔ x ∈ l.take i := fun x => by
      rw [ht]
      exact ⟨fun h => h.elim id fun e => by rw [e, ← he]; exact y1, .inl⟩
     exact ih (_, _) ⟨⟨fun s => by rw [h1, hin], h2, fun m s => by rw [h3, hin], h4⟩, fun x hx y hy => hno x ((hin x).1 hx) y ((hin y).1 hy)⟩
    ·simp only [he, decide_false, Bool.not_false, cond_true]
     refine hbad fun hN => he ?_
     simp only [aD.mk.injEq] at y3
     exact hN y (List.mem_of_mem_take y1) l[i] (List.getElem_mem hi) y2 hk y3.1.symm y3.2.symm
   ·have hhas : dO (⟨l[i].Round, l[i].Place⟩ : aD) about = false := by rw [aEo]; simpa using hm
    simp only [hhas, cond_false]
    refine ⟨_, rfl, ?_⟩
    simp only [cond_false]
    rw [aSl hm]
    refine ih (_, _) ⟨⟨fun s => ?_, h2, fun m s => ?_, ?_⟩, fun x hx y hy kx ky er ep => ?_⟩
    ·rw [h1, ht]
     constructor
     ·rintro ⟨a, b⟩; exact ⟨.inl a, b⟩
     ·rintro ⟨a | a, b⟩
      ·exact ⟨a, b⟩
      ·exact absurd (a ▸ b) hk
    ·rw [List.mem_append, List.mem_singleton, h3, ht]
     constructor
     ·rintro (⟨a, b, c⟩ | h)
      ·exact ⟨.inl a, b, c⟩
      ·cases h; exact ⟨.inr rfl, hk, rfl⟩
     ·rintro ⟨a | a, b, c⟩
      ·exact .inl ⟨a, b, c⟩
      ·subst a; exact .inr (by rw [c])
    ·rw [List.map_append]
     exact List.nodup_append.2 ⟨h4, by simp, fun x hx y hy => by simp at hy; subst hy; exact fun e => hm (e ▸ hx)⟩
    ·have fresh : ∀ z, z ∈ l.take i → z.Kind ≠ 5 → ¬ (z.Round = l[i].Round ∧ z.Place = l[i].Place) := by
      rintro z hz kz ⟨e1, e2⟩
      refine hm (List.mem_map.2 ⟨(⟨z.Round, z.Place⟩, z), (h3 _ _).2 ⟨hz, kz, rfl⟩, ?_⟩)
      rw [← e1, ← e2]
     rcases (ht x).1 hx with hx' | rfl
     ·rcases (ht y).1 hy with hy' | rfl
      ·exact hno x hx' y hy' kx ky er ep
      ·exact absurd ⟨er, ep⟩ (fresh x hx' kx)
     ·rcases (ht y).1 hy with hy' | hy'
      ·exact absurd ⟨er.symm, ep.symm⟩ (fresh y hy' ky)
      ·exact hy'.symm
 ·rintro k i ⟨lucky, about⟩ hi ⟨hL, hno⟩
  have hlt : decide ((i : Int) < (l.length : Int)) = false := decide_eq_false (by omega)
  have hta : l.take i = l := List.take_of_length_le (by omega)
  rw [hta] at hL hno
  simp only [jD, hlt, cond_false]
  exact hgood hno lucky about hL
 ·exact ⟨⟨by simp, by simp, by simp, by simp⟩, fun x hx => by simp at hx⟩
end Go.Am
end
section
namespace Go.Am
def iR (L : List aG) (i now : Int) : List aG := L.filter fun s => decide (s.Place = i) && decide (s.Old = now)
def jO (L : List aG) (i : Int) : Nat → Int → List Int → List aG → Option (Int × List Int × List aG)
 | 0, _, _, _ => none
 | n + 1, now, ever, U => match iR L i now with
  | [] => some (now, ever, U)
  | [s] => if s.Player ∈ ever then none else jO L i n s.Player (ever ++ [s.Player]) (U ++ [s])
  | _ :: _ :: _ => none
structure SI (L : List aG) (T : Nat) (i now : Int) (ever : List Int) (U : List aG) : Prop where
 un : U.Nodup
 us : ∀ u ∈ U, u ∈ L
 ne : now ∈ ever
 pl : ∀ u ∈ U, u.Place ≤ i
 old : ∀ u ∈ U, u.Place = i → u.Old ∈ ever ∧ u.Old ≠ now
 el : ever.length = T + U.length
theorem qE {α : Type} [DecidableEq α] : ∀ {l m : List α}, l.Nodup → (∀ x ∈ l, x ∈ m) → l.length ≤ m.length
 | [], _, _, _ => by simp
 | a :: l, m, hn, hs => by
  rw [List.nodup_cons] at hn
  have hm : a ∈ m := hs a (by simp)
  have := qE (l := l) (m := m.erase a) hn.2 fun x hx => (List.mem_erase_of_ne (show x ≠ a from fun e => hn.1 (e ▸ hx))).2 (hs x (by simp [hx]))
  rw [List.length_erase_of_mem hm] at this
  have : 0 < m.length := List.length_pos_of_mem hm
  simp only [List.length_cons]; omega
theorem uJ {L : List aG} {i now : Int} {s : aG} : s ∈ iR L i now ↔ s ∈ L ∧ s.Place = i ∧ s.Old = now := by simp [iR]
theorem SI.next {L : List aG} {T : Nat} {i now : Int} {ever : List Int} {U : List aG} (h : SI L T i now ever U) {s : aG} (hs : s ∈ iR L i now) (hp : s.Player ∉ ever) :
  SI L T i s.Player (ever ++ [s.Player]) (U ++ [s]) := by
 obtain ⟨h1, h2, h3, h4, h5, h6⟩ := h
 obtain ⟨m1, m2, m3⟩ := uJ.1 hs
 have hsu : s ∉ U := fun hu => (h5 s hu m2).2 m3
 refine ⟨List.nodup_append.2 ⟨h1, by simp, fun x hx y hy => ?_⟩, fun u hu => ?_, by simp, fun u hu => ?_, fun u hu hpl => ?_, by simp; omega⟩
 ·simp at hy; subst hy; exact fun e => hsu (e ▸ hx)
 ·rcases List.mem_append.1 hu with hu | hu
  ·exact h2 u hu
  ·simp at hu; exact hu ▸ m1
 ·rcases List.mem_append.1 hu with hu | hu
  ·exact h4 u hu
  ·simp at hu; subst hu; omega
 ·rcases List.mem_append.1 hu with hu | hu
  ·obtain ⟨a, b⟩ := h5 u hu hpl
   exact ⟨List.mem_append_left _ a, fun e => hp (e ▸ a)⟩
  ·simp at hu; subst hu
   exact ⟨List.mem_append_left _ (m3 ▸ h3), fun e => hp (e ▸ m3 ▸ h3)⟩
theorem SI.le {L : List aG} {T : Nat} {i now : Int} {ever : List Int} {U : List aG} (h : SI L T i now ever U) : U.length ≤ L.length := qE h.un h.us
def kH (L : List aG) : Nat → Nat → List Int → List Int → List aG → Option (List Int × List aG)
 | 0, _, d, _, U => some (d, U)
 | n + 1, i, d, ever, U => match jO L i (L.length + 1) (d.getD i 0) ever U with
  | none => none
  | some (now, ever', U') => kH L n (i + 1) (d.set i now) ever' U'
section
variable {t : aP} {l : List aG} (hl : l.length ≤ 1000) (h32 : t.Slots.length ≤ 32)
theorem bHa (o : List Int) (ho : o.length ≤ 2000) (v : Int) : vD o v = some (decide (v ∈ o)) := by
 unfold vD
 have := eX (S := Unit) (fun k i _ => lP o v k i) o.length (fun i _ => some (decide (v ∈ o.drop i))) (fun _ _ => True) ?_ ?_ BIG () (cG (by omega)) trivial
 ·simpa using this
 ·intro k i _ hi _ ih
  have := ih () trivial
  simp only [lP, Int.ofNat_lt, hi, decide_true, cond_true, bN hi, Option.bind_some, bU (show i < 9223372036854775807 by omega), this]
  have e : o.drop i = o[i] :: o.drop (i + 1) := List.drop_eq_getElem_cons hi
  by_cases h : o[i] = v
  ·simp [h, e]
  ·have : v ∈ o.drop i ↔ v ∈ o.drop (i + 1) := by
    rw [e, List.mem_cons]
    exact ⟨fun q => q.resolve_left fun e => h e.symm, .inr⟩
   simp [h, this]
 ·intro k _ _
  simp [lP, yV]
include hl in
theorem bAj (a0 : Int → Int → List Int → List Int → Option (List Int × Bool)) (a2 : Int → Int → Bool → List Int → Option (List Int × Bool)) (used i now : Int) (ag : Bool) (out ever : List Int) :
  eV a0 a2 (bZ l) used i now ag t out ever BIG 0 [] = lU a0 a2 (bZ l) used i now ag t out ((iR (dK l) i now).map (·.Player)) ever := by
 have hol := aCf l
 have := eX (S := List Int) (fun k j nx => eV a0 a2 (bZ l) used i now ag t out ever k j nx) (bZ l).length
  (fun j nx => lU a0 a2 (bZ l) used i now ag t out (nx ++ (iR (((bZ l).drop j).filter isL) i now).map (·.Player)) ever) (fun j nx => nx.length ≤ j) ?_ ?_ BIG [] (cG (by omega)) (by simp)
 ·simpa [dK] using this
 ·intro k j nx hj hI ih
  have hj' : j < 1000 := by omega
  rw [List.drop_eq_getElem_cons hj, List.filter_cons]
  simp only [eV, Int.ofNat_lt, hj, decide_true, cond_true, bN hj, Option.bind_some, bU (show j < 9223372036854775807 by omega), dG]
  by_cases hk : (bZ l)[j].Kind = 5
  ·have hL : isL (bZ l)[j] = true := by simp [isL, hk]
   simp only [hk, hL, decide_true, if_true, Bool.true_and]
   unfold iR
   rw [List.filter_cons]
   cases hc : (decide ((bZ l)[j].Place = i) && decide ((bZ l)[j].Old = now)) with
   | false =>
    simp only [cond_false, Bool.false_eq_true, if_false]
    exact ih nx (by omega)
   | true =>
    simp only [cond_true, if_true]
    rw [eN (by simp; omega), Option.bind_some, ih _ (by simp; omega)]
    simp [iR]
  ·have hL : isL (bZ l)[j] = false := by simp [isL, hk]
   simp only [hk, hL, decide_false, Bool.false_and, cond_false, Bool.false_eq_true, if_false]
   exact ih nx (by omega)
 ·intro k nx _
  simp [eV, iR]
include hl h32 in
theorem bEd (a0 : Int → Int → List Int → List Int → Option (List Int × Bool)) (i : Int) (out : List Int) :
  ∀ n k now ever U, SI (dK l) t.Slots.length i now ever U → (dK l).length < n + U.length → n < k →
  fW a0 (bZ l) i t out k U.length now true ever = match jO (dK l) i n now ever U with
   | none => some ([], false)
   | some (now', ever', U') => pT a0 (bZ l) U'.length i now' t out ever' := by
 have hLl : (dK l).length ≤ 1000 := by
  have h1 := aCf l
  have h2 : (dK l).length ≤ (bZ l).length := List.length_filter_le _ _
  omega
 intro n
 induction n with
 | zero =>
  intro k now ever U hS hn hk
  have := hS.le
  omega
 | succ n ih =>
  intro k now ever U hS hn hk
  cases k with
  | zero => omega
  | succ k =>
   have hU := hS.le
   have hel := hS.el
   simp only [fW, cond_true, bAj hl, jO]
   unfold lU
   cases hc : iR (dK l) i now with
   | nil =>
    simp only [List.map_nil, List.length_nil, kG]
    simp only [Int.natCast_zero, show decide ((1 : Int) < 0) = false by decide, show decide ((0 : Int) = 1) = false by decide, cond_false, Option.bind_some]
    cases k with
    | zero => omega
    | succ k => simp [fW]
   | cons s cs =>
    cases cs with
    | cons s2 cs =>
     simp only [List.map_cons, List.length_cons]
     have : decide ((1 : Int) < ((((cs.map (·.Player)).length + 1 + 1 : Nat)) : Int)) = true := decide_eq_true (by omega)
     rw [this]
     rfl
    | nil =>
     have hs : s ∈ iR (dK l) i now := by rw [hc]; simp
     simp only [List.map_cons, List.map_nil, List.length_cons, List.length_nil, kG, aOd, Option.bind_some, bHa ever (by omega)]
     simp only [Nat.zero_add, Int.natCast_one, show decide ((1 : Int) < 1) = false by decide, decide_true, cond_true, cond_false, Option.bind_some]
     by_cases hp : s.Player ∈ ever
     ·simp [hp]
     ·simp only [hp, decide_false, cond_false, if_false]
      rw [eN (by simp; omega), Option.bind_some, dF (by omega) (by omega)]
      have := ih k s.Player (ever ++ [s.Player]) (U ++ [s]) (hS.next hs hp) (by simp; omega) (by omega)
      have e : (((U ++ [s]).length : Nat) : Int) = (U.length : Int) + 1 := by simp
      rw [e] at this
      exact this
end
end Go.Am
end
section
namespace Go.Am
def LOK (L : List aG) : Prop := ∀ s ∈ L, 0 ≤ s.Player ∧ 0 ≤ s.Old
theorem aJj {L : List aG} (hL : LOK L) {T : Nat} {i : Int} : ∀ {n : Nat} {now : Int} {ever : List Int} {U : List aG} {now' : Int} {ever' : List Int} {U' : List aG},
  SI L T i now ever U → jO L i n now ever U = some (now', ever', U') →
  SI L T i now' ever' U' ∧ (∀ x ∈ ever, x ∈ ever') ∧ (now' = now ∨ (now' ∉ ever ∧ 0 ≤ now' ∧ now ≠ -1)) ∧ iR L i now' = []
 | 0, _, _, _, _, _, _, _, h => by simp [jO] at h
 | n + 1, now, ever, U, now', ever', U', hS, h => by
  unfold jO at h
  cases hc : iR L i now with
  | nil =>
   rw [hc] at h
   simp only [Option.some.injEq, Prod.mk.injEq] at h
   obtain ⟨rfl, rfl, rfl⟩ := h
   exact ⟨hS, fun x hx => hx, .inl rfl, hc⟩
  | cons s cs =>
   cases cs with
   | cons s2 cs => simp [hc] at h
   | nil =>
    have hs : s ∈ iR L i now := by rw [hc]; simp
    obtain ⟨m1, m2, m3⟩ := uJ.1 hs
    obtain ⟨p1, p2⟩ := hL s m1
    rw [hc] at h
    by_cases hp : s.Player ∈ ever
    ·simp [hp] at h
    ·simp only [hp, if_false] at h
     obtain ⟨r1, r2, r3, r4⟩ := aJj hL (hS.next hs hp) h
     refine ⟨r1, fun x hx => r2 x (List.mem_append_left _ hx), ?_, r4⟩
     rcases r3 with rfl | ⟨a, b, c⟩
     ·exact .inr ⟨hp, p1, by omega⟩
     ·exact .inr ⟨fun hx => a (List.mem_append_left _ hx), b, by omega⟩
structure GI (L : List aG) (S : List Int) (i : Nat) (d ever : List Int) (U : List aG) : Prop where
 un : U.Nodup
 us : ∀ u ∈ U, u ∈ L
 el : ever.length = S.length + U.length
 pl : ∀ u ∈ U, u.Place < i
 len : d.length = S.length
 dr : ∀ j, i ≤ j → d.getD j 0 = S.getD j 0
 mem : ∀ x ∈ d, x ∈ ever
 dup : ∀ a b, a < b → b < d.length → d.getD a 0 = d.getD b 0 → d.getD b 0 = -1
 bye : ∀ a, a < d.length → (d.getD a 0 = -1 ↔ S.getD a 0 = -1)
 don : ∀ a : Nat, a < i → iR L a (d.getD a 0) = []
theorem aIi {l : List Int} {i : Nat} (h : i < l.length) : l.getD i 0 ∈ l := by rw [bM h]; exact List.getElem_mem h
theorem GI.start {L : List aG} {S : List Int} {i : Nat} {d ever : List Int} {U : List aG} (h : GI L S i d ever U) (hi : i < S.length) : SI L S.length i (d.getD i 0) ever U :=
 ⟨h.un, h.us, h.mem _ (aIi (by rw [h.len]; exact hi)), fun u hu => by have := h.pl u hu; omega, fun u hu e => by have := h.pl u hu; omega, h.el⟩
theorem nF {l : List Int} {i j : Nat} {v : Int} (hi : i < l.length) : (l.set i v).getD j 0 = if j = i then v else l.getD j 0 := by
 by_cases h : j = i
 ·subst h; simp [List.getD, hi]
 ·simp [List.getD, h, List.getElem?_set, Ne.symm h]
theorem GI.next {L : List aG} (hL : LOK L) {S : List Int} {i : Nat} {d ever : List Int} {U : List aG} (h : GI L S i d ever U) (hi : i < S.length) {n : Nat} {now' : Int} {ever' : List Int} {U' : List aG}
  (hs : jO L i n (d.getD i 0) ever U = some (now', ever', U')) : GI L S (i + 1) (d.set i now') ever' U' := by
 obtain ⟨hS, hev, hn, hc⟩ := aJj hL (h.start hi) hs
 have hid : i < d.length := by rw [h.len]; exact hi
 refine ⟨hS.un, hS.us, hS.el, fun u hu => by have := hS.pl u hu; omega, by rw [List.length_set, h.len], fun j hj => ?_, fun x hx => ?_, fun a b hab hb => ?_, fun a ha => ?_, fun a ha => ?_⟩
 ·rw [nF hid, if_neg (by omega)]; exact h.dr j (by omega)
 ·rcases List.mem_or_eq_of_mem_set hx with hx | rfl
  ·exact hev x (h.mem x hx)
  ·exact hS.ne
 ·rw [List.length_set] at hb
  rw [nF hid, nF hid]
  by_cases ha' : a = i
  ·subst ha'
   rw [if_pos rfl, if_neg (by omega)]
   intro e
   rcases hn with hn | ⟨n1, n2, n3⟩
   ·rw [hn] at e; exact h.dup a b hab hb e
   ·exact absurd (h.mem _ (aIi hb)) (e ▸ n1)
  ·rw [if_neg ha']
   by_cases hb' : b = i
   ·subst hb'
    rw [if_pos rfl]
    intro e
    rcases hn with hn | ⟨n1, n2, n3⟩
    ·rw [hn] at e ⊢; exact h.dup a b hab hb e
    ·exact absurd (h.mem _ (aIi (show a < d.length by omega))) (e ▸ n1)
   ·rw [if_neg hb']; exact h.dup a b hab hb
 ·rw [List.length_set] at ha
  rw [nF hid]
  by_cases ha' : a = i
  ·subst ha'
   rw [if_pos rfl, ← h.bye a ha]
   rcases hn with hn | ⟨n1, n2, n3⟩
   ·rw [hn]
   ·constructor
    ·intro e; omega
    ·intro e; exact absurd e n3
  ·rw [if_neg ha']; exact h.bye a ha
 ·rw [nF hid]
  by_cases ha' : a = i
  ·subst ha'; rw [if_pos rfl]; exact hc
  ·rw [if_neg ha']; exact h.don a (by omega)
theorem aIy {L : List aG} (hL : LOK L) {S : List Int} : ∀ {n i : Nat} {d ever : List Int} {U : List aG} {d' : List Int} {U' : List aG}, GI L S i d ever U → i + n = S.length → kH L n i d ever U = some (d', U') → ∃ ever', GI L S S.length d' ever' U'
 | 0, i, d, ever, U, d', U', h, hn, he => by
  simp only [kH, Option.some.injEq, Prod.mk.injEq] at he
  obtain ⟨rfl, rfl⟩ := he
  have : i = S.length := by omega
  subst this
  exact ⟨ever, h⟩
 | n + 1, i, d, ever, U, d', U', h, hn, he => by
  unfold kH at he
  cases hs : jO L i (L.length + 1) (d.getD i 0) ever U with
  | none => rw [hs] at he; simp at he
  | some q =>
   obtain ⟨now', ever', U1⟩ := q
   rw [hs] at he
   exact aIy hL (h.next hL (by omega) hs) (by omega) he
theorem aIo {l : List aG} : (dK l).length ≤ l.length := by
 have h1 := aCf l
 have h2 : (dK l).length ≤ (bZ l).length := List.length_filter_le _ _
 omega
section
variable {t : aP} {l : List aG} (hl : l.length ≤ 1000) (h32 : t.Slots.length ≤ 32)
include hl in
theorem bAm (out : List Int) (used : Nat) (hu : used ≤ (dK l).length) : eW (bZ l) out BIG used 0 = some (out, decide (used = (dK l).length)) := by
 have hol := aCf l
 have hll := aIo (l := l)
 have := eX (S := Int) (fun k j us => eW (bZ l) out k us j) (bZ l).length (fun j us => some (out, decide (us = ((((bZ l).drop j).filter isL).length : Int)))) (fun j us => -(j : Int) ≤ us ∧ us ≤ 1000) ?_ ?_ BIG used (cG (by omega)) ?_
 ·rw [List.drop_zero] at this
  have e : decide ((used : Int) = (((bZ l).filter isL).length : Int)) = decide (used = (dK l).length) := by
   unfold dK
   rw [Bool.eq_iff_iff]; simp only [decide_eq_true_eq]; omega
  rw [← e]
  exact this
 ·intro k j us hj ⟨hI1, hI2⟩ ih
  rw [List.drop_eq_getElem_cons hj, List.filter_cons]
  simp only [eW, Int.ofNat_lt, hj, decide_true, cond_true, bN hj, Option.bind_some, bU (show j < 9223372036854775807 by omega)]
  by_cases hk : (bZ l)[j].Kind = 5
  ·have hL : isL (bZ l)[j] = true := by simp [isL, hk]
   simp only [hk, hL, decide_true, cond_true, if_true]
   rw [dF (by omega) (by omega), ih _ (by omega)]
   simp only [List.length_cons]
   congr 2
   rw [Bool.eq_iff_iff]; simp only [decide_eq_true_eq]; omega
  ·have hL : isL (bZ l)[j] = false := by simp [isL, hk]
   simp only [hk, hL, decide_false, cond_false, Bool.false_eq_true, if_false]
   exact ih us (by omega)
 ·intro k us _
  simp [eW, tU]
 ·omega
def aFz (t : aP) (l : List aG) : Option (List Int × List aG) := kH (dK l) t.Slots.length 0 t.Slots t.Slots []
theorem aHq (L : List aG) {S : List Int} (h : aDs S) : GI L S 0 S S [] := by
 refine ⟨by simp, by simp, by simp, by simp, rfl, fun _ _ => rfl, fun x h => h, fun a b hab hb e => ?_, fun _ _ => .rfl, by simp⟩
 rw [bM (by omega), bM hb] at e
 rw [bM hb]
 exact h.dup b hb a hab e
include hl h32 in
theorem aYj (hT : aDs t.Slots) (hL : LOK (dK l)) : pD t l = some (match aFz t l with
  | none => ([], false)
  | some (d, U) => (d, decide (U.length = (dK l).length))) := by
 have hll := aIo (l := l)
 unfold pD
 rw [aXw l hl, Option.bind_some, eN (by simp; omega), Option.bind_some, List.nil_append]
 have key : ∀ n i d ever U k, GI (dK l) t.Slots i d ever U → i + n = t.Slots.length → n < k → eA (bZ l) t k U.length i (d.take i) ever = some (match kH (dK l) n i d ever U with
   | none => ([], false)
   | some (d, U) => (d, decide (U.length = (dK l).length))) := by
  intro n
  induction n with
  | zero =>
   intro i d ever U k hG hi hk
   cases k with
   | zero => omega
   | succ k =>
    have hlt : decide ((i : Int) < (t.Slots.length : Int)) = false := decide_eq_false (by omega)
    have hta : d.take i = d := List.take_of_length_le (by rw [hG.len]; omega)
    simp only [eA, hlt, cond_false, tS, hta, kH]
    exact bAm hl d U.length (qE hG.un hG.us)
  | succ n ih =>
   intro i d ever U k hG hi hk
   cases k with
   | zero => omega
   | succ k =>
    have hlt : i < t.Slots.length := by omega
    have hid : i < d.length := by rw [hG.len]; exact hlt
    have hnow : t.Slots[i] = d.getD i 0 := by rw [hG.dr i (by omega), bM hlt]
    have hsl := bEd hl h32 (eA (bZ l) t k) i (d.take i) ((dK l).length + 1) BIG (d.getD i 0) ever U (hG.start hlt) (by omega) (cG (by omega))
    simp only [eA, Int.ofNat_lt, hlt, decide_true, cond_true, bN hlt, Option.bind_some, hnow, hsl, kH]
    cases hs : jO (dK l) i ((dK l).length + 1) (d.getD i 0) ever U with
    | none => rfl
    | some q =>
     obtain ⟨now', ever', U'⟩ := q
     simp only [pT, tT]
     rw [eN (by simp; omega), Option.bind_some, bU (by omega)]
     have ht : d.take i ++ [now'] = (d.set i now').take (i + 1) := by
      rw [List.take_succ_eq_append_getElem (by rw [List.length_set]; exact hid), List.take_set_of_le (Nat.le_refl i)]
      simp
     rw [ht]
     exact ih (i + 1) (d.set i now') ever' U' k (hG.next hL hlt hs) (by omega) (by omega)
 have := key t.Slots.length 0 t.Slots t.Slots [] BIG (aHq _ hT) (by omega) (cG (by omega))
 simpa [aFz] using this
end
end Go.Am
end
section
namespace Go.Am
theorem aFt {α β : Type} [DecidableEq α] (a : α) : ∀ l : List (α × β), (tE a l).map (·.1) = (l.map (·.1)).erase a
 | [] => by simp [tE, fM]
 | (k, u) :: l => by
  have ih := aFt a l
  unfold tE at ih ⊢
  simp only [List.map_cons, fM]
  by_cases h : a = k
  ·subst h; simp
  ·rw [decide_eq_false h, cond_false, List.erase_cons_tail (by simpa using Ne.symm h), ← ih]
   cases fM a (l.map (·.1)) with
   | none => simp
   | some j => simp
theorem aOf {α β : Type} [DecidableEq α] {a x : α} {l : List (α × β)} (hn : (l.map (·.1)).Nodup) : x ∈ (tE a l).map (·.1) ↔ x ∈ l.map (·.1) ∧ x ≠ a := by
 rw [aFt, hn.mem_erase_iff]; exact And.comm
theorem aPw {α β : Type} [DecidableEq α] {a : α} {l : List (α × β)} (hn : (l.map (·.1)).Nodup) : ((tE a l).map (·.1)).Nodup := by
 rw [aFt]; exact hn.erase a
theorem aIq {α β : Type} [DecidableEq α] {a : α} {l : List (α × β)} (h : a ∈ l.map (·.1)) : (tE a l).length + 1 = l.length := by
 have h1 := congrArg List.length (aFt a l)
 rw [List.length_map, List.length_erase_of_mem h, List.length_map] at h1
 have : 0 < l.length := by
  cases l with
  | nil => simp at h
  | cons => simp
 omega
theorem aSn {t : aP} {d : List Int} {lk : List (aG × Int)} {i : Nat} {Q : aG × Bool → Prop} (hi : i < d.length) (hlen : lk.length ≤ 3000)
  (h1 : ∀ s : aG, s ∈ lk.map (·.1) → s.Place = (i : Int) → s.Old = d.getD i 0 → Q (s, true))
  (h0 : (∀ s : aG, s ∈ lk.map (·.1) → s.Place = (i : Int) → s.Old ≠ d.getD i 0) → Q (⟨0, 0, 0, 0, 0⟩, false)) : jQ t d lk i Q := by
 have key : ∀ n k left, left.length = n → n < k → (∀ p ∈ left, p ∈ lk) → (∀ s : aG, s ∈ lk.map (·.1) → s.Place = (i : Int) → s.Old = d.getD i 0 → s ∈ left.map (·.1)) → jF Q i d t lk k ⟨0, 0, 0, 0, 0⟩ left := by
  intro n
  induction n with
  | zero =>
   intro k left hn hk hsub hall
   cases k with
   | zero => omega
   | succ k =>
    have : left = [] := List.length_eq_zero_iff.1 hn
    subst this
    simp only [jF, qO]
    refine ⟨fun _ => h0 fun s hs hp ho => ?_, fun j p hj => by simp at hj⟩
    simpa using hall s hs hp ho
  | succ n ih =>
   intro k left hn hk hsub hall
   cases k with
   | zero => omega
   | succ k =>
    simp only [jF, qO]
    refine ⟨fun e => by subst e; simp at hn, fun j p hj => ?_⟩
    have hjl : j < left.length := by
     rcases Nat.lt_or_ge j left.length with h | h
     ·exact h
     ·rw [List.getElem?_eq_none h] at hj; cases hj
    have hpm : p ∈ left := List.mem_of_getElem? hj
    have hkey : p.1 ∈ lk.map (·.1) := List.mem_map.2 ⟨p, hsub p hpm, rfl⟩
    simp only [bN hi, Option.bind_some, dG]
    refine ⟨_, rfl, ?_⟩
    rw [← bM hi 0]
    by_cases hm : p.1.Place = i ∧ p.1.Old = d.getD i 0
    ·simp only [hm.1, hm.2, decide_true, Bool.and_self, cond_true]
     exact h1 _ hkey hm.1 hm.2
    ·have : (decide (p.1.Place = (i : Int)) && decide (p.1.Old = d.getD i 0)) = false := by
      rw [Bool.and_eq_false_iff, decide_eq_false_iff_not, decide_eq_false_iff_not]
      by_cases h : p.1.Place = i
      ·exact .inr fun h' => hm ⟨h, h'⟩
      ·exact .inl h
     simp only [this, cond_false]
     refine ih k _ (by rw [List.length_eraseIdx]; simp [hjl]; omega) (by omega) (fun q hq => hsub q (List.mem_of_mem_eraseIdx hq)) fun s hs hp ho => ?_
     obtain ⟨q, hq, rfl⟩ := List.mem_map.1 (hall s hs hp ho)
     refine List.mem_map.2 ⟨q, ?_, rfl⟩
     obtain ⟨j', hj', rfl⟩ := List.mem_iff_getElem.1 hq
     rw [List.mem_eraseIdx_iff_getElem]
     refine ⟨j', hj', ?_, rfl⟩
     rintro rfl
     rw [List.getElem?_eq_getElem hj'] at hj
     cases hj
     exact hm ⟨hp, ho⟩
 unfold jQ aHd
 exact key lk.length BIG lk rfl (cG (by omega)) (fun p hp => hp) fun s hs _ _ => hs
structure LK (L : List aG) (lk : List (aG × Int)) (U : List aG) : Prop where
 nd : (lk.map (·.1)).Nodup
 mem : ∀ s : aG, s ∈ lk.map (·.1) ↔ s ∈ L ∧ s ∉ U
def aTs (i : Nat) (d ever : List Int) (lk : List (aG × Int)) : Prop :=
 ∃ x : aG, x ∈ lk.map (·.1) ∧ (x.Place < (i : Int) ∨ (x.Place = (i : Int) ∧ x.Old ∈ ever ∧ x.Old ≠ d.getD i 0))
structure PS (D : Nat) (d ever : List Int) (lk : List (aG × Int)) : Prop where
 dl : d.length = D
 sz : D + lk.length + ever.length ≤ 3000
 mem : ∀ x ∈ d, x ∈ ever
 nd : (lk.map (·.1)).Nodup
theorem PS.step {D : Nat} {d ever : List Int} {lk : List (aG × Int)} (h : PS D d ever lk) {s : aG} (hs : s ∈ lk.map (·.1)) (i : Nat) : PS D (d.set i s.Player) (ever ++ [s.Player]) (tE s lk) := by
 have hml := aIq hs
 obtain ⟨h1, h2, h3, h4⟩ := h
 refine ⟨by simpa using h1, by simp; omega, fun x hx => ?_, aPw h4⟩
 rcases List.mem_or_eq_of_mem_set hx with hx | rfl
 ·exact List.mem_append_left _ (h3 x hx)
 ·simp
section
variable {t : aP} {L : List aG} (hLn : L.Nodup)
variable (Q : (Bool × List Int × List (aG × Int)) → Prop) (hbad : ∀ d lk, Q (false, d, lk))
include hbad in
theorem aSw (a0 : Int → List Int → List (aG × Int) → List Int → Prop) (T : Int) {i D : Nat} (hiD : i < D)
  (hgo : ∀ d lk ever, PS D d ever lk → aTs (i + 1) d ever lk → a0 ((i + 1 : Nat) : Int) d lk ever) :
  ∀ n k d lk ever, lk.length ≤ n → n < k → PS D d ever lk → aTs i d ever lk →
  jQ t d lk i fun r => dY Q a0 i T i t k r.2 d lk r.1 ever := by
 intro n
 induction n with
 | zero =>
  intro k d lk ever hn hk hP ⟨x, hx, _⟩
  have : lk = [] := List.length_eq_zero_iff.1 (by omega)
  subst this
  simp at hx
 | succ n ih =>
  intro k d lk ever hn hk hP hD
  have hi : i < d.length := by rw [hP.dl]; exact hiD
  have hnd := hP.nd
  have hlen := hP.sz
  obtain ⟨x, hx, hxp⟩ := hD
  cases k with
  | zero => omega
  | succ k =>
   refine aSn hi (by omega) (fun s hs hp ho => ?_) fun _ => ?_
   ·simp only [dY, cond_true]
    refine ⟨_, pP ever (by omega) _, ?_⟩
    by_cases hpe : s.Player ∈ ever
    ·simp only [hpe, decide_true, cond_true]; exact hbad _ _
    ·simp only [hpe, decide_false, cond_false]
     refine ⟨_, bN hi, _, eN (by simp; omega), ?_⟩
     have hml := aIq hs
     have e : ((i : Int)).toNat = i := by simp
     rw [e]
     refine ih k (d.set i s.Player) (tE s lk) (ever ++ [s.Player]) (by omega) (by omega) (hP.step hs i) ⟨x, (aOf hnd).2 ⟨hx, ?_⟩, ?_⟩
     ·rintro rfl
      rcases hxp with h | ⟨_, _, h⟩
      ·omega
      ·exact h ho
     ·rcases hxp with h | ⟨h1, h2, h3⟩
      ·exact .inl h
      ·rw [nF hi, if_pos rfl]
       exact .inr ⟨h1, List.mem_append_left _ h2, fun e => hpe (e ▸ h2)⟩
   ·simp only [dY, cond_false, nQ, nP, bU (show i < 9223372036854775807 by omega)]
    refine hgo d lk ever hP ⟨x, hx, .inl ?_⟩
    rcases hxp with h | ⟨h, _⟩ <;> omega
include hLn in
theorem bCc (a0 : Int → List Int → List (aG × Int) → List Int → Prop) (T : Int) {i D : Nat} (hiD : i < D) :
  ∀ n k d lk now ever U, lk.length + n + 1 ≤ k → PS D d ever lk → now = d.getD i 0 → SI L t.Slots.length i now ever U → LK L lk U → L.length < n + U.length →
  (∀ now' ever' U' lk', jO L i n now ever U = some (now', ever', U') → LK L lk' U' → PS D (d.set i now') ever' lk' → a0 ((i + 1 : Nat) : Int) (d.set i now') lk' ever') →
  (jO L i n now ever U = none → (∀ d lk, Q (false, d, lk)) ∧ ∀ d lk ever, PS D d ever lk → aTs (i + 1) d ever lk → a0 ((i + 1 : Nat) : Int) d lk ever) →
  jQ t d lk i fun r => dY Q a0 i T i t k r.2 d lk r.1 ever := by
 intro n
 induction n with
 | zero =>
  intro k d lk now ever U hk hP hnow hS hK hn hok hbd
  have := hS.le
  omega
 | succ n ih =>
  intro k d lk now ever U hk hP hnow hS hK hn hok hbd
  have hi : i < d.length := by rw [hP.dl]; exact hiD
  have hlen := hP.sz
  have hc : ∀ s : aG, s ∈ lk.map (·.1) → s.Place = (i : Int) → s.Old = d.getD i 0 → s ∈ iR L i now := fun s hs hp ho => uJ.2 ⟨((hK.mem s).1 hs).1, hp, by rw [hnow]; exact ho⟩
  have hc' : ∀ s : aG, s ∈ iR L i now → s ∈ lk.map (·.1) := by
   intro s hs
   obtain ⟨m1, m2, m3⟩ := uJ.1 hs
   exact (hK.mem s).2 ⟨m1, fun hu => (hS.old s hu m2).2 m3⟩
  cases k with
  | zero => omega
  | succ k =>
   refine aSn hi (by omega) (fun s hs hp ho => ?_) fun hno => ?_
   ·have hsc := hc s hs hp ho
    simp only [dY, cond_true]
    refine ⟨_, pP ever (by omega) _, ?_⟩
    have e : ((i : Int)).toNat = i := by simp
    by_cases hone : ∃ s2, s2 ∈ iR L i now ∧ s2 ≠ s
    ·obtain ⟨s2, h2, hne⟩ := hone
     obtain ⟨m1, m2, m3⟩ := uJ.1 h2
     have hnone : jO L i (n + 1) now ever U = none := by
      rw [jO]
      cases h : iR L i now with
      | nil => rw [h] at h2; simp at h2
      | cons a cs =>
       cases cs with
       | cons b cs => rfl
       | nil =>
        rw [h] at h2 hsc
        simp at h2 hsc
        exact absurd (h2.trans hsc.symm) hne
     obtain ⟨hbad, hgo⟩ := hbd hnone
     by_cases hpe : s.Player ∈ ever
     ·simp only [hpe, decide_true, cond_true]; exact hbad _ _
     ·simp only [hpe, decide_false, cond_false]
      refine ⟨_, bN hi, _, eN (by simp; omega), ?_⟩
      have hml := aIq hs
      rw [e]
      refine aSw Q hbad a0 T hiD hgo (tE s lk).length k _ _ _ (Nat.le_refl _) (by omega) (hP.step hs i) ⟨s2, (aOf hK.nd).2 ⟨hc' s2 h2, hne⟩, .inr ⟨m2, ?_, ?_⟩⟩
      ·rw [m3]; exact List.mem_append_left _ hS.ne
      ·rw [nF hi, if_pos rfl, m3]; exact fun e => hpe (e ▸ hS.ne)
    ·have hall : ∀ x ∈ iR L i now, x = s := fun x hx => Classical.byContradiction fun h => hone ⟨x, hx, h⟩
     have hcs : iR L i now = [s] := by
      have hnd : (iR L i now).Nodup := hLn.filter _
      cases h : iR L i now with
      | nil => rw [h] at hsc; simp at hsc
      | cons a cs =>
       rw [h] at hall hnd
       have ha := hall a (by simp)
       subst ha
       cases cs with
       | nil => rfl
       | cons b cs =>
        have := hall b (by simp)
        subst this
        simp at hnd
     by_cases hpe : s.Player ∈ ever
     ·simp only [hpe, decide_true, cond_true]
      exact (hbd (by rw [jO, hcs]; simp only [hpe, if_true])).1 _ _
     ·simp only [hpe, decide_false, cond_false]
      refine ⟨_, bN hi, _, eN (by simp; omega), ?_⟩
      have hml := aIq hs
      rw [e]
      have hslot : jO L i (n + 1) now ever U = jO L i n s.Player (ever ++ [s.Player]) (U ++ [s]) := by
       rw [jO, hcs]; simp only [hpe, if_false]
      rw [hslot] at hok hbd
      refine ih k (d.set i s.Player) (tE s lk) s.Player (ever ++ [s.Player]) (U ++ [s]) (by omega) (hP.step hs i) (by rw [nF hi, if_pos rfl]) (hS.next hsc hpe) ⟨aPw hK.nd, fun x => ?_⟩ (by simp; omega) (fun now' ever' U' lk' h1 h2 h3 => ?_) hbd
      ·rw [aOf hK.nd, hK.mem, List.mem_append, List.mem_singleton, not_or, and_assoc]
      ·rw [List.set_set] at h3 ⊢
       exact hok now' ever' U' lk' h1 h2 h3
   ·have hcs : iR L i now = [] := by
     cases h : iR L i now with
     | nil => rfl
     | cons s cs =>
      have hs : s ∈ iR L i now := by rw [h]; simp
      obtain ⟨m1, m2, m3⟩ := uJ.1 hs
      exact absurd (by rw [m3, hnow]) (hno s (hc' s hs) m2)
    have hslot : jO L i (n + 1) now ever U = some (now, ever, U) := by rw [jO, hcs]
    simp only [dY, cond_false, nQ, nP, bU (show i < 9223372036854775807 by omega)]
    have e : d.set i now = d := by rw [hnow, bM hi]; exact List.set_getElem_self hi
    have := hok now ever U lk hslot hK
    rw [e] at this
    exact this hP
theorem bCz {i : Nat} {d ever : List Int} {lk : List (aG × Int)} (h : aTs i d ever lk) : decide ((lk.length : Int) = 0) = false := by
 obtain ⟨x, hx, _⟩ := h
 cases lk with
 | nil => simp at hx
 | cons => exact decide_eq_false (by simp; omega)
theorem bCy (hbad : ∀ d lk, Q (false, d, lk)) {D : Nat} (hD : D ≤ 3000) : ∀ n i k d lk ever, i + n = D → n < k → PS D d ever lk → aTs i d ever lk → dA Q D t k i d lk ever := by
 intro n
 induction n with
 | zero =>
  intro i k d lk ever hi hk hP hd
  cases k with
  | zero => omega
  | succ k =>
   have hlt : decide ((i : Int) < (D : Int)) = false := decide_eq_false (by omega)
   simp only [dA, hlt, cond_false, nO, bCz hd]
   exact hbad _ _
 | succ n ih =>
  intro i k d lk ever hi hk hP hd
  cases k with
  | zero => omega
  | succ k =>
   have hlt : i < D := by omega
   have hsz := hP.sz
   simp only [dA, Int.ofNat_lt, hlt, decide_true, cond_true]
   exact aSw Q hbad (dA Q D t k) D hlt (fun d lk ever h1 h2 => ih (i + 1) k d lk ever (by omega) (by omega) h1 h2) lk.length BIG d lk ever (Nat.le_refl _) (cG (by omega)) hP hd
include hLn in
theorem aWw (hL : LOK L) {S : List Int} (hD : S.length = t.Slots.length) (hS : S.length ≤ 1000) (hLl : L.length ≤ 500) : ∀ n i k d lk ever U, i + n = S.length → n < k → GI L S i d ever U → PS S.length d ever lk → LK L lk U →
  (∀ d' U', kH L n i d ever U = some (d', U') → U'.length = L.length → Q (true, d', [])) →
  ((∀ d' U', kH L n i d ever U = some (d', U') → U'.length ≠ L.length) → ∀ d lk, Q (false, d, lk)) → dA Q S.length t k i d lk ever := by
 intro n
 induction n with
 | zero =>
  intro i k d lk ever U hi hk hG hP hK hok hbad
  cases k with
  | zero => omega
  | succ k =>
   have hlt : decide ((i : Int) < (S.length : Int)) = false := decide_eq_false (by omega)
   simp only [dA, hlt, cond_false, nO]
   by_cases hU : U.length = L.length
   ·have hnil : lk = [] := by
     cases lk with
     | nil => rfl
     | cons p lk =>
      have hp := (hK.mem p.1).1 (by simp)
      have := qE (l := p.1 :: U) (m := L) (List.nodup_cons.2 ⟨hp.2, hG.un⟩) fun x hx => by
       rcases List.mem_cons.1 hx with rfl | hx
       ·exact hp.1
       ·exact hG.us x hx
      simp only [List.length_cons] at this
      omega
    subst hnil
    exact hok d U rfl hU
   ·have hne : lk ≠ [] := by
     rintro rfl
     refine hU (Nat.le_antisymm (qE hG.un hG.us) (qE hLn fun x hx => ?_))
     refine Classical.byContradiction fun hxu => ?_
     have := (hK.mem x).2 ⟨hx, hxu⟩
     simp at this
    have : decide ((lk.length : Int) = 0) = false := by
     cases lk with
     | nil => exact absurd rfl hne
     | cons => exact decide_eq_false (by simp; omega)
    rw [this]
    refine hbad (fun d' U' h => ?_) _ _
    simp only [kH, Option.some.injEq, Prod.mk.injEq] at h
    rw [← h.2]; exact hU
 | succ n ih =>
  intro i k d lk ever U hi hk hG hP hK hok hbad
  cases k with
  | zero => omega
  | succ k =>
   have hlt : i < S.length := by omega
   have hsz := hP.sz
   simp only [dA, Int.ofNat_lt, hlt, decide_true, cond_true]
   refine bCc hLn Q (dA Q S.length t k) S.length hlt (L.length + 1) BIG d lk (d.getD i 0) ever U ?_ hP rfl (hD ▸ hG.start hlt) hK (by omega) (fun now' ever' U' lk' h1 h2 h3 => ?_) fun h => ⟨?_, fun d' lk' ever' h1 h2 => ?_⟩
   ·exact Nat.le_of_lt (cG (by omega))
   ·refine ih (i + 1) k (d.set i now') lk' ever' U' (by omega) (by omega) (hG.next hL hlt h1) h3 h2 (fun d' U'' h hl => hok d' U'' ?_ hl) fun h => hbad fun d' U'' h' => h d' U'' ?_
    ·rw [kH, h1]; exact h
    ·rw [kH, h1] at h'; exact h'
   ·exact hbad fun d' U' h' => by rw [kH, h] at h'; simp at h'
   ·exact bCy Q (hbad fun d' U' h' => by rw [kH, h] at h'; simp at h') (by omega) n (i + 1) k d' lk' ever' (by omega) (by omega) h1 h2
include hLn in
theorem aVj (hT : aDs t.Slots) (hL : LOK L) (h32 : t.Slots.length ≤ 32) (hLl : L.length ≤ 500) {lk : List (aG × Int)} (hK : LK L lk [])
  (hok : ∀ d U, kH L t.Slots.length 0 t.Slots t.Slots [] = some (d, U) → U.length = L.length → Q (true, d, []))
  (hbad : (∀ d U, kH L t.Slots.length 0 t.Slots t.Slots [] = some (d, U) → U.length ≠ L.length) → ∀ d lk, Q (false, d, lk)) : mO t t.Slots lk Q := by
 have hlk : lk.length ≤ 500 := by
  have := qE hK.nd (fun x hx => ((hK.mem x).1 hx).1)
  rw [List.length_map] at this
  omega
 unfold mO
 refine ⟨t.Slots, by unfold fA; rw [eN (by simp; omega)]; rfl, ?_⟩
 exact aWw hLn Q hL rfl (by omega) hLl t.Slots.length 0 BIG t.Slots lk t.Slots [] (by omega) (cG (by omega)) (aHq L hT) ⟨rfl, by omega, fun x hx => hx, hK.nd⟩ hK hok hbad
end
end Go.Am
end
section
namespace Go.Am
def cell (a r : Nat) : aD := ⟨(r : Int), ((a / 2 ^ (r + 1) : Nat) : Int)⟩
abbrev pZ := aD → Int → Prop
def Func (P : pZ) : Prop := ∀ m v w, P m v → P m w → v = w
def clm (d : List Int) (a r : Nat) : pZ := fun m v => v = d.getD a 0 ∧ ∃ q, q ≤ r ∧ m = cell a q
def wF (P Q : pZ) : Prop := ∀ m v w, P m v → Q m w → v = w
theorem Func.sub {P Q : pZ} (h : Func P) (hs : ∀ m v, Q m v → P m v) : Func Q := fun m v w h1 h2 => h m v w (hs _ _ h1) (hs _ _ h2)
theorem bCw {a b q r : Nat} (h : cell a q = cell b r) : q = r ∧ a / 2 ^ (q + 1) = b / 2 ^ (r + 1) := by
 simp only [cell, aD.mk.injEq] at h
 omega
structure WonIs (won : List (aD × Int)) (P : pZ) : Prop where
 nd : (won.map (·.1)).Nodup
 mem : ∀ m v, (m, v) ∈ won ↔ P m v
theorem WonIs.ext {won : List (aD × Int)} {P Q : pZ} (h : WonIs won P) (he : ∀ m v, P m v ↔ Q m v) : WonIs won Q := ⟨h.nd, fun m v => (h.mem m v).trans (he m v)⟩
theorem WonIs.get {won : List (aD × Int)} {P : pZ} (h : WonIs won P) {m : aD} {v z : Int} (hp : P m v) : cW m z won = v := aOg h.nd ((h.mem m v).2 hp)
theorem WonIs.has {won : List (aD × Int)} {P : pZ} (h : WonIs won P) (m : aD) : dO m won = true ↔ ∃ v, P m v := by
 rw [aEo, decide_eq_true_eq, List.mem_map]
 constructor
 ·rintro ⟨⟨m', v⟩, hv, rfl⟩; exact ⟨v, (h.mem _ _).1 hv⟩
 ·rintro ⟨v, hv⟩; exact ⟨(m, v), (h.mem _ _).2 hv, rfl⟩
theorem WonIs.func {won : List (aD × Int)} {P : pZ} (h : WonIs won P) : Func P := fun m v w h1 h2 => (h.get (z := 0) h1).symm.trans (h.get h2)
theorem WonIs.nil : WonIs [] (fun _ _ => False) := ⟨by simp, by simp⟩
theorem WonIs.set {won : List (aD × Int)} {P : pZ} (h : WonIs won P) {m : aD} {n : Int} (hc : ∀ v, P m v → v = n) : WonIs (gA m n won) (fun x v => P x v ∨ (x = m ∧ v = n)) := by
 by_cases hm : m ∈ won.map (·.1)
 ·obtain ⟨⟨m', v⟩, hv, e⟩ := List.mem_map.1 hm
  simp only at e; subst e
  have : v = n := hc v ((h.mem _ _).1 hv)
  subst this
  rw [aLd h.nd hv]
  exact ⟨h.nd, fun x w => ⟨fun hx => .inl ((h.mem _ _).1 hx), fun hx => hx.elim (h.mem _ _).2 fun ⟨a, b⟩ => a ▸ b ▸ hv⟩⟩
 ·rw [aSl hm]
  refine ⟨?_, fun x w => ?_⟩
  ·rw [List.map_append]
   exact List.nodup_append.2 ⟨h.nd, by simp, fun x hx y hy => by simp at hy; subst hy; exact fun e => hm (e ▸ hx)⟩
  ·rw [List.mem_append, List.mem_singleton, h.mem, Prod.mk.injEq]
structure DOK (t : aP) (d : List Int) : Prop where
 len : d.length = t.Slots.length
 dup : ∀ a b, a < b → b < d.length → d.getD a 0 = d.getD b 0 → d.getD b 0 = -1
 bye : ∀ a, a < d.length → (d.getD a 0 = -1 ↔ t.Slots.getD a 0 = -1)
 rng : ∀ a, a < d.length → -1 ≤ d.getD a 0
theorem DOK.uni {t : aP} {d : List Int} (h : DOK t d) {a b : Nat} (ha : a < d.length) (hb : b < d.length) (e : d.getD a 0 = d.getD b 0) (hn : d.getD a 0 ≠ -1) : a = b := by
 rcases Nat.lt_trichotomy a b with hl | rfl | hl
 ·exact absurd (h.dup a b hl hb e) (e ▸ hn)
 ·rfl
 ·exact absurd (h.dup b a hl ha e.symm) hn
def sib (a : Nat) : Nat := if a % 2 = 0 then a + 1 else a - 1
theorem bEb (a : Nat) : sib a / 2 = a / 2 := by unfold sib; split <;> omega
theorem aHj (a : Nat) : sib (sib a) = a := by unfold sib; split <;> split <;> omega
theorem aNw (a : Nat) : cell (sib a) 0 = cell a 0 := by simp [cell, bEb]
theorem aRf {a b : Nat} (h : a / 2 = b / 2) : a = b ∨ a = sib b := by unfold sib; split <;> omega
def aYp (d : List Int) : pZ := fun m v => ∃ i, i < d.length ∧ d.getD i 0 = -1 ∧ m = cell (sib i) 0 ∧ v = d.getD (sib i) 0
def aMn (d : List Int) (D : aG → Prop) : pZ := fun m v => ∃ x, D x ∧ ∃ a, a < d.length ∧ d.getD a 0 = x.Player ∧ clm d a x.Round.toNat m v
def gE (d : List Int) (D : aG → Prop) : pZ := fun m v => aYp d m v ∨ aMn d D m v
def gs (d : List Int) (x : aG) : Prop := ∃ a, a < d.length ∧ d.getD a 0 = x.Player ∧ cell a x.Round.toNat = ⟨x.Round, x.Place⟩
def Res (l : List aG) (x : aG) : Prop := x ∈ l ∧ x.Kind ≠ 5
structure OKF (d : List Int) (l : List aG) : Prop where
 two : aMa l
 slot : ∀ x, Res l x → gs d x
 fn : Func (gE d (Res l))
theorem aFa {t : aP} (ht : TreeOK t) {i : Nat} (h : i < t.Slots.length) : sib i < t.Slots.length := by
 have h1 := ht.r1
 have h2 := ht.len
 have : t.Slots.length % 2 = 0 := by
  rw [h2]
  obtain ⟨k, hk⟩ : ∃ k, t.Rounds.toNat = k + 1 := ⟨t.Rounds.toNat - 1, by omega⟩
  rw [hk, Nat.pow_succ]; omega
 unfold sib; split <;> omega
theorem DOK.sib_ne {t : aP} (ht : TreeOK t) {d : List Int} (h : DOK t d) {i : Nat} (hi : i < d.length) (hb : d.getD i 0 = -1) : d.getD (sib i) 0 ≠ -1 := by
 have hi' : i < t.Slots.length := h.len ▸ hi
 have hs := aFa ht hi'
 have hsd : sib i < d.length := h.len ▸ hs
 intro hc
 have e1 := (h.bye _ hi).1 hb
 have e2 := (h.bye _ hsd).1 hc
 rw [bM hi'] at e1
 rw [bM hs] at e2
 unfold sib at e2 hs
 by_cases he : i % 2 = 0
 ·obtain ⟨j, rfl⟩ : ∃ j, i = 2 * j := ⟨i / 2, by omega⟩
  simp only [he, if_true] at e2 hs
  exact ht.bye j hs e1 e2
 ·obtain ⟨j, rfl⟩ : ∃ j, i = 2 * j + 1 := ⟨i / 2, by omega⟩
  simp only [he, if_false, Nat.add_sub_cancel] at e2 hs
  exact ht.bye j hi' e2 e1
theorem aRt {t : aP} (ht : TreeOK t) {d : List Int} (h : DOK t d) {i j : Nat} (hi : i < d.length) (hj : j < d.length) (bi : d.getD i 0 = -1) (bj : d.getD j 0 = -1) (hc : cell (sib i) 0 = cell (sib j) 0) : i = j := by
 rw [aNw, aNw] at hc
 have hc := (bCw hc).2
 simp only [Nat.zero_add, Nat.pow_one] at hc
 rcases aRf hc with e | e
 ·exact e
 ·have := h.sib_ne ht hj bj
  rw [← e] at this
  exact absurd bi this
theorem bDg {t : aP} {d : List Int} (h : DOK t d) (hl : d.length ≤ 1000) {a : Nat} (ha : a < d.length) (hn : d.getD a 0 ≠ -1) : gT d (d.getD a 0) = some (a : Int) := by
 rw [zO d (by omega)]
 have : d.findIdx? (fun x => decide (d.getD a 0 = x)) = some a := by
  rw [List.findIdx?_eq_some_iff_getElem]
  refine ⟨ha, by rw [bM ha]; simp, fun j hj => ?_⟩
  simp only [Bool.not_eq_true, decide_eq_false_iff_not]
  intro e
  rw [← bM (show j < d.length by omega) 0] at e
  have := h.uni ha (show j < d.length by omega) e hn
  omega
 rw [this]
theorem aYw {d : List Int} (hl : d.length ≤ 1000) {n : Int} (hn : ∀ a, a < d.length → d.getD a 0 ≠ n) : gT d n = some (-1) := by
 rw [zO d (by omega)]
 have : d.findIdx? (fun x => decide (n = x)) = none := by
  rw [List.findIdx?_eq_none_iff]
  intro x hx
  obtain ⟨i, hi, rfl⟩ := List.mem_iff_getElem.1 hx
  have := hn i hi
  rw [bM hi] at this
  simpa using Ne.symm this
 rw [this]
end Go.Am
end
section
namespace Go.Am
theorem aBc (a r : Nat) : (a : Int).fdiv (2 ^ (r + 1)) = ((a / 2 ^ (r + 1) : Nat) : Int) := by
 have e : (2 : Int) ^ (r + 1) = ((2 ^ (r + 1) : Nat) : Int) := by simp
 rw [e]; exact (Int.ofNat_fdiv a (2 ^ (r + 1))).symm
theorem aQa {a r : Nat} (hr : r ≤ 5) : oP (r : Int) (a : Int) = some (cell a r) := by
 have hw : w64 ((r : Int) + 1) = ((r + 1 : Nat) : Int) := bU (by omega)
 have hch : chk (decide (0 ≤ ((r + 1 : Nat) : Int))) = some () := by unfold chk; rw [decide_eq_true (by omega)]; rfl
 have hm : min ((r + 1 : Nat) : Int).toNat 64 = r + 1 := by omega
 unfold oP
 rw [hw, hch, Option.bind_some, hm, aBc]
 rfl
theorem aSy {t : aP} {d : List Int} {P : pZ} {a r : Nat} (ha : a < d.length) (hr : r ≤ 5) {won : List (aD × Int)} (h : WonIs won P) :
  ∃ b w, nA t d won a r = some (b, w) ∧ (b = true → wF P (clm d a r) ∧ WonIs w (fun m v => P m v ∨ clm d a r m v)) ∧ (b = false → ¬ wF P (clm d a r)) := by
 have key : ∀ n q k won', q + n = r + 1 → n < k → WonIs won' (fun m v => P m v ∨ (v = d.getD a 0 ∧ ∃ p, p < q ∧ m = cell a p)) → (∀ p, p < q → ∀ v, P (cell a p) v → v = d.getD a 0) →
   ∃ b w, jG a ((r + 1 : Nat) : Int) d t k q won' = some (b, w) ∧ (b = true → wF P (clm d a r) ∧ WonIs w (fun m v => P m v ∨ clm d a r m v)) ∧ (b = false → ¬ wF P (clm d a r)) := by
  intro n
  induction n with
  | zero =>
   intro q k won' hq hk hW hc
   have : q = r + 1 := by omega
   subst this
   cases k with
   | zero => omega
   | succ k =>
    have hlt : decide (((r + 1 : Nat) : Int) < ((r + 1 : Nat) : Int)) = false := decide_eq_false (by omega)
    simp only [jG, hlt, cond_false, uP]
    refine ⟨true, won', rfl, fun _ => ⟨?_, hW.ext fun m v => ?_⟩, fun e => by cases e⟩
    ·rintro m v w hp ⟨rfl, p, hp', rfl⟩
     exact hc p (by omega) v hp
    ·constructor
     ·rintro (h | ⟨e, p, hp, e2⟩)
      ·exact .inl h
      ·exact .inr ⟨e, p, by omega, e2⟩
     ·rintro (h | ⟨e, p, hp, e2⟩)
      ·exact .inl h
      ·exact .inr ⟨e, p, by omega, e2⟩
  | succ n ih =>
   intro q k won' hq hk hW hc
   cases k with
   | zero => omega
   | succ k =>
    have hlt : decide ((q : Int) < ((r + 1 : Nat) : Int)) = true := decide_eq_true (by omega)
    simp only [jG, hlt, cond_true, aQa (show q ≤ 5 by omega), Option.bind_some, bN ha, bU (show q < 9223372036854775807 by omega)]
    rw [← bM ha 0]
    by_cases hex : ∃ v, P (cell a q) v ∧ v ≠ d.getD a 0
    ·obtain ⟨v, hv, hne⟩ := hex
     have hh : dO (cell a q) won' = true := (hW.has _).2 ⟨v, .inl hv⟩
     have hg : cW (cell a q) 0 won' = v := hW.get (.inl hv)
     simp only [hh, hg, cond_true, hne, decide_false, Bool.not_false, Option.bind_some]
     exact ⟨false, won', rfl, fun e => (by cases e), fun _ hco => hne (hco _ v _ hv ⟨rfl, q, by omega, rfl⟩)⟩
    ·have hall : ∀ v, P (cell a q) v → v = d.getD a 0 := fun v hv => Classical.byContradiction fun e => hex ⟨v, hv, e⟩
     have hall' : ∀ v, (P (cell a q) v ∨ (v = d.getD a 0 ∧ ∃ p, p < q ∧ cell a q = cell a p)) → v = d.getD a 0 := by
      rintro v (h | ⟨h, _⟩)
      ·exact hall v h
      ·exact h
     have hb : ((bif dO (cell a q) won' then some (!decide (cW (cell a q) 0 won' = d.getD a 0)) else some false) : Option Bool) = some false := by
      cases hh : dO (cell a q) won' with
      | false => rfl
      | true =>
       obtain ⟨v, hv⟩ := (hW.has _).1 hh
       rw [hW.get hv, hall' v hv]
       simp
     simp only [hb, Option.bind_some, cond_false]
     refine ih (q + 1) k _ (by omega) (by omega) ((hW.set hall').ext fun m v => ?_) fun p hp v hv => ?_
     ·constructor
      ·rintro ((h | ⟨e, p, hp, e2⟩) | ⟨e1, e2⟩)
       ·exact .inl h
       ·exact .inr ⟨e, p, by omega, e2⟩
       ·exact .inr ⟨e2, q, by omega, e1⟩
      ·rintro (h | ⟨e, p, hp, e2⟩)
       ·exact .inl (.inl h)
       ·by_cases hpq : p = q
        ·subst hpq; exact .inr ⟨e2, e⟩
        ·exact .inl (.inr ⟨e, p, by omega, e2⟩)
     ·by_cases hpq : p = q
      ·subst hpq; exact hall v hv
      ·exact hc p (by omega) v hv
 have := key (r + 1) 0 BIG won (by omega) (cG (by omega)) (h.ext fun m v => by simp) (fun p hp => by omega)
 unfold nA
 rw [bU (show r < 9223372036854775807 by omega)]
 exact this
theorem aPx {α : Type} {l : List α} (hnd : l.Nodup) {j : Nat} (hj : j < l.length) {x : α} : x ∈ l.eraseIdx j ↔ x ∈ l ∧ x ≠ l[j] := by
 rw [List.mem_eraseIdx_iff_getElem]
 constructor
 ·rintro ⟨i, hi, hne, rfl⟩; exact ⟨List.getElem_mem hi, fun e => hne ((List.getElem_inj hnd).1 e)⟩
 ·rintro ⟨hm, hne⟩
  obtain ⟨i, hi, rfl⟩ := List.mem_iff_getElem.1 hm
  exact ⟨i, hi, fun e => hne (by subst e; rfl), rfl⟩
structure ROK (t : aP) (s : aG) : Prop where
 p0 : 0 ≤ s.Player
 r0 : 0 ≤ s.Round
 r1 : s.Round < t.Rounds
theorem aOr {t : aP} {s : aG} (h : gM t s = true) (hk : s.Kind ≠ 5) : ROK t s := by
 simp only [gM, hk, if_false, Bool.and_eq_true, jB, kN] at h
 exact ⟨h.1.1, h.2.1.1.2.1.1, by omega⟩
section
variable {t : aP} (ht : TreeOK t) {d : List Int} (hD : DOK t d) {l : List aG} (hR : ∀ s, Res l s → ROK t s)
include ht hD
omit ht in
theorem bBn {s : aG} (hr : ROK t s) {a : Nat} (ha : a < d.length) (he : d.getD a 0 = s.Player) : gs d s ↔ cell a s.Round.toNat = ⟨s.Round, s.Place⟩ := by
 have hp := hr.p0
 constructor
 ·rintro ⟨b, hb, e, h⟩
  have := hD.uni ha hb (he.trans e.symm) (by omega)
  subst this; exact h
 ·exact fun h => ⟨a, ha, he, h⟩
omit ht in
theorem aLt {s : aG} (hr : ROK t s) {a : Nat} (ha : a < d.length) (he : d.getD a 0 = s.Player) (m : aD) (v : Int) : aMn d (fun x => x = s) m v ↔ clm d a s.Round.toNat m v := by
 have hp := hr.p0
 constructor
 ·rintro ⟨x, rfl, b, hb, e, h⟩
  have := hD.uni ha hb (he.trans e.symm) (by omega)
  subst this; exact h
 ·exact fun h => ⟨s, rfl, a, ha, he, h⟩
include hR in
theorem aWg {Q : (Option bJ × Bool) → Prop} {about : List (aD × aG)} (ham : ∀ m s, (m, s) ∈ about ↔ (s ∈ l ∧ s.Kind ≠ 5 ∧ m = ⟨s.Round, s.Place⟩)) (hN : aMa l)
  (hok : OKF d l → ∀ won, WonIs won (gE d (Res l)) → Q (some ⟨t, d, won⟩, true)) (hbad : ¬ OKF d l → Q (none, false)) :
  ∀ n k left won, left.length = n → n < k → left.Nodup → (∀ p ∈ left, p ∈ about) → WonIs won (gE d (fun s => Res l s ∧ ((⟨s.Round, s.Place⟩ : aD), s) ∉ left)) → (∀ s, Res l s → ((⟨s.Round, s.Place⟩ : aD), s) ∉ left → gs d s) →
  lN Q d t about k won left := by
 have h5 := ht.r5
 have h32 := ht.len32
 have hl := hD.len
 intro n
 induction n with
 | zero =>
  intro k left won hn hk hnd hsub hW hg
  have : left = [] := List.length_eq_zero_iff.1 hn
  subst this
  cases k with
  | zero => omega
  | succ k =>
   simp only [lN, yT]
   have hW' : WonIs won (gE d (Res l)) := hW.ext fun m v => by simp [gE, aMn]
   exact ⟨fun _ => hok ⟨hN, fun x hx => hg x hx (by simp), hW'.func⟩ won hW', fun j p hj => by simp at hj⟩
 | succ n ih =>
  intro k left won hn hk hnd hsub hW hg
  cases k with
  | zero => omega
  | succ k =>
   simp only [lN]
   refine ⟨fun e => by subst e; simp at hn, fun j p hj => ?_⟩
   have hjl : j < left.length := by
    rcases Nat.lt_or_ge j left.length with h | h
    ·exact h
    ·rw [List.getElem?_eq_none h] at hj; cases hj
   have hpm : p ∈ left := List.mem_of_getElem? hj
   obtain ⟨m, s⟩ := p
   obtain ⟨s1, s2, rfl⟩ := (ham m s).1 (hsub _ hpm)
   have hres : Res l s := ⟨s1, s2⟩
   have hr := hR s hres
   have hp0 := hr.p0
   have hr0 := hr.r0
   have hr1 := hr.r1
   have er : s.Round = ((s.Round.toNat : Nat) : Int) := by omega
   by_cases hex : ∃ a, a < d.length ∧ d.getD a 0 = s.Player
   ·obtain ⟨a, ha, he⟩ := hex
    refine ⟨_, he ▸ bDg hD (by omega) ha (by omega), ?_⟩
    have hneg : decide ((a : Int) < 0) = false := decide_eq_false (by omega)
    have hof : oP s.Round a = some (cell a s.Round.toNat) := by rw [er]; exact aQa (by omega)
    simp only [hneg, cond_false, hof, Option.bind_some]
    refine ⟨_, rfl, ?_⟩
    by_cases hc : cell a s.Round.toNat = ⟨s.Round, s.Place⟩
    ·simp only [hc, decide_true, Bool.not_true, cond_false]
     obtain ⟨b, w, hw, hT, hF⟩ := aSy (t := t) ha (show s.Round.toNat ≤ 5 by omega) hW
     rw [← er] at hw
     refine ⟨_, hw, ?_⟩
     cases b with
     | false =>
      simp only [Bool.not_false, cond_true]
      refine hbad fun hO => hF rfl fun m v w' h1 h2 => hO.fn m v w' ?_ (.inr ⟨s, hres, a, ha, he, h2⟩)
      rcases h1 with h1 | ⟨x, hx, h1⟩
      ·exact .inl h1
      ·exact .inr ⟨x, hx.1, h1⟩
     | true =>
      simp only [Bool.not_true, cond_false]
      have hj' : left[j] = (⟨s.Round, s.Place⟩, s) := by
       rw [List.getElem?_eq_getElem hjl] at hj
       exact Option.some.inj hj
      have hmem : ∀ x : aG, ((⟨x.Round, x.Place⟩ : aD), x) ∉ left.eraseIdx j ↔ ((⟨x.Round, x.Place⟩ : aD), x) ∉ left ∨ x = s := by
       intro x
       rw [aPx hnd hjl, hj']
       constructor
       ·intro h
        by_cases hx : x = s
        ·exact .inr hx
        ·exact .inl fun hm => h ⟨hm, fun e => hx (congrArg Prod.snd e)⟩
       ·rintro (h | rfl)
        ·exact fun h2 => h h2.1
        ·exact fun h => h.2 rfl
      refine ih k _ w (by rw [List.length_eraseIdx]; simp [hjl]; omega) (by omega) (hnd.eraseIdx j) (fun q hq => hsub q (List.mem_of_mem_eraseIdx hq)) ((hT rfl).2.ext fun m v => ?_) fun x hx hxl => ?_
      ·constructor
       ·rintro ((h | ⟨x, hx, h⟩) | h)
        ·exact .inl h
        ·exact .inr ⟨x, ⟨hx.1, (hmem x).2 (.inl hx.2)⟩, h⟩
        ·exact .inr ⟨s, ⟨hres, (hmem s).2 (.inr rfl)⟩, a, ha, he, h⟩
       ·rintro (h | ⟨x, ⟨hx1, hx2⟩, h⟩)
        ·exact .inl (.inl h)
        ·rcases (hmem x).1 hx2 with hx2 | rfl
         ·exact .inl (.inr ⟨x, ⟨hx1, hx2⟩, h⟩)
         ·exact .inr ((aLt hD hr ha he m v).1 ⟨x, rfl, h⟩)
      ·rcases (hmem x).1 hxl with hxl | rfl
       ·exact hg x hx hxl
       ·exact ⟨a, ha, he, hc⟩
    ·simp only [hc, decide_false, Bool.not_false, cond_true]
     exact hbad fun hO => hc ((bBn hD hr ha he).1 (hO.slot s hres))
   ·refine ⟨_, aYw (by omega) fun a ha e => hex ⟨a, ha, e⟩, ?_⟩
    simp only [show decide ((-1 : Int) < 0) = true by decide, cond_true]
    refine ⟨_, rfl, ?_⟩
    simp only [cond_true]
    refine hbad fun hO => ?_
    obtain ⟨a, ha, e, _⟩ := hO.slot s hres
    exact hex ⟨a, ha, e⟩
theorem aYm {Q : (Option bJ × Bool) → Prop} {about : List (aD × aG)} (hgo : ∀ won, WonIs won (aYp d) → uN Q d won t about) : jE Q d.length d t about BIG 0 [] := by
 have h32 := ht.len32
 have hl := hD.len
 refine pK (S := List (aD × Int)) (fun k i won => jE Q d.length d t about k i won) d.length (fun p => p)
  (fun i won => WonIs won (fun m v => ∃ j, j < i ∧ j < d.length ∧ d.getD j 0 = -1 ∧ m = cell (sib j) 0 ∧ v = d.getD (sib j) 0)) ?_ ?_ BIG 0 [] (cG (by omega)) (WonIs.nil.ext fun m v => by simp)
 ·intro k i won hi hW ih
  simp only [jE, Int.ofNat_lt, hi, decide_true, cond_true, bN hi, bU (show i < 9223372036854775807 by omega)]
  refine ⟨_, rfl, ?_⟩
  rw [← bM hi 0]
  by_cases hb : d.getD i 0 = -1
  ·simp only [hb, decide_true, cond_true]
   have hx : aHw (i : Int) 1 = ((sib i : Nat) : Int) := bAa ⟨i, by omega⟩
   have hs : sib i < d.length := by rw [hl]; exact aFa ht (by omega)
   obtain ⟨b, w, hw, hT, hF⟩ := aSy (t := t) hs (show 0 ≤ 5 by omega) hW
   rw [hx]
   refine ⟨_, hw, ih w ?_⟩
   have hco : wF (fun m v => ∃ j, j < i ∧ j < d.length ∧ d.getD j 0 = -1 ∧ m = cell (sib j) 0 ∧ v = d.getD (sib j) 0) (clm d (sib i) 0) := by
    rintro m v w' ⟨j, h1, h2, h3, h4, h5⟩ ⟨e1, q, hq, e2⟩
    have : q = 0 := by omega
    subst this
    have := aRt ht hD hi h2 hb h3 (e2.symm.trans h4)
    omega
   have hbt : b = true := by
    cases b with
    | true => rfl
    | false => exact absurd hco (hF rfl)
   refine (hT hbt).2.ext fun m v => ?_
   constructor
   ·rintro (⟨j, h1, h2⟩ | ⟨e1, q, hq, e2⟩)
    ·exact ⟨j, by omega, h2⟩
    ·have : q = 0 := by omega
     subst this
     exact ⟨i, by omega, hi, hb, e2, e1⟩
   ·rintro ⟨j, h1, h2, h3, h4, h5⟩
    by_cases hji : j = i
    ·subst hji; exact .inr ⟨h5, 0, by omega, h4⟩
    ·exact .inl ⟨j, by omega, h2, h3, h4, h5⟩
  ·simp only [hb, decide_false, cond_false]
   refine ih won (hW.ext fun m v => ?_)
   constructor
   ·rintro ⟨j, h1, h2⟩; exact ⟨j, by omega, h2⟩
   ·rintro ⟨j, h1, h2, h3, h4⟩
    by_cases hji : j = i
    ·subst hji; exact absurd h3 hb
    ·exact ⟨j, by omega, h2, h3, h4⟩
 ·intro k i won hi hW
  have hlt : decide ((i : Int) < (d.length : Int)) = false := decide_eq_false (by omega)
  simp only [jE, hlt, cond_false]
  exact hgo won (hW.ext fun m v => ⟨fun ⟨j, _, h⟩ => ⟨j, h⟩, fun ⟨j, h⟩ => ⟨j, by have := h.1; omega, h⟩⟩)
end
def mE (t : aP) (l : List aG) : Option (List Int) := match aFz t l with
 | some (d, U) => if U.length = (dK l).length then some d else none
 | none => none
def AGR (t : aP) (l : List aG) (d : List Int) : Prop := mE t l = some d ∧ OKF d l
theorem aSr {L : List aG} (hL : LOK L) {S : List Int} : ∀ {n i : Nat} {d ever : List Int} {U : List aG} {d' : List Int} {U' : List aG}, GI L S i d ever U → i + n = S.length → (∀ a, a < d.length → -1 ≤ d.getD a 0) → kH L n i d ever U = some (d', U') → ∀ a, a < d'.length → -1 ≤ d'.getD a 0
 | 0, i, d, ever, U, d', U', h, hn, hr, he => by
  simp only [kH, Option.some.injEq, Prod.mk.injEq] at he
  obtain ⟨rfl, rfl⟩ := he
  exact hr
 | n + 1, i, d, ever, U, d', U', h, hn, hr, he => by
  unfold kH at he
  have hi : i < S.length := by omega
  have hid : i < d.length := by rw [h.len]; exact hi
  cases hs : jO L i (L.length + 1) (d.getD i 0) ever U with
  | none => rw [hs] at he; simp at he
  | some q =>
   obtain ⟨now', ever', U1⟩ := q
   rw [hs] at he
   obtain ⟨_, _, hnow, _⟩ := aJj hL (h.start hi) hs
   refine aSr hL (h.next hL hi hs) (by omega) (fun a ha => ?_) he
   rw [List.length_set] at ha
   rw [nF hid]
   split
   ·rcases hnow with e | ⟨_, e, _⟩
    ·rw [e]; exact hr i hid
    ·omega
   ·exact hr a ha
theorem aDd {t : aP} (ht : TreeOK t) : aDs t.Slots := ⟨ht.rng, ht.bye, ht.dup⟩
theorem aOq {t : aP} {l : List aG} (hs : ∀ s ∈ l, gM t s = true) : LOK (dK l) := by
 intro s hm
 simp only [dK, List.mem_filter, qW, isL, decide_eq_true_eq] at hm
 have := hs s hm.1
 simp only [gM, hm.2, if_true, Bool.and_eq_true, jB] at this
 omega
theorem bBq {t : aP} (ht : TreeOK t) {l : List aG} (hs : ∀ s ∈ l, gM t s = true) {d : List Int} {U : List aG} (h : aFz t l = some (d, U)) : DOK t d := by
 have hL := aOq hs
 have hG := aHq (dK l) (aDd ht)
 obtain ⟨ever, hI⟩ := aIy hL hG (by omega) h
 refine ⟨hI.len, hI.dup, fun a ha => hI.bye a ha, aSr hL hG (by omega) (fun a ha => ?_) h⟩
 rw [bM ha]; exact (ht.rng a ha).1
theorem aDh {t : aP} (ht : TreeOK t) {l : List aG} (hs : ∀ s ∈ l, gM t s = true) {d : List Int} (h : mE t l = some d) : DOK t d := by
 unfold mE at h
 split at h
 ·rename_i d' U hr
  split at h
  ·cases h; exact bBq ht hs hr
  ·cases h
 ·cases h
theorem aOs {t : aP} (ht : TreeOK t) {l : List aG} (hs : ∀ s ∈ l, gM t s = true) (hl : l.length ≤ 500) {Q : (Option bJ × Bool) → Prop}
  (hok : ∀ d, AGR t l d → ∀ won, WonIs won (gE d (Res l)) → Q (some ⟨t, d, won⟩, true)) (hbad : (∀ d, ¬ AGR t l d) → Q (none, false)) : vA t l Q := by
 have h32 := ht.len32
 have hll := aIo (l := l)
 unfold vA
 refine ⟨t.Slots, by unfold fA; rw [eN (by simp; omega)]; rfl, ?_⟩
 refine aYn (by omega) (fun h => hbad fun d hd => h hd.2.two) fun hN lucky about hLA => ?_
 unfold uM
 have hLn : (dK l).Nodup := (aGn l).filter _
 refine aVj hLn _ (aDd ht) (aOq hs) h32 (by omega) (lk := lucky) ⟨hLA.ln, fun s => ?_⟩ (fun d U hp hU => ?_) fun hno d lk => ?_
 ·rw [hLA.lm]; simp [dK, qW, isL]
 ·have hpo : mE t l = some d := by unfold mE aFz; rw [hp]; simp [hU]
  have hD := aDh ht hs hpo
  simp only [Bool.not_true, cond_false]
  refine aYm ht hD fun won hW => ?_
  have habn : about.Nodup := (List.Pairwise.of_map (·.1) (fun a b h e => h (e ▸ rfl)) hLA.an)
  unfold uN aHd
  refine aWg ht hD (fun s hr => aOr (hs s hr.1) hr.2) hLA.am hN (fun hO won hW => hok d ⟨hpo, hO⟩ won hW) (fun hO => hbad fun d' hd' => ?_) about.length BIG about won rfl (cG ?_) habn (fun p hp => hp) (hW.ext fun m v => ?_) fun s hr hn => absurd ((hLA.am _ _).2 ⟨hr.1, hr.2, rfl⟩) hn
  ·have := hd'.1
   rw [hpo] at this
   cases this
   exact hO hd'.2
  ·have : about.length ≤ l.length := by
    have := qE (l := about) (m := l.map fun s => ((⟨s.Round, s.Place⟩ : aD), s)) habn fun x hx => ?_
    ·simpa using this
    ·obtain ⟨m, s⟩ := x
     obtain ⟨a1, a2, rfl⟩ := (hLA.am m s).1 hx
     exact List.mem_map.2 ⟨s, a1, rfl⟩
   omega
  ·constructor
   ·exact .inl
   ·rintro (h | ⟨x, ⟨hx1, hx2⟩, _⟩)
    ·exact h
    ·exact absurd ((hLA.am _ _).2 ⟨hx1.1, hx1.2, rfl⟩) hx2
 ·simp only [Bool.not_false, cond_true]
  refine hbad fun d' hd' => ?_
  have := hd'.1
  unfold mE at this
  split at this
  ·rename_i d2 U hr
   split at this
   ·rename_i hU; exact hno d2 U hr hU
   ·cases this
  ·cases this
end Go.Am
end
section
namespace Go.Am
def mat (must : List (List Int)) (r p : Nat) : Int := (must.getD r []).getD p (-2)
structure MustIs (t : aP) (must : List (List Int)) (P : pZ) : Prop where
 len : must.length = t.Rounds.toNat
 row : ∀ r : Nat, r < t.Rounds.toNat → (must.getD r []).length = dB t r
 mem : ∀ (r p : Nat) (v : Int), r < t.Rounds.toNat → p < dB t r → ((mat must r p = v ∧ v ≠ -2) ↔ P ⟨r, p⟩ v)
theorem MustIs.ext {t : aP} {must : List (List Int)} {P Q : pZ} (h : MustIs t must P) (he : ∀ m v, P m v ↔ Q m v) : MustIs t must Q := ⟨h.len, h.row, fun r p v h1 h2 => (h.mem r p v h1 h2).trans (he _ v)⟩
theorem MustIs.set {t : aP} {must : List (List Int)} {P : pZ} (h : MustIs t must P) {r p : Nat} {n : Int} (hr : r < t.Rounds.toNat) (hp : p < dB t r) (hn : n ≠ -2) (hc : ∀ v, P ⟨r, p⟩ v → v = n) :
  MustIs t (must.set r ((must.getD r []).set p n)) (fun m v => P m v ∨ (m = ⟨r, p⟩ ∧ v = n)) := by
 have hl := h.len
 have hrow := h.row r hr
 have hrl : r < must.length := by omega
 have hg : ∀ r', (must.set r ((must.getD r []).set p n)).getD r' [] = if r' = r then (must.getD r []).set p n else must.getD r' [] := by
  intro r'
  by_cases e : r' = r
  ·subst e; simp [List.getD, hrl]
  ·simp [List.getD, e, List.getElem?_set, Ne.symm e]
 refine ⟨by rw [List.length_set]; exact hl, fun r' hr' => ?_, fun r' p' v hr' hp' => ?_⟩
 ·rw [hg]
  split
  ·rename_i e; subst e; rw [List.length_set]; exact h.row r' hr'
  ·exact h.row r' hr'
 ·have hm := h.mem r' p' v hr' hp'
  unfold mat at hm ⊢
  rw [hg]
  by_cases e : r' = r
  ·subst e
   rw [if_pos rfl]
   by_cases e2 : p' = p
   ·subst e2
    have : ((must.getD r' []).set p' n).getD p' (-2) = n := by simp [List.getD]; rw [List.getElem?_set]; simp; have := hrow; simp [List.getD] at this; simp [this, hp]
    rw [this]
    constructor
    ·rintro ⟨rfl, _⟩; exact .inr ⟨rfl, rfl⟩
    ·rintro (hP | ⟨_, rfl⟩)
     ·exact ⟨(hc v hP).symm, (hm.2 hP).2⟩
     ·exact ⟨rfl, hn⟩
   ·have : ((must.getD r' []).set p n).getD p' (-2) = (must.getD r' []).getD p' (-2) := by simp only [List.getD]; rw [List.getElem?_set, if_neg (Ne.symm e2)]
    rw [this, hm]
    constructor
    ·exact .inl
    ·rintro (hP | ⟨e3, _⟩)
     ·exact hP
     ·simp only [aD.mk.injEq] at e3; omega
  ·rw [if_neg e, hm]
   constructor
   ·exact .inl
   ·rintro (hP | ⟨e3, _⟩)
    ·exact hP
    ·simp only [aD.mk.injEq] at e3; omega
theorem MustIs.func {t : aP} {must : List (List Int)} {P : pZ} (h : MustIs t must P) {r p : Nat} (hr : r < t.Rounds.toNat) (hp : p < dB t r) {v w : Int} (h1 : P ⟨r, p⟩ v) (h2 : P ⟨r, p⟩ w) : v = w :=
 ((h.mem r p v hr hp).2 h1).1.symm.trans ((h.mem r p w hr hp).2 h2).1
section
variable {t : aP} (ht : TreeOK t) {d : List Int} (hD : DOK t d)
include ht
theorem vL {a r : Nat} (ha : a < t.Slots.length) (hr : r < t.Rounds.toNat) : a / 2 ^ (r + 1) < dB t r := by
 rw [ht.len] at ha
 unfold dB
 rw [Nat.div_lt_iff_lt_mul (Nat.two_pow_pos _), ← Nat.pow_add]
 have e : t.Rounds.toNat - 1 - (r : Int).toNat + (r + 1) = t.Rounds.toNat := by simp; omega
 rw [e]; exact ha
theorem aXy : 2 * dB t 0 = t.Slots.length := by
 have h1 := ht.r1
 rw [ht.len]; unfold dB
 have e : t.Rounds.toNat = (t.Rounds.toNat - 1 - (0 : Int).toNat) + 1 := by simp; omega
 conv => rhs; rw [e, Nat.pow_succ]
 omega
omit ht in
def zP (d : List Int) (p : Nat) : Int := if d.getD (2 * p + 1) 0 = -1 then d.getD (2 * p) 0 else if d.getD (2 * p) 0 = -1 then d.getD (2 * p + 1) 0 else -2
def zB (t : aP) (d : List Int) (r : Nat) : List Int := (List.range (dB t r)).map fun p => if r = 0 then zP d p else -2
include hD in
theorem bFu (a0 : Int → List (List Int) → List Int → Option (aS × Bool)) (l : List aG) (o4 : aS) (M : List (List Int)) (d2 : List Int) {r : Nat} (hr : r < t.Rounds.toNat) :
  eH a0 l d r t o4 M d2 BIG 0 [] = lX a0 l d r t o4 M d2 (zB t d r) := by
 have hpl := aCi ht (r := (r : Int))
 have h5 := ht.r5
 have hP := aKb ht (r := (r : Int)) (by omega) (by omega)
 have hp0 := aXy ht
 have hlen := hD.len
 have := eX (S := List Int) (fun k p row => eH a0 l d r t o4 M d2 k p row) (dB t r) (fun _ _ => lX a0 l d r t o4 M d2 (zB t d r)) (fun p row => row = (List.range p).map fun p => if r = 0 then zP d p else -2) ?_ ?_ BIG [] (cG (by omega)) (by simp)
 ·exact this
 ·rintro k p row hp rfl ih
  have happ : ∀ v : Int, app 8 ((List.range p).map fun p => if r = 0 then zP d p else -2) [v] = some (((List.range p).map fun p => if r = 0 then zP d p else -2) ++ [v]) := fun v => eN (by simp; omega)
  simp only [eH, hP, Option.bind_some, Int.ofNat_lt, hp, decide_true, cond_true, happ, bU (show p < 9223372036854775807 by omega)]
  have fin : ∀ v : Int, v = (if r = 0 then zP d p else -2) → eH a0 l d r t o4 M d2 k ((p + 1 : Nat) : Int) (((List.range p).map fun p => if r = 0 then zP d p else -2) ++ [v]) = lX a0 l d r t o4 M d2 (zB t d r) := by
   intro v hv
   refine ih _ ?_
   rw [List.range_succ, List.map_append, hv]; rfl
  by_cases h0 : r = 0
  ·subst h0
   have hpl2 : p < dB t 0 := hp
   have w1 : w64 (2 * (p : Int)) = ((2 * p : Nat) : Int) := by rw [dF (by omega) (by omega)]; omega
   have w2 : w64 (((2 * p : Nat) : Int) + 1) = ((2 * p + 1 : Nat) : Int) := bU (by omega)
   have i1 : 2 * p < d.length := by omega
   have i2 : 2 * p + 1 < d.length := by omega
   simp only [w1, w2, bN i1, bN i2, Option.bind_some, Int.natCast_zero, decide_true, cond_true]
   rw [← bM i1 0, ← bM i2 0]
   by_cases b1 : d.getD (2 * p) 0 = -1
   ·by_cases b2 : d.getD (2 * p + 1) 0 = -1
    ·simp only [b1, b2, decide_true, cond_true]
     exact fin _ (by simp only [zP, b1, b2, if_true])
    ·simp only [b1, b2, decide_true, decide_false, cond_true, cond_false]
     exact fin _ (by simp only [zP, b1, b2, if_true, if_false])
   ·by_cases b2 : d.getD (2 * p + 1) 0 = -1
    ·simp only [b1, b2, decide_true, decide_false, cond_true, cond_false]
     exact fin _ (by simp only [zP, b2, if_true])
    ·simp only [b1, b2, decide_false, cond_false]
     exact fin _ (by simp only [zP, b1, b2, if_true, if_false])
  ·have hr0 : decide ((r : Int) = 0) = false := decide_eq_false (by omega)
   simp only [hr0, cond_false, Option.bind_some]
   exact fin _ (by rw [if_neg h0])
 ·intro k row hrow
  have hlt : decide ((dB t r : Int) < (dB t r : Int)) = false := decide_eq_false (by omega)
  simp only [eH, hP, Option.bind_some, hlt, cond_false, hrow, zB]
include hD in
theorem bDt (l : List aG) (o4 : aS) (d2 : List Int) : gI l d t o4 BIG 0 [] d2 = lW l d o4 ((List.range t.Rounds.toNat).map (zB t d)) d2 := by
 have h1 := ht.r1
 have h5 := ht.r5
 have e : t.Rounds = ((t.Rounds.toNat : Nat) : Int) := by omega
 have := eX (S := List (List Int)) (fun k r M => gI l d t o4 k r M d2) t.Rounds.toNat (fun _ _ => lW l d o4 ((List.range t.Rounds.toNat).map (zB t d)) d2) (fun r M => M = (List.range r).map (zB t d)) ?_ ?_ BIG [] (cG (by omega)) (by simp)
 ·exact this
 ·rintro k r M hr rfl ih
  have hlt : decide ((r : Int) < t.Rounds) = true := decide_eq_true (by omega)
  simp only [gI, hlt, cond_true, bFu ht hD _ l o4 _ d2 hr, lX, wO, bU (show r < 9223372036854775807 by omega)]
  rw [eN (by simp; omega), Option.bind_some]
  refine ih _ ?_
  rw [List.range_succ, List.map_append]; rfl
 ·rintro k M rfl
  have hlt : decide (((t.Rounds.toNat : Nat) : Int) < t.Rounds) = false := decide_eq_false (by omega)
  simp only [gI, hlt, cond_false]
include hD in
theorem bHq : MustIs t ((List.range t.Rounds.toNat).map (zB t d)) (aYp d) := by
 have hg : ∀ r, r < t.Rounds.toNat → ((List.range t.Rounds.toNat).map (zB t d)).getD r [] = zB t d r := by
  intro r hr
  rw [bM (by simpa using hr)]; simp
 have hp0 := aXy ht
 have hlen := hD.len
 refine ⟨by simp, fun r hr => by rw [hg r hr]; simp [zB], fun r p v hr hp => ?_⟩
 have hm : mat ((List.range t.Rounds.toNat).map (zB t d)) r p = if r = 0 then zP d p else -2 := by
  unfold mat
  rw [hg r hr, bM (by simpa [zB] using hp)]
  simp [zB]
 rw [hm]
 by_cases h0 : r = 0
 ·subst h0
  have hpl2 : p < dB t 0 := hp
  have i1 : 2 * p < d.length := by omega
  have i2 : 2 * p + 1 < d.length := by omega
  have s1 : sib (2 * p) = 2 * p + 1 := by unfold sib; split <;> omega
  have s2 : sib (2 * p + 1) = 2 * p := by unfold sib; split <;> omega
  rw [if_pos rfl]
  constructor
  ·rintro ⟨hv, hn⟩
   unfold zP at hv
   split at hv
   ·rename_i b; exact ⟨2 * p + 1, i2, b, by rw [s2]; simp [cell], by rw [s2]; exact hv.symm⟩
   ·split at hv
    ·rename_i b; exact ⟨2 * p, i1, b, by rw [s1]; simp [cell]; omega, by rw [s1]; exact hv.symm⟩
    ·exact absurd hv.symm hn
  ·rintro ⟨i, hi, hb, hc, rfl⟩
   have hsib := hD.sib_ne ht hi hb
   have hsl : sib i < d.length := by rw [hlen]; exact aFa ht (by omega)
   have hrng := hD.rng _ hsl
   refine ⟨?_, by omega⟩
   have : p = i / 2 := by
    rw [aNw] at hc
    simp only [cell, aD.mk.injEq] at hc
    omega
   rcases (show i = 2 * p ∨ i = 2 * p + 1 by omega) with rfl | rfl
   ·rw [s1] at hsib ⊢
    unfold zP; rw [if_neg hsib, if_pos hb]
   ·rw [s2]
    unfold zP; rw [if_pos hb]
 ·rw [if_neg h0]
  constructor
  ·rintro ⟨rfl, hn⟩; exact absurd rfl hn
  ·rintro ⟨i, hi, hb, hc, _⟩
   simp only [cell, aD.mk.injEq] at hc
   omega
end
end Go.Am
end
section
namespace Go.Am
abbrev aLf : Option (aS × Bool) := some (aS.mk [] [], false)
def Out (t : aP) (d : List Int) (l : List aG) (o : Option (aS × Bool)) : Prop :=
 (OKF d l → ∃ must, o = some (⟨d, must⟩, true) ∧ MustIs t must (gE d (Res l))) ∧ (¬ OKF d l → o = aLf)
theorem Out.bad {t : aP} {d : List Int} {l : List aG} (h : ¬ OKF d l) : Out t d l aLf := ⟨fun h' => absurd h' h, fun _ => rfl⟩
section
variable {t : aP} (ht : TreeOK t) {d : List Int} (hD : DOK t d) {l : List aG} (hR : ∀ s, Res l s → ROK t s)
include ht hD
theorem bAl {P : pZ} {x : aG} (hx : ROK t x) {a : Nat} (ha : a < d.length) (he : d.getD a 0 = x.Player) (a4 : Int → aS → List (List Int) → Option (aS × Bool)) (all : List aG) (i : Int) (o4 : aS)
  {must : List (List Int)} (h : MustIs t must P) (hok : wF P (clm d a x.Round.toNat) → ∀ must', MustIs t must' (fun m v => P m v ∨ clm d a x.Round.toNat m v) → Out t d l (a4 (w64 (i + 1)) o4 must'))
  (hbad : ¬ wF P (clm d a x.Round.toNat) → ¬ OKF d l) : Out t d l (iA a4 d all i a d x BIG 0 o4 must) := by
 have h5 := ht.r5
 have hr0 := hx.r0
 have hr1 := hx.r1
 have hp0 := hx.p0
 have hal : a < t.Slots.length := by rw [← hD.len]; exact ha
 have key : ∀ n q k must', q + n = x.Round.toNat + 1 → n < k → MustIs t must' (fun m v => P m v ∨ (v = d.getD a 0 ∧ ∃ p, p < q ∧ m = cell a p)) → (∀ p, p < q → ∀ v, P (cell a p) v → v = d.getD a 0) →
   Out t d l (iA a4 d all i a d x k q o4 must') := by
  intro n
  induction n with
  | zero =>
   intro q k must' hq hk hW hc
   cases k with
   | zero => omega
   | succ k =>
    have hlt : decide ((q : Int) ≤ x.Round) = false := decide_eq_false (by omega)
    simp only [iA, hlt, cond_false, vX, lY]
    refine hok ?_ must' (hW.ext fun m v => ?_)
    ·rintro m v w hp ⟨rfl, p, hp', rfl⟩
     exact hc p (by omega) v hp
    ·constructor
     ·rintro (h | ⟨e, p, hp, e2⟩)
      ·exact .inl h
      ·exact .inr ⟨e, p, by omega, e2⟩
     ·rintro (h | ⟨e, p, hp, e2⟩)
      ·exact .inl h
      ·exact .inr ⟨e, p, by omega, e2⟩
  | succ n ih =>
   intro q k must' hq hk hW hc
   cases k with
   | zero => omega
   | succ k =>
    have hlt : decide ((q : Int) ≤ x.Round) = true := decide_eq_true (by omega)
    have hqR : q < t.Rounds.toNat := by omega
    have hw : w64 ((q : Int) + 1) = ((q + 1 : Nat) : Int) := bU (by omega)
    have hu : IntKind.u64.wrap ((q + 1 : Nat) : Int) = ((q + 1 : Nat) : Int) := xI (by omega) (by omega)
    have hch : chk (decide (0 ≤ ((q + 1 : Nat) : Int))) = some () := by unfold chk; rw [decide_eq_true (by omega)]; rfl
    have hmin : min ((q + 1 : Nat) : Int).toNat 64 = q + 1 := by omega
    have hml := hW.len
    have hrl := hW.row q hqR
    have hpin := vL ht hal hqR
    have hql : q < must'.length := by omega
    have hi1 : idx must' (q : Int) = some (must'.getD q []) := by rw [bN hql, bM hql]
    have hi2 : idx (must'.getD q []) ((a / 2 ^ (q + 1) : Nat) : Int) = some (mat must' q (a / 2 ^ (q + 1))) := by
     have hlt' : a / 2 ^ (q + 1) < (must'.getD q []).length := by omega
     rw [bN hlt']; exact congrArg some (bM hlt' (-2)).symm
    simp only [iA, hlt, cond_true, hw, hu, hch, hmin, aBc, Option.bind_some, hi1, hi2]
    have hmem := fun v => hW.mem q (a / 2 ^ (q + 1)) v hqR hpin
    have hcell : (⟨(q : Int), ((a / 2 ^ (q + 1) : Nat) : Int)⟩ : aD) = cell a q := rfl
    rw [hcell] at hmem
    by_cases hex : mat must' q (a / 2 ^ (q + 1)) ≠ -2 ∧ mat must' q (a / 2 ^ (q + 1)) ≠ x.Player
    ·simp only [hex.1, hex.2, decide_false, Bool.not_false, cond_true, Option.bind_some]
     refine Out.bad (hbad fun hco => hex.2 ?_)
     rcases (hmem _).1 ⟨rfl, hex.1⟩ with h | ⟨h, _⟩
     ·rw [← he]; exact hco _ _ _ h ⟨rfl, q, by omega, rfl⟩
     ·rw [h, he]
    ·have hb : ((bif !decide (mat must' q (a / 2 ^ (q + 1)) = -2) then some (!decide (mat must' q (a / 2 ^ (q + 1)) = x.Player)) else some false) : Option Bool) = some false := by
      rw [dG, Option.some.injEq, Bool.and_eq_false_iff]
      by_cases h1 : mat must' q (a / 2 ^ (q + 1)) = -2
      ·exact .inl (by simp [h1])
      ·exact .inr (by simpa using fun h2 => hex ⟨h1, h2⟩)
     have hall : ∀ v, (P (cell a q) v ∨ (v = d.getD a 0 ∧ ∃ p, p < q ∧ cell a q = cell a p)) → v = d.getD a 0 := by
      intro v hv
      have ⟨h1, h2⟩ := (hmem v).2 hv
      rw [he]
      refine Classical.byContradiction fun hne => hex ⟨by rw [h1]; exact h2, by rw [h1]; exact hne⟩
     simp only [hb, Option.bind_some, cond_false]
     simp only [← he]
     have e8 : ((q : Int)).toNat = q := by omega
     have e9 : (((a / 2 ^ (q + 1) : Nat)) : Int).toNat = a / 2 ^ (q + 1) := Int.toNat_natCast _
     rw [e8, e9]
     rw [← he] at hp0
     refine ih (q + 1) k _ (by omega) (by omega) ((hW.set hqR hpin (n := d.getD a 0) (by omega) hall).ext fun m v => ?_) fun p hp v hv => ?_
     ·rw [hcell]
      constructor
      ·rintro ((h | ⟨e, p, hp, e2⟩) | ⟨e1, e2⟩)
       ·exact .inl h
       ·exact .inr ⟨e, p, by omega, e2⟩
       ·exact .inr ⟨e2, q, by omega, e1⟩
      ·rintro (h | ⟨e, p, hp, e2⟩)
       ·exact .inl (.inl h)
       ·by_cases hpq : p = q
        ·subst hpq; exact .inr ⟨e2, e⟩
        ·exact .inl (.inr ⟨e, p, by omega, e2⟩)
     ·by_cases hpq : p = q
      ·subst hpq; exact hall v (.inl hv)
      ·exact hc p (by omega) v hv
 exact key (x.Round.toNat + 1) 0 BIG must (by omega) (cG (by omega)) (h.ext fun m v => by simp) (fun p hp => by omega)
omit ht in
theorem bDl (hl : d.length ≤ 1000) {x : aG} (hp : 0 ≤ x.Player) (a4 : Int → aS → List (List Int) → Option (aS × Bool)) (all : List aG) (i : Int) (o4 : aS) (must : List (List Int)) (d2 : List Int) :
  (∀ a, a < d.length → d.getD a 0 = x.Player → eB a4 d all i o4 must d2 x BIG (-1) 0 = iV a4 d all i a o4 must d2 x) ∧
  ((∀ a, a < d.length → d.getD a 0 ≠ x.Player) → eB a4 d all i o4 must d2 x BIG (-1) 0 = iV a4 d all i (-1) o4 must d2 x) := by
 refine ⟨fun a ha he => ?_, fun hno => ?_⟩
 ·have := eX (S := Int) (fun k s at' => eB a4 d all i o4 must d2 x k at' s) d.length (fun s at' => iV a4 d all i (if s ≤ a then (a : Int) else at') o4 must d2 x) (fun _ _ => True) ?_ ?_ BIG (-1) (cG (by omega)) trivial
  ·simpa using this
  ·intro k s at' hs _ ih
   simp only [eB, Int.ofNat_lt, hs, decide_true, cond_true, bN hs, Option.bind_some, bU (show s < 9223372036854775807 by omega), ih _ trivial]
   rw [← bM hs 0]
   by_cases hsa : s = a
   ·subst hsa
    simp only [he, decide_true, cond_true]
    rw [if_neg (by omega), if_pos (Nat.le_refl s)]
   ·have : d.getD s 0 ≠ x.Player := fun e => hsa (hD.uni hs ha (e.trans he.symm) (by omega))
    simp only [this, decide_false, cond_false]
    by_cases hle : s ≤ a
    ·rw [if_pos hle, if_pos (by omega)]
    ·rw [if_neg hle, if_neg (by omega)]
  ·intro k at' _
   have hlt : decide ((d.length : Int) < (d.length : Int)) = false := decide_eq_false (by omega)
   simp only [eB, hlt, cond_false]
   rw [if_neg (by omega)]
 ·have := eX (S := Int) (fun k s at' => eB a4 d all i o4 must d2 x k at' s) d.length (fun s at' => iV a4 d all i at' o4 must d2 x) (fun _ _ => True) ?_ ?_ BIG (-1) (cG (by omega)) trivial
  ·exact this
  ·intro k s at' hs _ ih
   simp only [eB, Int.ofNat_lt, hs, decide_true, cond_true, bN hs, Option.bind_some, bU (show s < 9223372036854775807 by omega), ih _ trivial]
   rw [← bM hs 0]
   simp only [hno s hs, decide_false, cond_false]
  ·intro k at' _
   have hlt : decide ((d.length : Int) < (d.length : Int)) = false := decide_eq_false (by omega)
   simp only [eB, hlt, cond_false]
include hR in
theorem bCa (hl : l.length ≤ 1000) : Out t d l (lW l d (aS.mk [] []) ((List.range t.Rounds.toNat).map (zB t d)) d) := by
 have h5 := ht.r5
 have h32 := ht.len32
 have hlen := hD.len
 have hol := aCf l
 unfold lW
 rw [aXw l hl, Option.bind_some]
 refine pK (S := List (List Int)) (fun k i must => dJ d (bZ l) d k i (aS.mk [] []) must) (bZ l).length (Out t d l)
  (fun i must => MustIs t must (gE d (Res ((bZ l).take i))) ∧ (∀ x, Res ((bZ l).take i) x → gs d x) ∧ aMa ((bZ l).take i)) ?_ ?_ BIG 0 _ (cG (by omega)) ?_
 ·intro k i must hi ⟨hM, hg, hN⟩ ih
  have hmt : ∀ x, x ∈ (bZ l).take (i + 1) ↔ x ∈ (bZ l).take i ∨ x = (bZ l)[i] := fun x => by
   rw [List.take_succ_eq_append_getElem hi, List.mem_append, List.mem_singleton]
  have hsub : ∀ x, x ∈ (bZ l).take i → x ∈ l := fun x hx => (qW l x).1 (List.mem_of_mem_take hx)
  simp only [dJ, Int.ofNat_lt, hi, decide_true, cond_true, bN hi, Option.bind_some]
  by_cases hk : (bZ l)[i].Kind = 5
  ·simp only [hk, decide_true, cond_true, lY, bU (show i < 9223372036854775807 by omega)]
   have hres : ∀ x, Res ((bZ l).take (i + 1)) x ↔ Res ((bZ l).take i) x := by
    intro x
    unfold Res
    rw [hmt]
    constructor
    ·rintro ⟨h | h, h2⟩
     ·exact ⟨h, h2⟩
     ·exact absurd (h ▸ hk) h2
    ·rintro ⟨h, h2⟩; exact ⟨.inl h, h2⟩
   refine ih must ⟨hM.ext fun m v => ?_, fun x hx => hg x ((hres x).1 hx), fun x hx y hy kx ky => hN x ((hres x).1 ⟨hx, kx⟩).1 y ((hres y).1 ⟨hy, ky⟩).1 kx ky⟩
   simp only [gE, aMn, hres]
  ·have hmi : (bZ l)[i] ∈ l := (qW l _).1 (List.getElem_mem hi)
   have hresx : Res l (bZ l)[i] := ⟨hmi, hk⟩
   have hx := hR _ hresx
   have hxp := hx.p0
   have hxr0 := hx.r0
   have hxr1 := hx.r1
   simp only [hk, decide_false, cond_false]
   have htwo : iW (dJ d (bZ l) d k) d (bZ l) i must d (bZ l)[i] BIG 0 (aS.mk [] []) =
     bif (List.range i).all fun j => !(!decide ((bZ l)[j]?.any (fun y => decide (y.Kind = 5)) = true) && decide ((bZ l)[j]?.any (fun y => decide (y.Round = (bZ l)[i].Round)) = true) && decide ((bZ l)[j]?.any (fun y => decide (y.Place = (bZ l)[i].Place)) = true)) then
      sL (dJ d (bZ l) d k) d (bZ l) i (aS.mk [] []) must d (bZ l)[i] else aLf := by
    refine rH (fun q j => iW (dJ d (bZ l) d k) d (bZ l) i must d (bZ l)[i] q j (aS.mk [] [])) i _ aLf _ ?_ ?_ BIG (cG (by omega))
    ·intro q j hj
     have hj' : j < (bZ l).length := by omega
     simp only [iW, Int.ofNat_lt, hj, decide_true, cond_true, bN hj', Option.bind_some, dG, bU (show j < 9223372036854775807 by omega), List.getElem?_eq_getElem hj', Option.any_some, decide_eq_true_eq]
     cases (!decide ((bZ l)[j].Kind = 5) && decide ((bZ l)[j].Round = (bZ l)[i].Round) && decide ((bZ l)[j].Place = (bZ l)[i].Place)) <;> rfl
    ·intro q
     have hlt : decide ((i : Int) < (i : Int)) = false := decide_eq_false (by omega)
     simp only [iW, hlt, cond_false]
   rw [htwo]
   cases hall : (List.range i).all fun j => !(!decide ((bZ l)[j]?.any (fun y => decide (y.Kind = 5)) = true) && decide ((bZ l)[j]?.any (fun y => decide (y.Round = (bZ l)[i].Round)) = true) && decide ((bZ l)[j]?.any (fun y => decide (y.Place = (bZ l)[i].Place)) = true)) with
   | false =>
    rw [cond_false]
    refine Out.bad fun hO => ?_
    rw [List.all_eq_false] at hall
    obtain ⟨j, hj, hb⟩ := hall
    simp only [List.mem_range] at hj
    have hj' : j < (bZ l).length := by omega
    rw [Bool.not_eq_true, Bool.not_eq_false'] at hb
    simp only [List.getElem?_eq_getElem hj', Option.any_some, Bool.and_eq_true, Bool.not_eq_true', decide_eq_true_eq, decide_eq_false_iff_not] at hb
    have := hO.two _ ((qW l _).1 (List.getElem_mem hj')) _ hmi hb.1.1 hk hb.1.2 hb.2
    have := (List.getElem_inj (aGn l)).1 this
    omega
   | true =>
    rw [cond_true]
    rw [kP] at hall
    have hfresh : ∀ y, y ∈ (bZ l).take i → y.Kind ≠ 5 → ¬ (y.Round = (bZ l)[i].Round ∧ y.Place = (bZ l)[i].Place) := by
     rintro y hy ky ⟨e1, e2⟩
     obtain ⟨j, hj, rfl⟩ := List.mem_take_iff_getElem.1 hy
     have hj' : j < (bZ l).length := by omega
     have := hall j (by omega)
     simp only [List.getElem?_eq_getElem hj', Option.any_some, Bool.not_eq_true', Bool.and_eq_false_iff, Bool.not_eq_false', decide_eq_true_eq, decide_eq_false_iff_not] at this
     rcases this with (h | h) | h
     ·exact ky h
     ·exact h e1
     ·exact h e2
    unfold sL
    have hlast := bDl hD (by omega) hxp (dJ d (bZ l) d k) (bZ l) i (aS.mk [] []) must d
    by_cases hex : ∃ a, a < d.length ∧ d.getD a 0 = (bZ l)[i].Player
    ·obtain ⟨a, ha, he⟩ := hex
     rw [hlast.1 a ha he]
     have er : (bZ l)[i].Round = (((bZ l)[i].Round.toNat : Nat) : Int) := by omega
     have hw : w64 ((bZ l)[i].Round + 1) = (((bZ l)[i].Round.toNat + 1 : Nat) : Int) := by rw [dF (by omega) (by omega)]; omega
     have hu : IntKind.u64.wrap (((bZ l)[i].Round.toNat + 1 : Nat) : Int) = (((bZ l)[i].Round.toNat + 1 : Nat) : Int) := xI (by omega) (by omega)
     have hch : chk (decide (0 ≤ (((bZ l)[i].Round.toNat + 1 : Nat) : Int))) = some () := by unfold chk; rw [decide_eq_true (by omega)]; rfl
     have hmin : min (((bZ l)[i].Round.toNat + 1 : Nat) : Int).toNat 64 = (bZ l)[i].Round.toNat + 1 := by omega
     have hneg : decide ((a : Int) < 0) = false := decide_eq_false (by omega)
     have hcell : cell a (bZ l)[i].Round.toNat = ⟨(bZ l)[i].Round, (bZ l)[i].Place⟩ ↔ ((a / 2 ^ ((bZ l)[i].Round.toNat + 1) : Nat) : Int) = (bZ l)[i].Place := by
      simp only [cell, aD.mk.injEq, ← er, true_and]
     unfold iV
     simp only [hneg, cond_false, hw, hu, hch, hmin, aBc, Option.bind_some]
     by_cases hc : ((a / 2 ^ ((bZ l)[i].Round.toNat + 1) : Nat) : Int) = (bZ l)[i].Place
     ·simp only [hc, decide_true, Bool.not_true, cond_false]
      refine bAl ht hD hx ha he _ _ _ _ hM (fun hco must' hM' => ?_) fun hco hO => hco fun m v w h1 h2 => hO.fn m v w ?_ (.inr ⟨_, hresx, a, ha, he, h2⟩)
      ·rw [bU (show i < 9223372036854775807 by omega)]
       have hres : ∀ x, Res ((bZ l).take (i + 1)) x ↔ Res ((bZ l).take i) x ∨ x = (bZ l)[i] := by
        intro x
        unfold Res
        rw [hmt]
        constructor
        ·rintro ⟨h | h, h2⟩
         ·exact .inl ⟨h, h2⟩
         ·exact .inr h
        ·rintro (⟨h, h2⟩ | rfl)
         ·exact ⟨.inl h, h2⟩
         ·exact ⟨.inr rfl, hk⟩
       refine ih must' ⟨hM'.ext fun m v => ?_, fun x hxx => ?_, fun x hxx y hyy kx ky e1 e2 => ?_⟩
       ·constructor
        ·rintro ((h | ⟨y, hy, h⟩) | h)
         ·exact .inl h
         ·exact .inr ⟨y, (hres y).2 (.inl hy), h⟩
         ·exact .inr ⟨_, (hres _).2 (.inr rfl), a, ha, he, h⟩
        ·rintro (h | ⟨y, hy, h⟩)
         ·exact .inl (.inl h)
         ·rcases (hres y).1 hy with hy | rfl
          ·exact .inl (.inr ⟨y, hy, h⟩)
          ·exact .inr ((aLt hD hx ha he m v).1 ⟨_, rfl, h⟩)
       ·rcases (hres x).1 hxx with h | rfl
        ·exact hg x h
        ·exact ⟨a, ha, he, hcell.2 hc⟩
       ·rcases (hres x).1 ⟨hxx, kx⟩ with h | rfl
        ·rcases (hres y).1 ⟨hyy, ky⟩ with h' | rfl
         ·exact hN x h.1 y h'.1 kx ky e1 e2
         ·exact absurd ⟨e1, e2⟩ (hfresh x h.1 kx)
        ·rcases (hres y).1 ⟨hyy, ky⟩ with h' | h'
         ·exact absurd ⟨e1.symm, e2.symm⟩ (hfresh y h'.1 ky)
         ·exact h'.symm
      ·rcases h1 with h1 | ⟨y, hy, h1⟩
       ·exact .inl h1
       ·exact .inr ⟨y, ⟨hsub y hy.1, hy.2⟩, h1⟩
     ·simp only [hc, decide_false, Bool.not_false, cond_true]
      exact Out.bad fun hO => hc (hcell.1 ((bBn hD hx ha he).1 (hO.slot _ hresx)))
    ·rw [hlast.2 fun a ha e => hex ⟨a, ha, e⟩]
     unfold iV
     simp only [show decide ((-1 : Int) < 0) = true by decide, cond_true, Option.bind_some]
     refine Out.bad fun hO => ?_
     obtain ⟨a, ha, e, _⟩ := hO.slot _ hresx
     exact hex ⟨a, ha, e⟩
 ·intro k i must hi ⟨hM, hg, hN⟩
  have hlt : decide ((i : Int) < ((bZ l).length : Int)) = false := decide_eq_false (by omega)
  have hta : (bZ l).take i = bZ l := List.take_of_length_le (by omega)
  rw [hta] at hM hg hN
  have hres : ∀ x, Res (bZ l) x ↔ Res l x := fun x => by unfold Res; rw [qW]
  have hM' : MustIs t must (gE d (Res l)) := hM.ext fun m v => by simp only [gE, aMn, hres]
  simp only [dJ, hlt, cond_false, wP]
  refine ⟨fun _ => ⟨must, rfl, hM'⟩, fun hO => absurd ⟨fun x hx y hy => hN x ((qW l x).2 hx) y ((qW l y).2 hy), fun x hx => hg x ((hres x).2 hx), ?_⟩ hO⟩
  intro m v w h1 h2
  have hin : ∀ {v}, gE d (Res l) m v → ∃ r p : Nat, m = ⟨r, p⟩ ∧ r < t.Rounds.toNat ∧ p < dB t r := by
   have h1 := ht.r1
   rintro v (⟨j, hj, hb, rfl, _⟩ | ⟨x, hx, a, ha, he, _, q, hq, rfl⟩)
   ·refine ⟨0, sib j / 2 ^ (0 + 1), rfl, by omega, vL ht (aFa ht (by omega)) (by omega)⟩
   ·have := (hR x hx).r1
    have := (hR x hx).r0
    exact ⟨q, a / 2 ^ (q + 1), rfl, by omega, vL ht (by omega) (by omega)⟩
  obtain ⟨r, p, rfl, hr, hp⟩ := hin h1
  exact hM'.func hr hp h1 h2
 ·refine ⟨(bHq ht hD).ext fun m v => ?_, fun x hx => absurd hx.1 (by simp), fun x hx => absurd hx (by simp)⟩
  simp [gE, aMn, Res]
end
theorem aRv {t : aP} (ht : TreeOK t) {l : List aG} (hs : ∀ s ∈ l, gM t s = true) (hl : l.length ≤ 1000) :
  (∀ d, AGR t l d → ∃ must, dX t l = some (⟨d, must⟩, true) ∧ MustIs t must (gE d (Res l))) ∧ ((∀ d, ¬ AGR t l d) → dX t l = aLf) := by
 have h32 := ht.len32
 have hP := aYj hl h32 (aDd ht) (aOq hs)
 unfold dX
 rw [hP, Option.bind_some]
 cases hp : aFz t l with
 | none =>
  have hno : ∀ d, ¬ AGR t l d := fun d h => by have := h.1; unfold mE at this; rw [hp] at this; cases this
  exact ⟨fun d h => absurd h (hno d), fun _ => rfl⟩
 | some q =>
  obtain ⟨d, U⟩ := q
  simp only
  by_cases hU : U.length = (dK l).length
  ·have hpo : mE t l = some d := by unfold mE; rw [hp]; simp [hU]
   have hD := aDh ht hs hpo
   have hO := bCa ht hD (fun s hr => aOr (hs s hr.1) hr.2) hl
   simp only [hU, decide_true, Bool.not_true, cond_false, bDt ht hD]
   refine ⟨fun d' hd' => ?_, fun hno => hO.2 fun h => hno d ⟨hpo, h⟩⟩
   have := hd'.1
   rw [hpo] at this
   cases this
   exact hO.1 hd'.2
  ·have hno : ∀ d, ¬ AGR t l d := fun d h => by have := h.1; unfold mE at this; rw [hp] at this; simp [hU] at this
   simp only [hU, decide_false, Bool.not_false, cond_true]
   exact ⟨fun d h => absurd h (hno d), fun _ => trivial⟩
end Go.Am
end
section
namespace Go.Am
structure Good (t : aP) (l : List aG) (d : List Int) : Prop where
 tree : tN t = true
 len : l.length ≤ 60
 slips : ∀ s ∈ l, gM t s = true
 agr : AGR t l d
inductive Stat (t : aP) (l : List aG) : Int → Prop
 | s70 : tN t = false → Stat t l 70
 | s71 : tN t = true → (60 < l.length ∨ ∃ s ∈ l, gM t s = false) → Stat t l 71
 | s72 : tN t = true → l.length ≤ 60 → (∀ s ∈ l, gM t s = true) → (∀ d, ¬ AGR t l d) → Stat t l 72
theorem Stat.ne {t : aP} {l : List aG} {e : Int} (h : Stat t l e) : decide (e = 0) = false := by cases h <;> rfl
theorem aDp (t : aP) (l : List aG) : (∃ d, Good t l d) ∨ ∃ e, Stat t l e := by
 cases ht : tN t with
 | false => exact .inr ⟨70, .s70 ht⟩
 | true =>
  by_cases hl : 60 < l.length
  ·exact .inr ⟨71, .s71 ht (.inl hl)⟩
  ·by_cases hs : ∃ s ∈ l, gM t s = false
   ·exact .inr ⟨71, .s71 ht (.inr hs)⟩
   ·have hs' : ∀ s ∈ l, gM t s = true := fun s hm => by
     cases h : gM t s with
     | true => rfl
     | false => exact absurd ⟨s, hm, h⟩ hs
    by_cases hd : ∃ d, AGR t l d
    ·obtain ⟨d, hd⟩ := hd
     exact .inl ⟨d, ht, by omega, hs', hd⟩
    ·exact .inr ⟨72, .s72 ht (by omega) hs' fun d h => hd ⟨d, h⟩⟩
theorem Good.ht {t : aP} {l : List aG} {d : List Int} (h : Good t l d) : TreeOK t := pA h.tree
theorem Good.dok {t : aP} {l : List aG} {d : List Int} (h : Good t l d) : DOK t d := aDh h.ht h.slips h.agr.1
theorem Good.uniq {t : aP} {l : List aG} {d d' : List Int} (h : Good t l d) (h' : Good t l d') : d = d' := by
 have := h.agr.1
 rw [h'.agr.1] at this
 exact (Option.some.inj this).symm
theorem aIv {t : aP} {l : List aG} {e : Int} (h : Stat t l e) {Q : (Option bJ × Int) → Prop} (hq : Q (none, e)) : lH t l Q := by
 unfold lH
 refine ⟨_, aSi t, ?_⟩
 cases h with
 | s70 ht => simp only [ht, Bool.not_false, cond_true]; exact hq
 | s71 ht hs =>
  simp only [ht, Bool.not_true, cond_false]
  by_cases hl : 60 < l.length
  ·have : decide (60 < (l.length : Int)) = true := decide_eq_true (by omega)
   simp only [this, cond_true]
   exact ⟨_, rfl, hq⟩
  ·have : decide (60 < (l.length : Int)) = false := decide_eq_false (by omega)
   simp only [this, cond_false]
   rw [uL l (by omega) _ (fun s => !gM t s) fun x _ => by simp [qZ, aKw (pA ht)]]
   refine ⟨_, rfl, ?_⟩
   have : (l.any fun s => !gM t s) = true := by
    rcases hs with h | ⟨s, h1, h2⟩
    ·exact absurd h hl
    ·rw [List.any_eq_true]; exact ⟨s, h1, by rw [h2]; rfl⟩
   simp only [this, cond_true]; exact hq
 | s72 ht hl hs hno =>
  have : decide (60 < (l.length : Int)) = false := decide_eq_false (by omega)
  simp only [ht, Bool.not_true, cond_false, this]
  rw [uL l (by omega) _ (fun s => !gM t s) fun x _ => by simp [qZ, aKw (pA ht)]]
  refine ⟨_, rfl, ?_⟩
  have : (l.any fun s => !gM t s) = false := by
   rw [List.any_eq_false]; intro s hm; rw [hs s hm]; simp
  simp only [this, cond_false]
  exact aOs (pA ht) hs (by omega) (fun d hd => absurd hd (hno d)) fun _ => hq
theorem aFx {t : aP} {l : List aG} {d : List Int} (h : Good t l d) {Q : (Option bJ × Int) → Prop} (hq : ∀ won, WonIs won (gE d (Res l)) → Q (some ⟨t, d, won⟩, 0)) : lH t l Q := by
 unfold lH
 have hl := h.len
 have : decide (60 < (l.length : Int)) = false := decide_eq_false (by omega)
 refine ⟨_, aSi t, ?_⟩
 simp only [h.tree, Bool.not_true, cond_false, this]
 rw [uL l (by omega) _ (fun s => !gM t s) fun x _ => by simp [qZ, aKw h.ht]]
 refine ⟨_, rfl, ?_⟩
 have : (l.any fun s => !gM t s) = false := by
  rw [List.any_eq_false]; intro s hm; rw [h.slips s hm]; simp
 simp only [this, cond_false]
 refine aOs h.ht h.slips (by omega) (fun d' hd won hW => ?_) fun hno => absurd h.agr (hno d)
 have := h.uniq ⟨h.tree, h.len, h.slips, hd⟩
 subst this
 exact hq won hW
theorem aGe {t : aP} (ht : TreeOK t) {l : List aG} (hl : l.length ≤ 60) : hZ l t BIG 0 = bif l.all (gM t) then lF l t else some 71 := by
 have := rH (fun k i => hZ l t k i) l.length (fun i => l[i]?.any (gM t)) (some 71) (lF l t) ?_ ?_ BIG (cG (by omega))
 ·rw [this]
  have e : (List.range l.length).all (fun i => l[i]?.any (gM t)) = l.all (gM t) := by
   rw [Bool.eq_iff_iff, kP, List.all_eq_true]
   constructor
   ·intro h x hx
    obtain ⟨i, hi, rfl⟩ := List.mem_iff_getElem.1 hx
    have := h i hi
    rwa [List.getElem?_eq_getElem hi] at this
   ·intro h i hi
    rw [List.getElem?_eq_getElem hi]
    exact h _ (List.getElem_mem hi)
  rw [e]
 ·intro k i hi
  simp only [hZ, Int.ofNat_lt, hi, decide_true, cond_true, bN hi, Option.bind_some, aYx ht, bU (show i < 9223372036854775807 by omega), List.getElem?_eq_getElem hi, Option.any_some]
  cases gM t l[i] <;> rfl
 ·intro k
  have hlt : decide ((l.length : Int) < (l.length : Int)) = false := decide_eq_false (by omega)
  simp only [hZ, hlt, cond_false]
theorem aFk {t : aP} {l : List aG} {e : Int} (h : Stat t l e) : eZ t l = some e := by
 unfold eZ
 rw [aRq, Option.bind_some]
 cases h with
 | s70 ht => simp only [ht, Bool.not_false, cond_true]
 | s71 ht hs =>
  simp only [ht, Bool.not_true, cond_false]
  by_cases hl : 60 < l.length
  ·have : decide (60 < (l.length : Int)) = true := decide_eq_true (by omega)
   simp only [this, cond_true]
  ·have : decide (60 < (l.length : Int)) = false := decide_eq_false (by omega)
   have h2 : l.all (gM t) = false := by
    rcases hs with h | ⟨s, h1, h2⟩
    ·exact absurd h hl
    ·rw [List.all_eq_false]; exact ⟨s, h1, by simp [h2]⟩
   simp only [this, cond_false, aGe (pA ht) (show l.length ≤ 60 by omega), h2]
 | s72 ht hl hs hno =>
  have : decide (60 < (l.length : Int)) = false := decide_eq_false (by omega)
  have h2 : l.all (gM t) = true := by rw [List.all_eq_true]; exact hs
  simp only [ht, Bool.not_true, cond_false, this, aGe (pA ht) hl, h2, cond_true, lF, (aRv (pA ht) hs (by omega)).2 hno, Option.bind_some, Bool.not_false]
theorem zJ {t : aP} {l : List aG} {d : List Int} (h : Good t l d) : ∃ must, dX t l = some (⟨d, must⟩, true) ∧ MustIs t must (gE d (Res l)) :=
 (aRv h.ht h.slips (by have := h.len; omega)).1 d h.agr
theorem xJ {t : aP} {l : List aG} {d : List Int} (h : Good t l d) : eZ t l = some 0 := by
 have hl := h.len
 have : decide (60 < (l.length : Int)) = false := decide_eq_false (by omega)
 have h2 : l.all (gM t) = true := by rw [List.all_eq_true]; exact h.slips
 obtain ⟨must, hd, _⟩ := zJ h
 unfold eZ
 rw [aRq, Option.bind_some]
 simp only [h.tree, Bool.not_true, cond_false, this, aGe h.ht hl, h2, cond_true, lF, hd, Option.bind_some]
theorem aUt {t : aP} {won : List (aD × Int)} {must : List (List Int)} {P : pZ} (hW : WonIs won P) (hM : MustIs t must P) {r p : Nat} (hr : r < t.Rounds.toNat) (hp : p < dB t r) :
  dO (⟨r, p⟩ : aD) won = !decide (mat must r p = -2) := by
 rw [Bool.eq_iff_iff, hW.has, Bool.not_eq_true', decide_eq_false_iff_not]
 constructor
 ·rintro ⟨v, hv⟩
  have := (hM.mem r p v hr hp).2 hv
  rw [this.1]; exact this.2
 ·exact fun h => ⟨_, (hM.mem r p _ hr hp).1 ⟨rfl, h⟩⟩
theorem aUs {t : aP} {won : List (aD × Int)} {must : List (List Int)} {P : pZ} (hW : WonIs won P) (hM : MustIs t must P) {r p : Nat} (hr : r < t.Rounds.toNat) (hp : p < dB t r) (h : mat must r p ≠ -2) (z : Int) :
  cW (⟨r, p⟩ : aD) z won = mat must r p := hW.get ((hM.mem r p _ hr hp).1 ⟨rfl, h⟩)
theorem bFe {t : aP} {must : List (List Int)} {P : pZ} (hM : MustIs t must P) {r p : Nat} (hr : r < t.Rounds.toNat) (hp : p < dB t r) : ((idx must (r : Int)).bind fun x => idx x (p : Int)) = some (mat must r p) := by
 have hl := hM.len
 have hrow := hM.row r hr
 have hrl : r < must.length := by omega
 rw [bN hrl, Option.bind_some]
 unfold mat
 rw [bM hrl] at hrow ⊢
 have hp' : p < must[r].length := by omega
 rw [bN hp', bM hp']
section
variable {t : aP} (ht : TreeOK t) {d : List Int} (hD : DOK t d) {must : List (List Int)} {P : pZ} (hM : MustIs t must P) {won : List (aD × Int)} (hW : WonIs won P)
include ht hD hM
include hW
omit ht hD hM hW
theorem aOv {α : Type} (f : Nat → List α) (n : Nat) : (List.range (n + 1)).flatMap f = (List.range n).flatMap f ++ f n := by
 rw [List.range_succ, List.flatMap_append]; simp
include ht
include hD hM
include hW
end
theorem bAb (t : aP) (l : List aG) {r : Int} (h : eZ t l = some r) (Q : Int → Prop) (hq : Q r) : uZ t l Q := by
 unfold uZ
 rcases aDp t l with ⟨d, hg⟩ | ⟨e, he⟩
 ·rw [xJ hg] at h; cases h
  exact aFx hg fun won _ => hq
 ·rw [aFk he] at h; cases h
  exact aIv he hq
theorem bGm {t : aP} {l : List aG} {e : Int} (h : Stat t l e) {r p : Int} {Q : (Option bJ × aD × Int) → Prop} (hq : Q (none, ⟨r, p⟩, e)) : uO t l r p Q := by
 unfold uO
 refine aIv h ?_
 simp only [h.ne, cond_false]
 exact ⟨_, rfl, hq⟩
theorem bEv {t : aP} {l : List aG} {d : List Int} (h : Good t l d) {r p : Int} {Q : (Option bJ × aD × Int) → Prop} (hq : ∀ won, WonIs won (gE d (Res l)) → Q (some ⟨t, d, won⟩, ⟨r, p⟩, bif kN t r p then 0 else 1)) : uO t l r p Q := by
 unfold uO
 refine aFx h fun won hW => ?_
 have := hq won hW
 simp only [decide_true, cond_true, bEl h.ht, Option.bind_some]
 refine ⟨_, rfl, ?_⟩
 cases hm : kN t r p with
 | true => rw [hm] at this; exact this
 | false => rw [hm] at this; exact this
theorem aRa {t : aP} {l : List aG} {e : Int} (h : Stat t l e) (r p : Int) : lV t l r p = some e := by
 unfold lV
 rw [aFk h, Option.bind_some]
 simp only [h.ne, Bool.not_false, cond_true]
theorem aFm {t : aP} {l : List aG} {d : List Int} (h : Good t l d) (r p : Int) : lV t l r p = some (bif kN t r p then 0 else 1) := by
 unfold lV
 rw [xJ h, Option.bind_some]
 simp only [decide_true, Bool.not_true, cond_false, aOp h.ht, Option.bind_some]
 cases kN t r p <;> rfl
theorem aPu {t : aP} {r p : Int} (h : kN t r p = true) : ∃ r' p' : Nat, r = r' ∧ p = p' ∧ r' < t.Rounds.toNat ∧ p' < dB t r' := by
 simp only [kN, Bool.and_eq_true, jB] at h
 refine ⟨r.toNat, p.toNat, by omega, by omega, by omega, ?_⟩
 have e : ((r.toNat : Nat) : Int) = r := by omega
 rw [e]; omega
end Go.Am
end
section
namespace Go.Am
structure HB (S ever : List Int) (U : List aG) : Prop where
 se : ∀ x ∈ S, x ∈ ever
 ue : ∀ u ∈ U, u.Player ∈ ever
 us : ∀ u ∈ U, u.Player ∉ S
 uu : ∀ u ∈ U, ∀ v ∈ U, u.Player = v.Player → u = v
def aTu (S : List Int) (U : List aG) (i : Nat) (x : Int) : Prop := x = S.getD i 0 ∨ ∃ u ∈ U, u.Place = (i : Int) ∧ u.Player = x
theorem HB.next {S ever : List Int} {U : List aG} (h : HB S ever U) {s : aG} (hp : s.Player ∉ ever) : HB S (ever ++ [s.Player]) (U ++ [s]) := by
 refine ⟨fun x hx => List.mem_append_left _ (h.se x hx), fun u hu => ?_, fun u hu => ?_, fun u hu v hv e => ?_⟩
 ·rcases List.mem_append.1 hu with hu | hu
  ·exact List.mem_append_left _ (h.ue u hu)
  ·simp at hu; subst hu; simp
 ·rcases List.mem_append.1 hu with hu | hu
  ·exact h.us u hu
  ·simp at hu; subst hu; exact fun hs => hp (h.se _ hs)
 ·rcases List.mem_append.1 hu with hu | hu
  ·rcases List.mem_append.1 hv with hv | hv
   ·exact h.uu u hu v hv e
   ·simp at hv; subst hv; exact absurd (e ▸ h.ue _ ‹u ∈ U›) hp
  ·simp at hu; subst hu
   rcases List.mem_append.1 hv with hv | hv
   ·exact absurd (e ▸ h.ue v hv) hp
   ·simp at hv; exact hv.symm
theorem aQt {L : List aG} {S : List Int} {i : Nat} : ∀ {n : Nat} {now : Int} {ever : List Int} {U : List aG} {now' : Int} {ever' : List Int} {U' : List aG},
  HB S ever U → aTu S U i now → jO L i n now ever U = some (now', ever', U') → HB S ever' U' ∧ aTu S U' i now' ∧ (∀ u ∈ U, u ∈ U')
 | 0, _, _, _, _, _, _, _, _, h => by simp [jO] at h
 | n + 1, now, ever, U, now', ever', U', hB, hH, h => by
  unfold jO at h
  cases hc : iR L i now with
  | nil =>
   rw [hc] at h
   simp only [Option.some.injEq, Prod.mk.injEq] at h
   obtain ⟨rfl, rfl, rfl⟩ := h
   exact ⟨hB, hH, fun u hu => hu⟩
  | cons s cs =>
   cases cs with
   | cons s2 cs => simp [hc] at h
   | nil =>
    have hs : s ∈ iR L i now := by rw [hc]; simp
    obtain ⟨m1, m2, m3⟩ := uJ.1 hs
    rw [hc] at h
    by_cases hp : s.Player ∈ ever
    ·simp [hp] at h
    ·simp only [hp, if_false] at h
     obtain ⟨r1, r2, r3⟩ := aQt (hB.next hp) (.inr ⟨s, by simp, m2, rfl⟩) h
     exact ⟨r1, r2, fun u hu => r3 u (List.mem_append_left _ hu)⟩
theorem aQh {L : List aG} {S : List Int} : ∀ {n i : Nat} {d ever : List Int} {U : List aG} {d' : List Int} {U' : List aG}, i + n ≤ d.length → HB S ever U → (∀ j, j < d.length → aTu S U j (d.getD j 0)) →
  kH L n i d ever U = some (d', U') → ∃ ever', HB S ever' U' ∧ (∀ j, j < d'.length → aTu S U' j (d'.getD j 0))
 | 0, i, d, ever, U, d', U', hn, hB, hH, he => by
  simp only [kH, Option.some.injEq, Prod.mk.injEq] at he
  obtain ⟨rfl, rfl⟩ := he
  exact ⟨ever, hB, hH⟩
 | n + 1, i, d, ever, U, d', U', hn, hB, hH, he => by
  unfold kH at he
  have hid : i < d.length := by omega
  cases hs : jO L i (L.length + 1) (d.getD i 0) ever U with
  | none => rw [hs] at he; simp at he
  | some q =>
   obtain ⟨now', ever', U1⟩ := q
   rw [hs] at he
   obtain ⟨r1, r2, r3⟩ := aQt hB (hH i hid) hs
   refine aQh (by rw [List.length_set]; omega) r1 (fun j hj => ?_) he
   rw [List.length_set] at hj
   rw [nF hid]
   split
   ·rename_i e; subst e; exact r2
   ·rcases hH j hj with h | ⟨u, hu, h⟩
    ·exact .inl h
    ·exact .inr ⟨u, r3 u hu, h⟩
structure HD (t : aP) (l : List aG) (d : List Int) : Prop where
 us : ∀ u ∈ dK l, u.Player ∉ t.Slots
 uu : ∀ u ∈ dK l, ∀ v ∈ dK l, u.Player = v.Player → u = v
 home : ∀ j, j < d.length → aTu t.Slots (dK l) j (d.getD j 0)
theorem aWs {t : aP} (ht : TreeOK t) {l : List aG} (hs : ∀ s ∈ l, gM t s = true) {d : List Int} (h : mE t l = some d) : HD t l d := by
 unfold mE at h
 split at h
 ·rename_i d' U hr
  split at h
  ·rename_i hU
   cases h
   have hL := aOq hs
   obtain ⟨ever, hI⟩ := aIy hL (aHq (dK l) (aDd ht)) (by omega) hr
   have hall : ∀ u, u ∈ U ↔ u ∈ dK l := fun u => by
    refine ⟨hI.us u, fun hu => Classical.byContradiction fun hn => ?_⟩
    have := qE (l := u :: U) (m := dK l) (List.nodup_cons.2 ⟨hn, hI.un⟩) fun x hx => by
     rcases List.mem_cons.1 hx with rfl | hx
     ·exact hu
     ·exact hI.us x hx
    simp only [List.length_cons] at this
    omega
   obtain ⟨ever', hB, hH⟩ := aQh (S := t.Slots) (by omega) ⟨fun x hx => hx, by simp, by simp, by simp⟩ (fun j _ => .inl rfl) hr
   refine ⟨fun u hu => hB.us u ((hall u).2 hu), fun u hu v hv => hB.uu u ((hall u).2 hu) v ((hall v).2 hv), fun j hj => ?_⟩
   rcases hH j hj with h | ⟨u, hu, h⟩
   ·exact .inl h
   ·exact .inr ⟨u, (hall u).1 hu, h⟩
  ·cases h
 ·cases h
theorem HD.same {t : aP} (ht : TreeOK t) {l l' : List aG} {d d' : List Int} (h : HD t l d) (h' : HD t l' d') (hl : d.length = t.Slots.length) (hl' : d'.length = t.Slots.length) (hsub : ∀ s ∈ l', s ∈ l) {a b : Nat} (ha : a < d'.length) (hb : b < d.length)
  (e : d'.getD a 0 = d.getD b 0) (hn : d.getD b 0 ≠ -1) : a = b := by
 have hL : ∀ u ∈ dK l', u ∈ dK l := fun u hu => by
  simp only [dK, List.mem_filter, qW] at hu ⊢
  exact ⟨hsub u hu.1, hu.2⟩
 have hSm : ∀ j, j < t.Slots.length → t.Slots.getD j 0 ∈ t.Slots := fun j hj => aIi hj
 rcases h'.home a ha with e1 | ⟨u, hu, e1, e2⟩
 ·rcases h.home b hb with e3 | ⟨v, hv, e3, e4⟩
  ·have hab : t.Slots.getD a 0 = t.Slots.getD b 0 := by rw [← e1, ← e3, e]
   have ha' : a < t.Slots.length := hl' ▸ ha
   have hb' : b < t.Slots.length := hl ▸ hb
   rw [bM ha', bM hb'] at hab
   rw [e3, bM hb'] at hn
   rcases Nat.lt_trichotomy a b with hlt | rfl | hlt
   ·exact absurd (ht.dup b hb' a hlt hab) hn
   ·rfl
   ·exact absurd (hab ▸ ht.dup a ha' b hlt hab.symm) hn
  ·exact absurd (by rw [e4, ← e, e1]; exact hSm a (hl' ▸ ha)) (h.us v hv)
 ·rcases h.home b hb with e3 | ⟨v, hv, e3, e4⟩
  ·exact absurd (by rw [e2, e, e3]; exact hSm b (hl ▸ hb)) (h.us u (hL u hu))
  ·have := h.uu u (hL u hu) v hv (by rw [e2, e4, e])
   subst this
   omega
theorem Good.home {t : aP} {l : List aG} {d : List Int} (h : Good t l d) : HD t l d := aWs h.ht h.slips h.agr.1
def aIl (t : aP) : List (Nat × Nat) := (List.range t.Rounds.toNat).flatMap fun r : Nat => (List.range (dB t r)).map fun p : Nat => (r, p)
theorem aUw {t : aP} {x : Nat × Nat} : x ∈ aIl t ↔ x.1 < t.Rounds.toNat ∧ x.2 < dB t x.1 := by
 simp only [aIl, List.mem_flatMap, List.mem_range, List.mem_map]
 constructor
 ·rintro ⟨r, hr, p, hp, rfl⟩; exact ⟨hr, hp⟩
 ·rintro ⟨hr, hp⟩; exact ⟨x.1, hr, x.2, hp, rfl⟩
theorem aYv (t : aP) : (aIl t).Nodup := by
 have key : ∀ n, ((List.range n).flatMap fun r : Nat => (List.range (dB t r)).map fun p => (r, p)).Nodup := by
  intro n
  induction n with
  | zero => simp
  | succ n ih =>
   rw [aOv]
   refine List.nodup_append.2 ⟨ih, ?_, fun x hx y hy e => ?_⟩
   ·exact List.Pairwise.map _ (fun a b hab e => hab (congrArg Prod.snd e)) List.nodup_range
   ·simp only [List.mem_flatMap, List.mem_range, List.mem_map] at hx hy
    obtain ⟨r, hr, p, hp, rfl⟩ := hx
    obtain ⟨q, hq, rfl⟩ := hy
    have := congrArg Prod.fst e
    simp at this
    omega
 exact key _
end Go.Am
end
section
namespace Go.Am
theorem bHb {α : Type} {l l' : List α} (hn : l.Nodup) (hn' : l'.Nodup) (h : ∀ x, x ∈ l ↔ x ∈ l') : (l = [] ↔ l' = []) ∧ (∀ x, l = [x] ↔ l' = [x]) := by
 have key : ∀ {l l' : List α}, l.Nodup → l'.Nodup → (∀ x, x ∈ l ↔ x ∈ l') → (l = [] → l' = []) ∧ ∀ x, l = [x] → l' = [x] := by
  intro l l' hn hn' h
  refine ⟨fun e => ?_, fun x e => ?_⟩
  ·subst e
   cases l' with
   | nil => rfl
   | cons a l' => exact absurd ((h a).2 (by simp)) (by simp)
  ·subst e
   cases l' with
   | nil => exact absurd ((h x).1 (by simp)) (by simp)
   | cons a l' =>
    have ha : a = x := by simpa using (h a).2 (by simp)
    subst ha
    cases l' with
    | nil => rfl
    | cons b l' =>
     have hb : b = a := by simpa using (h b).2 (by simp)
     subst hb
     simp at hn'
 exact ⟨⟨(key hn hn' h).1, (key hn' hn fun x => (h x).symm).1⟩, fun x => ⟨(key hn hn' h).2 x, (key hn' hn fun x => (h x).symm).2 x⟩⟩
theorem aUr {α : Type} [DecidableEq α] {l l' : List α} (hn : l.Nodup) (hn' : l'.Nodup) (h : ∀ x, x ∈ l ↔ x ∈ l') : l.length = l'.length :=
 Nat.le_antisymm (qE hn fun x hx => (h x).1 hx) (qE hn' fun x hx => (h x).2 hx)
theorem aSv {L L' : List aG} (hn : L.Nodup) (hn' : L'.Nodup) (h : ∀ x, x ∈ L ↔ x ∈ L') (i : Int) : ∀ (n : Nat) (now : Int) (ever : List Int) (U : List aG), jO L i n now ever U = jO L' i n now ever U
 | 0, _, _, _ => rfl
 | n + 1, now, ever, U => by
  have hc := bHb (l := iR L i now) (l' := iR L' i now) (hn.filter _) (hn'.filter _) fun x => by simp only [uJ, h]
  unfold jO
  cases e : iR L i now with
  | nil => rw [hc.1.1 e]
  | cons s cs =>
   cases cs with
   | nil =>
    rw [(hc.2 s).1 e]
    simp only
    rw [aSv hn hn' h i n]
   | cons s2 cs =>
    cases e' : iR L' i now with
    | nil => rw [hc.1.2 e'] at e; cases e
    | cons s' cs' =>
     cases cs' with
     | nil => rw [(hc.2 s').2 e'] at e; cases e
     | cons s2' cs' => rfl
theorem aSs {L L' : List aG} (hn : L.Nodup) (hn' : L'.Nodup) (h : ∀ x, x ∈ L ↔ x ∈ L') : ∀ (n i : Nat) (d ever : List Int) (U : List aG), kH L n i d ever U = kH L' n i d ever U
 | 0, _, _, _, _ => rfl
 | n + 1, i, d, ever, U => by
  unfold kH
  rw [aSv hn hn' h, aUr hn hn' h]
  cases jO L' i (L'.length + 1) (d.getD i 0) ever U with
  | none => rfl
  | some q => exact aSs hn hn' h n _ _ _ _
theorem aAc (l : List aG) : (dK l).Nodup := (aGn l).filter _
theorem aPy {l : List aG} {x : aG} : x ∈ dK l ↔ x ∈ l ∧ x.Kind = 5 := by simp [dK, qW, isL]
theorem aZf {t : aP} {l l' : List aG} (h : ∀ x : aG, x.Kind = 5 → (x ∈ l ↔ x ∈ l')) : mE t l = mE t l' := by
 have hm : ∀ x, x ∈ dK l ↔ x ∈ dK l' := fun x => by
  rw [aPy, aPy]
  exact ⟨fun ⟨a, b⟩ => ⟨(h x b).1 a, b⟩, fun ⟨a, b⟩ => ⟨(h x b).2 a, b⟩⟩
 unfold mE aFz
 rw [aSs (aAc l) (aAc l') hm, aUr (aAc l) (aAc l') hm]
section
variable {t : aP} {l : List aG} {d : List Int} (hg : Good t l d)
include hg
theorem Good.fn : Func (gE d (Res l)) := hg.agr.2.fn
theorem Good.rok {x : aG} (hx : Res l x) : ROK t x := aOr (hg.slips x hx.1) hx.2
theorem Good.down {q p : Nat} {v : Int} (h : gE d (Res l) ⟨q, p⟩ v) : ∃ a, a < d.length ∧ v = d.getD a 0 ∧ d.getD a 0 ≠ -1 ∧ cell a q = ⟨q, p⟩ ∧ q < t.Rounds.toNat ∧ ∀ q', q' ≤ q → gE d (Res l) (cell a q') v := by
 have hD := hg.dok
 have h1 := hg.ht.r1
 rcases h with ⟨i, hi, hb, hm, hv⟩ | ⟨x, hx, a, ha, he, hv, q', hq, hm⟩
 ·have hsl : sib i < d.length := by rw [hD.len]; exact aFa hg.ht (by rw [← hD.len]; exact hi)
  have hq0 : q = 0 := by simp only [cell, aD.mk.injEq] at hm; omega
  refine ⟨sib i, hsl, hv, hD.sib_ne hg.ht hi hb, by rw [hq0] at hm ⊢; exact hm.symm, by omega, fun q' hq' => ?_⟩
  have : q' = 0 := by omega
  subst this
  exact .inl ⟨i, hi, hb, rfl, hv⟩
 ·have hr := hg.rok hx
  have hp := hr.p0
  have hr0 := hr.r0
  have hr1 := hr.r1
  have hqq : q = q' := by simp only [cell, aD.mk.injEq] at hm; omega
  subst hqq
  exact ⟨a, ha, hv, by omega, hm.symm, by omega, fun q' hq' => .inr ⟨x, hx, a, ha, he, hv, q', by omega, rfl⟩⟩
end
theorem zF {l : List aG} {x : aG} (hx : x.Kind ≠ 5) (y : aG) : Res (l ++ [x]) y ↔ Res l y ∨ y = x := by
 unfold Res
 rw [List.mem_append, List.mem_singleton]
 constructor
 ·rintro ⟨h | h, h2⟩
  ·exact .inl ⟨h, h2⟩
  ·exact .inr h
 ·rintro (⟨h, h2⟩ | rfl)
  ·exact ⟨.inl h, h2⟩
  ·exact ⟨.inr rfl, hx⟩
section
variable {t : aP} {l : List aG} {d : List Int} (hg : Good t l d) {x : aG} (hx : x.Kind ≠ 5) (hs : gM t x = true)
include hg hx hs
theorem aHt {a : Nat} (ha : a < d.length) (he : d.getD a 0 = x.Player) (m : aD) (v : Int) : gE d (Res (l ++ [x])) m v ↔ gE d (Res l) m v ∨ clm d a x.Round.toNat m v := by
 have h1 := aLt hg.dok (aOr hs hx) ha he m v
 constructor
 ·rintro (h | ⟨y, hy, h⟩)
  ·exact .inl (.inl h)
  ·rcases (zF hx y).1 hy with hy | rfl
   ·exact .inl (.inr ⟨y, hy, h⟩)
   ·exact .inr (h1.1 ⟨_, rfl, h⟩)
 ·rintro ((h | ⟨y, hy, h⟩) | h)
  ·exact .inl h
  ·exact .inr ⟨y, (zF hx y).2 (.inl hy), h⟩
  ·exact .inr ⟨x, (zF hx x).2 (.inr rfl), a, ha, he, h⟩
omit hg hs in
theorem aQi : mE t (l ++ [x]) = mE t l := aZf fun y hy => by
 rw [List.mem_append, List.mem_singleton]
 exact ⟨fun h => h.resolve_right fun e => hx (e ▸ hy), .inl⟩
theorem bEp {a : Nat} (ha : a < d.length) (he : d.getD a 0 = x.Player) (hc : cell a x.Round.toNat = ⟨x.Round, x.Place⟩) (hco : wF (gE d (Res l)) (clm d a x.Round.toNat)) (hno : ∀ y ∈ l, y.Kind ≠ 5 → y.Round = x.Round → y.Place = x.Place → y = x) : AGR t (l ++ [x]) d := by
 have hO := hg.agr.2
 refine ⟨by rw [aQi hx]; exact hg.agr.1, fun y hy z hz ky kz e1 e2 => ?_, fun y hy => ?_, fun m v w h1 h2 => ?_⟩
 ·rcases (zF hx y).1 ⟨hy, ky⟩ with hy' | rfl
  ·rcases (zF hx z).1 ⟨hz, kz⟩ with hz' | rfl
   ·exact hO.two y hy'.1 z hz'.1 ky kz e1 e2
   ·exact hno y hy'.1 ky e1 e2
  ·rcases (zF hx z).1 ⟨hz, kz⟩ with hz' | hz'
   ·exact (hno z hz'.1 kz e1.symm e2.symm).symm
   ·exact hz'.symm
 ·rcases (zF hx y).1 hy with hy' | rfl
  ·exact hO.slot y hy'
  ·exact ⟨a, ha, he, hc⟩
 ·rcases (aHt hg hx hs ha he m v).1 h1 with p1 | p1 <;> rcases (aHt hg hx hs ha he m w).1 h2 with p2 | p2
  ·exact hO.fn m v w p1 p2
  ·exact hco m v w p1 p2
  ·exact (hco m w v p2 p1).symm
  ·rw [p1.1, p2.1]
theorem aWd {d' : List Int} (hA : AGR t (l ++ [x]) d') : d' = d ∧ ∃ a, a < d.length ∧ d.getD a 0 = x.Player ∧ cell a x.Round.toNat = ⟨x.Round, x.Place⟩ ∧ wF (gE d (Res l)) (clm d a x.Round.toNat) := by
 have h1 := hA.1
 rw [aQi hx, hg.agr.1] at h1
 cases h1
 obtain ⟨a, ha, he, hc⟩ := hA.2.slot x ((zF hx x).2 (.inr rfl))
 refine ⟨rfl, a, ha, he, hc, fun m v w p1 p2 => hA.2.fn m v w ((aHt hg hx hs ha he m v).2 (.inl p1)) ((aHt hg hx hs ha he m w).2 (.inr p2))⟩
theorem Good.add {a : Nat} (hl : l.length < 60) (ha : a < d.length) (he : d.getD a 0 = x.Player) (hc : cell a x.Round.toNat = ⟨x.Round, x.Place⟩) (hco : wF (gE d (Res l)) (clm d a x.Round.toNat)) (hno : ∀ y ∈ l, y.Kind ≠ 5 → y.Round = x.Round → y.Place = x.Place → y = x) : Good t (l ++ [x]) d :=
 ⟨hg.tree, by simp; omega, fun s hm => by
  rcases List.mem_append.1 hm with h | h
  ·exact hg.slips s h
  ·rw [List.mem_singleton.1 h]; exact hs, bEp hg hx hs ha he hc hco hno⟩
theorem Stat.add (hl : l.length < 60) (hno : ¬ ∃ a, a < d.length ∧ d.getD a 0 = x.Player ∧ cell a x.Round.toNat = ⟨x.Round, x.Place⟩ ∧ wF (gE d (Res l)) (clm d a x.Round.toNat)) : Stat t (l ++ [x]) 72 :=
 .s72 hg.tree (by simp; omega) (fun s hm => by
  rcases List.mem_append.1 hm with h | h
  ·exact hg.slips s h
  ·rw [List.mem_singleton.1 h]; exact hs) fun d' hd => hno (aWd hg hx hs hd).2
end
end Go.Am
end
section
namespace Go.Am
def oJ (bad : Nat → Bool) (n : Nat) : Nat := ((List.range n).find? bad).getD n
theorem aGj (bad : Nat → Bool) (n : Nat) : oJ bad n ≤ n := by
 unfold oJ
 cases h : (List.range n).find? bad with
 | none => simp
 | some k => have := List.mem_of_find?_eq_some h; simp at this; simp; omega
theorem aWl {bad : Nat → Bool} {n r : Nat} (hr : r < n) : r < oJ bad n ↔ ∀ q, q ≤ r → bad q = false := by
 unfold oJ
 cases h : (List.range n).find? bad with
 | none =>
  rw [List.find?_eq_none] at h
  simp only [Option.getD_none, hr, true_iff]
  intro q hq
  have := h q (by simp; omega)
  simpa using this
 | some k =>
  obtain ⟨hk, us, bs, he, hb⟩ := List.find?_eq_some_iff_append.1 h
  have hkn : k < n := by have := List.mem_of_find?_eq_some h; simpa using this
  have hlen : us.length = k := by
   have h1 : (List.range n)[us.length]? = some k := by rw [he]; simp
   rw [List.getElem?_eq_some_iff] at h1
   obtain ⟨_, h1⟩ := h1
   simpa using h1
  have has : ∀ q, q < k → q ∈ us := fun q hq => by
   have h1 : (List.range n)[q]? = some q := by rw [List.getElem?_range (by omega)]
   rw [he, List.getElem?_append_left (by omega)] at h1
   exact List.mem_of_getElem? h1
  simp only [Option.getD_some]
  constructor
  ·intro hrk q hq
   have := hb q (has q (by omega))
   simpa using this
  ·intro hall
   refine Classical.byContradiction fun hn => ?_
   rw [hall k (by omega)] at hk
   cases hk
theorem aKo {bad : Nat → Bool} {n : Nat} (h : oJ bad n < n) : bad (oJ bad n) = true := by
 unfold oJ at h ⊢
 cases e : (List.range n).find? bad with
 | none => rw [e] at h; simp at h
 | some k => simp only [Option.getD_some]; exact List.find?_some e
theorem aDg {T : Type} (F : Nat → Int → T) (n : Nat) (bad : Nat → Bool) (out : Nat → T) (hstep : ∀ k i : Nat, i < n → F (k + 1) (i : Int) = bif bad i then out i else F k ((i + 1 : Nat) : Int)) (hstop : ∀ k, F (k + 1) (n : Int) = out n) : ∀ k, n < k → F k 0 = out (oJ bad n) := by
 have := fun k h => eX (S := Unit) (fun k i _ => F k i) n (fun i _ => out (((List.range' i (n - i)).find? bad).getD n)) (fun _ _ => True) ?_ ?_ k () h trivial
 ·intro k h
  have := this k h
  simpa [oJ, List.range_eq_range'] using this
 ·intro k i _ hi _ ih
  have e : n - i = (n - (i + 1)) + 1 := by omega
  rw [hstep k i hi, ih () trivial, e, List.range'_succ, List.find?_cons]
  cases bad i <;> simp
 ·intro k _ _
  rw [hstop k]; simp
section
variable {t : aP} (d : List Int) (must : List (List Int)) (a : Nat)
def aKe (r : Nat) : Bool := !decide (mat must r (a / 2 ^ (r + 1)) = -2) && !decide (mat must r (a / 2 ^ (r + 1)) = d.getD a 0)
def aCt (r : Nat) : Bool := !decide (mat must r (a / 2 ^ (r + 1)) = d.getD a 0)
def xO (t : aP) : Nat := oJ (aKe d must a) t.Rounds.toNat
def aHc (t : aP) : Nat := oJ (aCt d must a) t.Rounds.toNat
end
section
variable {t : aP} (ht : TreeOK t) {d : List Int} (hD : DOK t d) {must : List (List Int)} {P : pZ} (hM : MustIs t must P)
include ht hD hM
theorem aUv {a q : Nat} (ha : a < d.length) (hq : q < t.Rounds.toNat) (v : Int) : (mat must q (a / 2 ^ (q + 1)) = v ∧ v ≠ -2) ↔ P (cell a q) v := hM.mem q _ v hq (vL ht (hD.len ▸ ha) hq)
theorem bCu {a q : Nat} (ha : a < d.length) (hq : q < t.Rounds.toNat) : aKe d must a q = false ↔ ∀ v, P (cell a q) v → v = d.getD a 0 := by
 have hm := aUv ht hD hM ha hq
 unfold aKe
 rw [Bool.and_eq_false_iff, Bool.not_eq_false', Bool.not_eq_false', decide_eq_true_eq, decide_eq_true_eq]
 constructor
 ·rintro (h | h) v hv
  ·have := (hm v).2 hv; exact absurd (this.1.symm.trans h) this.2
  ·have := (hm v).2 hv; exact this.1.symm.trans h
 ·intro h
  by_cases h2 : mat must q (a / 2 ^ (q + 1)) = -2
  ·exact .inl h2
  ·exact .inr (h _ ((hm _).1 ⟨rfl, h2⟩))
end
def Srt (l : List Int) : Prop := l.Pairwise (· ≤ ·)
theorem bCf : ∀ {l m : List Int}, Srt l → Srt m → l.Perm m → l = m
 | [], m, _, _, hp => hp.nil_eq
 | a :: l, [], _, _, hp => absurd hp.length_eq (by simp)
 | a :: l, b :: m, hl, hm, hp => by
  have hl' := List.pairwise_cons.1 hl
  have hm' := List.pairwise_cons.1 hm
  have h1 : a = b := by
   have ha : a ∈ b :: m := hp.subset (by simp)
   have hb : b ∈ a :: l := hp.symm.subset (by simp)
   rcases List.mem_cons.1 ha with e | ha
   ·exact e
   ·rcases List.mem_cons.1 hb with e | hb
    ·exact e.symm
    ·have := hl'.1 b hb
     have := hm'.1 a ha
     omega
  subst h1
  rw [bCf hl'.2 hm'.2 (List.Perm.cons_inv hp)]
theorem aZu (l : List Int) : Srt (l.mergeSort fun x y => decide (x ≤ y)) := by
 have := List.pairwise_mergeSort (le := fun x y : Int => decide (x ≤ y)) (fun a b c h1 h2 => by simp at *; omega) (fun a b => by simp; omega) l
 exact this.imp fun h => by simpa using h
structure SinkI (l out : List Int) (k : Nat) : Prop where
 lt : k < out.length
 perm : out.Perm l
 srt : ∀ i j, i < j → j < out.length → j ≠ k → i ≠ k → out.getD i 0 ≤ out.getD j 0
 up : ∀ j, k < j → j < out.length → out.getD k 0 ≤ out.getD j 0
theorem SinkI.done {l out : List Int} {k : Nat} (h : SinkI l out k) (hd : k = 0 ∨ out.getD (k - 1) 0 ≤ out.getD k 0) : Srt out ∧ out.Perm l := by
 refine ⟨?_, h.perm⟩
 unfold Srt
 rw [List.pairwise_iff_getElem]
 intro i j hi hj hij
 rw [← bM hi 0, ← bM hj 0]
 by_cases hjk : j = k
 ·subst hjk
  rcases hd with h0 | h0
  ·omega
  ·by_cases hik : i = j - 1
   ·subst hik; exact h0
   ·have := h.srt i (j - 1) (by omega) (by omega) (by omega) (by omega)
    omega
 ·by_cases hik : i = k
  ·subst hik; exact h.up j hij hj
  ·exact h.srt i j hij hj hjk hik
theorem bCi {l : List Int} {i j : Nat} (hi : i < l.length) (hj : j < l.length) : ((l.set i (l.getD j 0)).set j (l.getD i 0)).Perm l := by
 rw [bM hi, bM hj]
 by_cases hij : i = j
 ·subst hij; rw [List.set_set]; rw [List.set_getElem_self]
 ·exact List.set_set_perm hi hj
theorem SinkI.next {l out : List Int} {k : Nat} (h : SinkI l out k) (hk : 0 < k) (hlt : out.getD k 0 < out.getD (k - 1) 0) : SinkI l ((out.set k (out.getD (k - 1) 0)).set (k - 1) (out.getD k 0)) (k - 1) := by
 have hkl := h.lt
 have hg : ∀ j, ((out.set k (out.getD (k - 1) 0)).set (k - 1) (out.getD k 0)).getD j 0 = if j = k - 1 then out.getD k 0 else if j = k then out.getD (k - 1) 0 else out.getD j 0 := by
  intro j
  rw [nF (by rw [List.length_set]; omega), nF hkl]
 refine ⟨by simp; omega, (bCi hkl (by omega)).trans h.perm, fun i j hij hj hjk hik => ?_, fun j hj1 hj => ?_⟩
 ·simp only [List.length_set] at hj
  rw [hg, hg, if_neg hik, if_neg hjk]
  by_cases hi : i = k
  ·subst hi
   rw [if_pos rfl, if_neg (by omega)]
   exact h.srt (i - 1) j (by omega) hj (by omega) (by omega)
  ·rw [if_neg hi]
   by_cases hj' : j = k
   ·subst hj'
    rw [if_pos rfl]
    exact h.srt i (j - 1) (by omega) (by omega) (by omega) (by omega)
   ·rw [if_neg hj']
    exact h.srt i j hij hj hj' hi
 ·simp only [List.length_set] at hj
  rw [hg, hg, if_pos rfl, if_neg (by omega)]
  by_cases hj' : j = k
  ·subst hj'; rw [if_pos rfl]; omega
  ·rw [if_neg hj']
   exact h.up j (by omega) hj
theorem SinkI.start {out : List Int} (hs : Srt out) (x : Int) : SinkI (out ++ [x]) (out ++ [x]) out.length := by
 unfold Srt at hs
 rw [List.pairwise_iff_getElem] at hs
 refine ⟨by simp, .refl _, fun i j hij hj hjk hik => ?_, fun j h1 h2 => by simp at h2; omega⟩
 simp only [List.length_append, List.length_singleton] at hj
 have hj' : j < out.length := by omega
 have hi' : i < out.length := by omega
 rw [bM (by simp; omega), bM (by simp; omega), List.getElem_append_left hi', List.getElem_append_left hj']
 exact hs i j hi' hj' hij
end Go.Am
end
section
namespace Go.Am
section
variable {t : aP} {l : List aG} {d : List Int} (hg : Good t l d)
include hg
end
end Go.Am
end
section
namespace Go.Am
theorem aLu (l : List Int) : Srt (eE l) := aZu l
theorem oZ (l : List Int) : (eE l).Perm l := List.mergeSort_perm l _
theorem aOm {l m : List Int} (h1 : Srt m) (h2 : m.Perm l) : m = eE l := bCf h1 (aLu l) (h2.trans (oZ l).symm)
theorem bEc (a0 : Int → List Int → Option (List Int)) (l0 : List Int) (i : Int) {l : List Int} : ∀ (n k fuel : Nat) (out : List Int), k = n → SinkI l out k → k < fuel → out.length ≤ 1000 → mQ a0 l0 i fuel k out = uW a0 l0 i (eE l) := by
 intro n
 induction n with
 | zero =>
  intro k fuel out hn hS hf hl
  subst hn
  cases fuel with
  | zero => omega
  | succ fuel =>
   obtain ⟨h1, h2⟩ := hS.done (.inl rfl)
   simp only [mQ, show decide ((0 : Int) < ((0 : Nat) : Int)) = false by decide, cond_false, Option.bind_some, aOm h1 h2]
 | succ n ih =>
  intro k fuel out hn hS hf hl
  subst hn
  cases fuel with
  | zero => omega
  | succ fuel =>
   have hk := hS.lt
   have hk1 : n < out.length := by omega
   have hlt : decide ((0 : Int) < ((n + 1 : Nat) : Int)) = true := decide_eq_true (by omega)
   have hp : w64 (((n + 1 : Nat) : Int) - 1) = (n : Int) := by rw [dF (by omega) (by omega)]; omega
   simp only [mQ, hlt, cond_true, hp, bN hk, bN hk1, Option.bind_some]
   rw [← bM hk 0, ← bM hk1 0]
   by_cases hc : out.getD (n + 1) 0 < out.getD n 0
   ·have hN := hS.next (by omega) hc
    have e : ((n + 1 : Nat) : Int).toNat = n + 1 := by omega
    have e2 : ((n : Nat) : Int).toNat = n := by omega
    have hk2 : n < (out.set (n + 1) (out.getD n 0)).length := by rw [List.length_set]; exact hk1
    simp only [hc, decide_true, cond_true, e, e2, bN hk2, Option.bind_some]
    exact ih n fuel _ rfl hN (by omega) (by simp; omega)
   ·simp only [hc, decide_false, cond_false]
    obtain ⟨h1, h2⟩ := hS.done (.inr (by simp only [Nat.add_sub_cancel]; omega))
    rw [aOm h1 h2]
theorem aZt (l : List Int) (hl : l.length ≤ 900) : xU l = some (eE l) := by
 unfold xU
 have := eX (S := List Int) (fun k i out => mP l k i out) l.length (fun _ _ => some (eE l)) (fun i out => out = eE (l.take i)) ?_ ?_ BIG [] (cG (by omega)) (by simp [eE])
 ·exact this
 ·rintro k i out hi rfl ih
  have hlen : (eE (l.take i)).length = i := by rw [(oZ _).length_eq]; simp; omega
  simp only [mP, Int.ofNat_lt, hi, decide_true, cond_true, bN hi, Option.bind_some]
  rw [eN (by simp; omega), Option.bind_some]
  have e : w64 (((eE (l.take i) ++ [l[i]]).length : Int) - 1) = (((eE (l.take i)).length : Nat) : Int) := by
   rw [List.length_append, List.length_singleton, dF (by omega) (by omega)]; omega
  rw [e, bEc _ l i (eE (l.take i)).length _ BIG _ rfl (SinkI.start (aLu _) l[i]) (cG (by omega)) (by simp; omega)]
  unfold uW zV
  rw [bU (show i < 9223372036854775807 by omega)]
  refine ih _ ?_
  rw [List.take_succ_eq_append_getElem hi]
  exact aOm (aLu _) ((oZ _).trans ((oZ (l.take i)).append_right _))
 ·rintro k out rfl
  have hlt : decide ((l.length : Int) < (l.length : Int)) = false := decide_eq_false (by omega)
  simp only [mP, hlt, cond_false, zU, List.take_length]
section
variable {t : aP} (ht : TreeOK t) {d : List Int} (hD : DOK t d) {must : List (List Int)} {P : pZ} (hM : MustIs t must P) {won : List (aD × Int)} (hW : WonIs won P)
include ht hD hM
theorem aUz {a : Nat} (ha : a < d.length) : wC t ⟨d, must⟩ a = some (xO d must a t : Int) := by
 have h1 := ht.r1
 have h5 := ht.r5
 unfold wC
 refine aDg (fun k i => pE a t ⟨d, must⟩ k i) t.Rounds.toNat (aKe d must a) (fun i => some (i : Int)) (fun k i hi => ?_) (fun k => ?_) BIG (cG (by omega))
 ·have hlt : decide ((i : Int) < t.Rounds) = true := decide_eq_true (by omega)
  have hw : w64 ((i : Int) + 1) = ((i + 1 : Nat) : Int) := bU (by omega)
  have hu : IntKind.u64.wrap ((i + 1 : Nat) : Int) = ((i + 1 : Nat) : Int) := xI (by omega) (by omega)
  have hch : chk (decide (0 ≤ ((i + 1 : Nat) : Int))) = some () := by unfold chk; rw [decide_eq_true (by omega)]; rfl
  have hmin : min ((i + 1 : Nat) : Int).toNat 64 = i + 1 := by omega
  have hml := hM.len
  have hrl := hM.row i hi
  have hpin := vL ht (hD.len ▸ ha) hi
  have hql : i < must.length := by omega
  have hi1 : idx must (i : Int) = some (must.getD i []) := by rw [bN hql, bM hql]
  have hi2 : idx (must.getD i []) ((a / 2 ^ (i + 1) : Nat) : Int) = some (mat must i (a / 2 ^ (i + 1))) := by
   have hlt' : a / 2 ^ (i + 1) < (must.getD i []).length := by omega
   rw [bN hlt']; exact congrArg some (bM hlt' (-2)).symm
  simp only [pE, hlt, cond_true, hw, hu, hch, hmin, aBc, Option.bind_some, hi1, hi2, bN ha, eL, wQ]
  rw [← bM ha 0]
  unfold aKe
  cases decide (mat must i (a / 2 ^ (i + 1)) = -2) <;> cases decide (mat must i (a / 2 ^ (i + 1)) = d.getD a 0) <;> rfl
 ·have hlt : decide (((t.Rounds.toNat : Nat) : Int) < t.Rounds) = false := decide_eq_false (by omega)
  simp only [pE, hlt, cond_false, Option.bind_some, wQ]
theorem bBg {a : Nat} (ha : a < d.length) : yW t ⟨d, must⟩ a = some (aHc d must a t : Int) := by
 have h1 := ht.r1
 have h5 := ht.r5
 unfold yW
 refine aDg (fun k i => nU a t ⟨d, must⟩ k i) t.Rounds.toNat (aCt d must a) (fun i => some (i : Int)) (fun k i hi => ?_) (fun k => ?_) BIG (cG (by omega))
 ·have hlt : decide ((i : Int) < t.Rounds) = true := decide_eq_true (by omega)
  have hw : w64 ((i : Int) + 1) = ((i + 1 : Nat) : Int) := bU (by omega)
  have hu : IntKind.u64.wrap ((i + 1 : Nat) : Int) = ((i + 1 : Nat) : Int) := xI (by omega) (by omega)
  have hch : chk (decide (0 ≤ ((i + 1 : Nat) : Int))) = some () := by unfold chk; rw [decide_eq_true (by omega)]; rfl
  have hmin : min ((i + 1 : Nat) : Int).toNat 64 = i + 1 := by omega
  have hml := hM.len
  have hrl := hM.row i hi
  have hpin := vL ht (hD.len ▸ ha) hi
  have hql : i < must.length := by omega
  have hi1 : idx must (i : Int) = some (must.getD i []) := by rw [bN hql, bM hql]
  have hi2 : idx (must.getD i []) ((a / 2 ^ (i + 1) : Nat) : Int) = some (mat must i (a / 2 ^ (i + 1))) := by
   have hlt' : a / 2 ^ (i + 1) < (must.getD i []).length := by omega
   rw [bN hlt']; exact congrArg some (bM hlt' (-2)).symm
  simp only [nU, hlt, cond_true, hw, hu, hch, hmin, aBc, Option.bind_some, hi1, hi2, bN ha, vY]
  rw [← bM ha 0]
  unfold aCt
  cases decide (mat must i (a / 2 ^ (i + 1)) = d.getD a 0) <;> rfl
 ·have hlt : decide (((t.Rounds.toNat : Nat) : Int) < t.Rounds) = false := decide_eq_false (by omega)
  simp only [nU, hlt, cond_false, Option.bind_some, vY]
include hW
theorem aTz {a : Nat} (ha : a < d.length) : oA ⟨t, d, won⟩ a = some (xO d must a t : Int) := by
 have h1 := ht.r1
 have h5 := ht.r5
 have e : t.Rounds = ((t.Rounds.toNat : Nat) : Int) := by omega
 unfold oA
 refine aDg (fun k i => jW ⟨t, d, won⟩ a t.Rounds k i) t.Rounds.toNat (aKe d must a) (fun i => some (i : Int)) (fun k i hi => ?_) (fun k => ?_) BIG (cG (by omega))
 ·have hlt : decide ((i : Int) < t.Rounds) = true := decide_eq_true (by omega)
  have hpin := vL ht (hD.len ▸ ha) hi
  have hh := aUt hW hM hi hpin
  simp only [jW, hlt, cond_true, aQa (show i ≤ 5 by omega), Option.bind_some, bU (show i < 9223372036854775807 by omega), bN ha]
  have hcell : cell a i = ⟨(i : Int), ((a / 2 ^ (i + 1) : Nat) : Int)⟩ := rfl
  rw [← bM ha 0, hcell, hh]
  unfold aKe
  by_cases h2 : mat must i (a / 2 ^ (i + 1)) = -2
  ·simp only [h2, decide_true, Bool.not_true, cond_false, Option.bind_some, Bool.false_and]
  ·simp only [h2, decide_false, Bool.not_false, cond_true, Option.bind_some, Bool.true_and, aUs hW hM hi hpin h2]
 ·have hlt : decide (((t.Rounds.toNat : Nat) : Int) < t.Rounds) = false := decide_eq_false (by omega)
  simp only [jW, hlt, cond_false, vR]
  rw [← e]
theorem bGz {a : Nat} (ha : a < d.length) : rB ⟨t, d, won⟩ a = some (aHc d must a t : Int) := by
 have h1 := ht.r1
 have h5 := ht.r5
 have e : t.Rounds = ((t.Rounds.toNat : Nat) : Int) := by omega
 have hrng := hD.rng a ha
 unfold rB
 refine aDg (fun k i => jX ⟨t, d, won⟩ a t.Rounds k i) t.Rounds.toNat (aCt d must a) (fun i => some (i : Int)) (fun k i hi => ?_) (fun k => ?_) BIG (cG (by omega))
 ·have hlt : decide ((i : Int) < t.Rounds) = true := decide_eq_true (by omega)
  have hpin := vL ht (hD.len ▸ ha) hi
  have hh := aUt hW hM hi hpin
  simp only [jX, hlt, cond_true, aQa (show i ≤ 5 by omega), Option.bind_some, bU (show i < 9223372036854775807 by omega), bN ha]
  have hcell : cell a i = ⟨(i : Int), ((a / 2 ^ (i + 1) : Nat) : Int)⟩ := rfl
  rw [← bM ha 0, hcell, hh]
  unfold aCt
  by_cases h2 : mat must i (a / 2 ^ (i + 1)) = -2
  ·have h3 : decide (mat must i (a / 2 ^ (i + 1)) = d.getD a 0) = false := decide_eq_false (by omega)
   simp only [h2] at h3
   simp only [h2, h3, decide_true, Bool.not_true, Bool.not_false, cond_true, Option.bind_some]
  ·simp only [h2, decide_false, Bool.not_false, Bool.not_true, cond_false, Option.bind_some, aUs hW hM hi hpin h2]
 ·have hlt : decide (((t.Rounds.toNat : Nat) : Int) < t.Rounds) = false := decide_eq_false (by omega)
  simp only [jX, hlt, cond_false, vS]
  rw [← e]
end
def aEn (d : List Int) (must : List (List Int)) (t : aP) (r p a : Nat) : Bool := !decide (d.getD a 0 = -1) && decide (a / 2 ^ (r + 1) = p) && decide (r < xO d must a t)
def aCx (d : List Int) (must : List (List Int)) (t : aP) (r p n : Nat) : List Int := ((List.range n).filter (aEn d must t r p)).map (d.getD · 0)
def aRi (d : List Int) (must : List (List Int)) (t : aP) (r p : Nat) : List Int := aCx d must t r p d.length
theorem aSk (d : List Int) (must : List (List Int)) (t : aP) (r p n : Nat) : aCx d must t r p (n + 1) = aCx d must t r p n ++ (if aEn d must t r p n = true then [d.getD n 0] else []) := by
 unfold aCx
 rw [List.range_succ, List.filter_append, List.map_append]
 congr 1
 simp only [List.filter_cons, List.filter_nil]
 split <;> rfl
theorem aIp (d : List Int) (must : List (List Int)) (t : aP) (r p n : Nat) : (aCx d must t r p n).length ≤ n := by
 have := List.length_filter_le (aEn d must t r p) (List.range n)
 simpa [aCx] using this
section
variable {t : aP} {l : List aG} {d : List Int} (hg : Good t l d) {must : List (List Int)} (hd : dX t l = some (⟨d, must⟩, true)) (hM : MustIs t must (gE d (Res l)))
include hg hM
theorem bFi {r p : Nat} (hr : r < t.Rounds.toNat) : jS r p t ⟨d, must⟩ BIG 0 [] = some (eE (aRi d must t r p), 0) := by
 have ht := hg.ht
 have hD := hg.dok
 have h5 := ht.r5
 have h32 := ht.len32
 have hlen := hD.len
 have := eX (S := List Int) (fun k s out => jS r p t ⟨d, must⟩ k s out) d.length (fun _ _ => some (eE (aRi d must t r p), 0)) (fun s out => out = aCx d must t r p s) ?_ ?_ BIG [] (cG (by omega)) (by simp [aCx])
 ·exact this
 ·rintro k s out hs rfl ih
  have hml := aIp d must t r p s
  have hw : w64 ((r : Int) + 1) = ((r + 1 : Nat) : Int) := bU (by omega)
  have hu : IntKind.u64.wrap ((r + 1 : Nat) : Int) = ((r + 1 : Nat) : Int) := xI (by omega) (by omega)
  have hch : chk (decide (0 ≤ ((r + 1 : Nat) : Int))) = some () := by unfold chk; rw [decide_eq_true (by omega)]; rfl
  have hmin : min ((r + 1 : Nat) : Int).toNat 64 = r + 1 := by omega
  have hst := aSk d must t r p s
  have hdp : decide (((s / 2 ^ (r + 1) : Nat) : Int) = (p : Int)) = decide (s / 2 ^ (r + 1) = p) := by rw [Bool.eq_iff_iff]; simp only [decide_eq_true_eq]; omega
  have hdm : decide ((r : Int) < (xO d must s t : Int)) = decide (r < xO d must s t) := by rw [Bool.eq_iff_iff]; simp only [decide_eq_true_eq]; omega
  simp only [jS, Int.ofNat_lt, hs, decide_true, cond_true, bN hs, Option.bind_some, hw, hu, hch, hmin, aBc, hdp, dG, aUz ht hD hM hs, hdm, bU (show s < 9223372036854775807 by omega)]
  rw [← bM hs 0]
  have e : (!decide (d.getD s 0 = -1) && decide (s / 2 ^ (r + 1) = p) && decide (r < xO d must s t)) = aEn d must t r p s := rfl
  rw [e]
  cases hb : aEn d must t r p s with
  | true =>
   rw [hb, if_pos rfl] at hst
   simp only [cond_true]
   rw [eN (by simp; omega), Option.bind_some]
   exact ih _ hst.symm
  | false =>
   rw [hb] at hst
   simp only [cond_false]
   exact ih _ (by rw [hst]; simp)
 ·rintro k out rfl
  have hlt : decide ((d.length : Int) < (d.length : Int)) = false := decide_eq_false (by omega)
  have hml := aIp d must t r p d.length
  simp only [jS, hlt, cond_false, aCy, aZt _ (show (aCx d must t r p d.length).length ≤ 900 by omega), Option.bind_some]
  rfl
theorem bDo {won : List (aD × Int)} (hW : WonIs won (gE d (Res l))) {r p : Nat} (hr : r < t.Rounds.toNat) {Q : List Int × Int → Prop} (hq : Q (eE (aRi d must t r p), 0)) :
  kS Q r (some ⟨t, d, won⟩) d d.length ⟨r, p⟩ BIG 0 [] := by
 have ht := hg.ht
 have hD := hg.dok
 have h5 := ht.r5
 have h32 := ht.len32
 have hlen := hD.len
 refine pK (S := List Int) (fun k s out => kS Q r (some ⟨t, d, won⟩) d d.length ⟨r, p⟩ k s out) d.length (fun x => x) (fun s out => out = aCx d must t r p s ∧ s ≤ d.length) ?_ ?_ BIG 0 [] (cG (by omega)) ⟨by simp [aCx], by omega⟩
 ·rintro k s out hs ⟨rfl, hsl⟩ ih
  have hml := aIp d must t r p s
  have hst := aSk d must t r p s
  have hdm : decide ((r : Int) < (xO d must s t : Int)) = decide (r < xO d must s t) := by rw [Bool.eq_iff_iff]; simp only [decide_eq_true_eq]; omega
  have hdc : decide (cell s r = (⟨r, p⟩ : aD)) = decide (s / 2 ^ (r + 1) = p) := by
   rw [Bool.eq_iff_iff]; simp only [decide_eq_true_eq, cell, aD.mk.injEq, true_and]; omega
  simp only [kS, Int.ofNat_lt, hs, decide_true, cond_true, bN hs, aQa (show r ≤ 5 by omega), Option.bind_some, aTz ht hD hM hW hs, hdm, hdc, dG, bU (show s < 9223372036854775807 by omega)]
  refine ⟨_, rfl, _, rfl, _, rfl, aEn d must t r p s, ?_, ?_⟩
  ·rw [← bM hs 0]
   unfold aEn
   cases (!decide (d.getD s 0 = -1) && decide (s / 2 ^ (r + 1) = p)) with
   | false => rfl
   | true => simp only [cond_true, aTz ht hD hM hW hs, Option.bind_some, hdm, Bool.true_and]
  rw [← bM hs 0]
  cases hb : aEn d must t r p s with
  | true =>
   rw [hb, if_pos rfl] at hst
   simp only [cond_true]
   exact ⟨_, eN (by simp; omega), ih _ ⟨hst.symm, hs⟩⟩
  | false =>
   rw [hb] at hst
   simp only [cond_false]
   exact ih _ ⟨by rw [hst]; simp, hs⟩
 ·rintro k s out hs ⟨rfl, hsl⟩
  have : s = d.length := by omega
  subst this
  have hlt : decide ((d.length : Int) < (d.length : Int)) = false := decide_eq_false (by omega)
  have hml := aIp d must t r p d.length
  simp only [kS, hlt, cond_false, aAy]
  refine ⟨eE (aRi d must t r p), ?_, hq⟩
  unfold slices_Sort_int
  rw [if_pos (by omega)]; rfl
end
theorem aXz {α : Type} (A : Option Int) (B : Option (aS × Bool)) (F : aS → Option α) (z : Int → α) {d : aS} (hA : A = some 0) (hB : B = some (d, true)) :
  (A.bind fun r2 => bif !decide (r2 = 0) then some (z r2) else (B.bind fun r3 => F r3.1)) = F d := by subst hA; subst hB; rfl
theorem bEs {t : aP} {l : List aG} {e : Int} (h : Stat t l e) (r p : Int) : lT t l r p = some ([], e) := by
 unfold lT
 rw [aRa h, Option.bind_some]
 simp only [h.ne, Bool.not_false, cond_true]
theorem bEr {t : aP} {l : List aG} {d : List Int} (h : Good t l d) {r p : Int} (hm : kN t r p = false) : lT t l r p = some ([], 1) := by
 unfold lT
 rw [aFm h, hm, Option.bind_some]
 rfl
theorem aTv {t : aP} {l : List aG} {d : List Int} (h : Good t l d) {must : List (List Int)} (hd : dX t l = some (⟨d, must⟩, true)) (hM : MustIs t must (gE d (Res l))) {r p : Nat} (hm : kN t r p = true) :
  lT t l r p = some (eE (aRi d must t r p), 0) := by
 obtain ⟨r', p', e1, e2, hr, hp⟩ := aPu hm
 have e1 : r = r' := by omega
 subst e1
 unfold lT
 exact (aXz _ _ (fun dd => jS r p t dd BIG 0 []) (fun r2 => ([], r2)) (by rw [aFm h, hm]; rfl) hd).trans (bFi h hM hr)
theorem bEt (t : aP) (l : List aG) (r p : Int) {o : List Int × Int} (h : lT t l r p = some o) (Q : List Int × Int → Prop) (hq : Q o) : yB t l r p Q := by
 unfold yB
 rcases aDp t l with ⟨d, hg⟩ | ⟨e, he⟩
 ·refine bEv hg fun won hW => ?_
  cases hm : kN t r p with
  | false =>
   rw [bEr hg hm] at h; cases h
   exact hq
  | true =>
   obtain ⟨r', p', rfl, rfl, hr, hp⟩ := aPu hm
   obtain ⟨must, hd, hM⟩ := zJ hg
   rw [aTv hg hd hM hm] at h; cases h
   simp only [cond_true, decide_true, Bool.not_true, cond_false]
   exact ⟨_, rfl, bDo hg hM hW hr hq⟩
 ·rw [bEs he] at h; cases h
  refine bGm he ?_
  simp only [he.ne, Bool.not_false, cond_true]
  exact hq
end Go.Am
end
section
namespace Go.Am
theorem aPk {α : Type} (p : α → Bool) : ∀ l : List α, (l.filter p).length + (l.filter fun x => !p x).length = l.length
 | [] => rfl
 | x :: l => by
  have := aPk p l
  simp only [List.filter_cons]
  cases p x <;> simp <;> omega
def nR (must : List (List Int)) (x : Nat × Nat) : Bool := decide (mat must x.1 x.2 = -2)
def aMf (t : aP) (must : List (List Int)) : Nat := ((aIl t).filter (nR must)).length
def aCw (t : aP) (n : Nat) : List (Nat × Nat) := (List.range n).flatMap fun r : Nat => (List.range (dB t r)).map fun p : Nat => (r, p)
theorem aSh (t : aP) (n : Nat) : aCw t (n + 1) = aCw t n ++ (List.range (dB t n)).map fun p : Nat => (n, p) := aOv _ _
theorem aOc (t : aP) : ∀ n, n ≤ t.Rounds.toNat → (aCw t n).length + 2 ^ (t.Rounds.toNat - n) = 2 ^ t.Rounds.toNat
 | 0, _ => by simp [aCw]
 | n + 1, h => by
  have ih := aOc t n (by omega)
  rw [aSh, List.length_append, List.length_map, List.length_range]
  unfold dB
  have e : t.Rounds.toNat - 1 - ((n : Nat) : Int).toNat = t.Rounds.toNat - (n + 1) := by simp; omega
  have e2 : 2 ^ (t.Rounds.toNat - n) = 2 * 2 ^ (t.Rounds.toNat - (n + 1)) := by
   have : t.Rounds.toNat - n = (t.Rounds.toNat - (n + 1)) + 1 := by omega
   rw [this, Nat.pow_succ]; omega
  rw [e]
  omega
theorem aUm {t : aP} (ht : TreeOK t) : (aIl t).length + 1 = t.Slots.length := by
 have := aOc t t.Rounds.toNat (Nat.le_refl _)
 rw [ht.len]
 simpa [aCw, aIl] using this
theorem Good.inn {t : aP} {l : List aG} {d : List Int} (hg : Good t l d) {m : aD} {v : Int} (h : gE d (Res l) m v) : ∃ r p : Nat, m = ⟨r, p⟩ ∧ r < t.Rounds.toNat ∧ p < dB t r := by
 have h1 := hg.ht.r1
 have hlen := hg.dok.len
 rcases h with ⟨j, hj, hb, rfl, _⟩ | ⟨x, hx, a, ha, he, _, q, hq, rfl⟩
 ·exact ⟨0, sib j / 2 ^ (0 + 1), rfl, by omega, vL hg.ht (aFa hg.ht (by omega)) (by omega)⟩
 ·have := (hg.rok hx).r1
  have := (hg.rok hx).r0
  exact ⟨q, a / 2 ^ (q + 1), rfl, by omega, vL hg.ht (by omega) (by omega)⟩
theorem bGk {t : aP} {l : List aG} {d : List Int} (hg : Good t l d) {must : List (List Int)} (hM : MustIs t must (gE d (Res l))) {won : List (aD × Int)} (hW : WonIs won (gE d (Res l))) : won.length + aMf t must + 1 = t.Slots.length := by
 have hs := aPk (nR must) (aIl t)
 have hl := aUm hg.ht
 have hmem : ∀ m : aD, m ∈ won.map (·.1) ↔ m ∈ ((aIl t).filter fun x => !nR must x).map fun x => (⟨x.1, x.2⟩ : aD) := by
  intro m
  rw [List.mem_map, List.mem_map]
  constructor
  ·rintro ⟨⟨m', v⟩, hv, rfl⟩
   have hP := (hW.mem _ _).1 hv
   obtain ⟨r, p, rfl, hr, hp⟩ := hg.inn hP
   refine ⟨(r, p), ?_, rfl⟩
   rw [List.mem_filter, aUw]
   have := (hM.mem r p v hr hp).2 hP
   refine ⟨⟨hr, hp⟩, ?_⟩
   unfold nR
   rw [this.1]; simp [this.2]
  ·rintro ⟨x, hx, rfl⟩
   rw [List.mem_filter, aUw] at hx
   obtain ⟨⟨hr, hp⟩, ho⟩ := hx
   have h2 : mat must x.1 x.2 ≠ -2 := by simpa [nR] using ho
   exact ⟨(⟨x.1, x.2⟩, mat must x.1 x.2), (hW.mem _ _).2 ((hM.mem x.1 x.2 _ hr hp).1 ⟨rfl, h2⟩), rfl⟩
 have hnd : (((aIl t).filter fun x => !nR must x).map fun x => (⟨x.1, x.2⟩ : aD)).Nodup := by
  refine List.Pairwise.map _ (fun x y hxy e => hxy ?_) ((aYv t).filter _)
  simp only [aD.mk.injEq] at e
  exact Prod.ext (by omega) (by omega)
 have := aUr hW.nd hnd hmem
 rw [List.length_map, List.length_map] at this
 unfold aMf
 omega
section
variable {t : aP} {l : List aG} {d : List Int} (hg : Good t l d) {must : List (List Int)} (hM : MustIs t must (gE d (Res l)))
include hg hM
theorem bDn : gH t ⟨d, must⟩ BIG 0 0 = some (((aMf t must : Nat) : Int), 0) := by
 have ht := hg.ht
 have h1 := ht.r1
 have h5 := ht.r5
 have hil := aUm ht
 have h32 := ht.len32
 have hlen : ∀ n, n ≤ t.Rounds.toNat → ((aCw t n).filter (nR must)).length ≤ 40 := fun n hn => by
  have hA := List.length_filter_le (nR must) (aCw t n)
  have hB := aOc t n hn
  rw [← ht.len] at hB
  generalize 2 ^ (t.Rounds.toNat - n) = z at hB
  omega
 have := eX (S := Int) (fun k r n => gH t ⟨d, must⟩ k n r) t.Rounds.toNat (fun _ _ => some (((aMf t must : Nat) : Int), 0)) (fun r n => n = (((aCw t r).filter (nR must)).length : Nat)) ?_ ?_ BIG 0 (cG (by omega)) (by simp [aCw])
 ·exact this
 ·rintro k r n hr rfl ih
  have hlt : decide ((r : Int) < t.Rounds) = true := decide_eq_true (by omega)
  have hP := aKb ht (r := (r : Int)) (by omega) (by omega)
  have hpl := aCi ht (r := (r : Int))
  have hl0 := hlen r (by omega)
  have hin := eX (S := Int) (fun q p n => lS (gH t ⟨d, must⟩ k) r t ⟨d, must⟩ q n p) (dB t r)
   (fun _ _ => wN (gH t ⟨d, must⟩ k) ((((aCw t (r + 1)).filter (nR must)).length : Nat) : Int) r t ⟨d, must⟩)
   (fun p n => n = ((((aCw t r).filter (nR must)).length + (((List.range p).map fun p : Nat => (r, p)).filter (nR must)).length : Nat) : Int)) ?_ ?_ BIG (((aCw t r).filter (nR must)).length : Nat) (cG (by omega)) (by simp)
  ·simp only [gH, hlt, cond_true]
   refine hin.trans ?_
   unfold wN aBy
   rw [bU (show r < 9223372036854775807 by omega)]
   exact ih _ rfl
  ·rintro q p n hp rfl ih2
   have hle : (((List.range p).map fun p : Nat => (r, p)).filter (nR must)).length ≤ p := by
    have := List.length_filter_le (nR must) ((List.range p).map fun p : Nat => (r, p)); simpa using this
   have hi := bFe hM hr hp
   simp only [lS, hP, Option.bind_some, Int.ofNat_lt, hp, decide_true, cond_true, bU (show p < 9223372036854775807 by omega)]
   rw [← Option.bind_assoc, hi, Option.bind_some]
   have hst : (((List.range (p + 1)).map fun p : Nat => (r, p)).filter (nR must)).length = (((List.range p).map fun p : Nat => (r, p)).filter (nR must)).length + (if nR must (r, p) = true then 1 else 0) := by
    rw [List.range_succ, List.map_append, List.filter_append, List.length_append]
    congr 1
    simp only [List.map_cons, List.map_nil, List.filter_cons, List.filter_nil]
    split <;> rfl
   by_cases ho : mat must r p = -2
   ·have ho' : nR must (r, p) = true := by unfold nR; simp [ho]
    rw [ho', if_pos rfl] at hst
    simp only [ho, decide_true, cond_true]
    rw [bU (by omega)]
    exact ih2 _ (by rw [hst]; omega)
   ·have ho' : nR must (r, p) = false := by unfold nR; simp [ho]
    rw [ho'] at hst
    simp only [ho, decide_false, cond_false]
    exact ih2 _ (by rw [hst]; simp)
  ·rintro q n rfl
   have hlt2 : decide ((dB t r : Int) < (dB t r : Int)) = false := decide_eq_false (by omega)
   simp only [lS, hP, Option.bind_some, hlt2, cond_false, aSh, List.filter_append, List.length_append]
 ·rintro k n rfl
  have hlt : decide (((t.Rounds.toNat : Nat) : Int) < t.Rounds) = false := decide_eq_false (by omega)
  simp only [gH, hlt, cond_false, aBx]
  rfl
end
theorem bCp {t : aP} {l : List aG} {e : Int} (h : Stat t l e) : pS t l = some (0, e) := by
 unfold pS
 rw [aFk h, Option.bind_some]
 simp only [h.ne, Bool.not_false, cond_true]
theorem bAc {t : aP} {l : List aG} {d : List Int} (h : Good t l d) {must : List (List Int)} (hd : dX t l = some (⟨d, must⟩, true)) (hM : MustIs t must (gE d (Res l))) : pS t l = some (((aMf t must : Nat) : Int), 0) := by
 unfold pS
 exact (aXz _ _ (fun dd => gH t dd BIG 0 0) (fun r2 => (0, r2)) (xJ h) hd).trans (bDn h hM)
theorem bCq (t : aP) (l : List aG) {o : Int × Int} (h : pS t l = some o) (Q : Int × Int → Prop) (hq : Q o) : wH t l Q := by
 unfold wH
 rcases aDp t l with ⟨d, hg⟩ | ⟨e, he⟩
 ·obtain ⟨must, hd, hM⟩ := zJ hg
  rw [bAc hg hd hM] at h; cases h
  refine aFx hg fun won hW => ?_
  have hl := bGk hg hM hW
  have h32 := hg.ht.len32
  simp only [decide_true, Bool.not_true, cond_false]
  refine ⟨_, rfl, _, rfl, ?_⟩
  have e : w64 (w64 ((t.Slots.length : Int) - 1) - (((won.map fun p : aD × Int => ((fun a : aD => Value.agg ((aL a).map bS).toArray) p.1, aF p.2)).length : Nat) : Int)) = ((aMf t must : Nat) : Int) := by
   rw [List.length_map, dF (show -9223372036854775808 ≤ (t.Slots.length : Int) - 1 by omega) (by omega), dF (by omega) (by omega)]
   omega
  show Q (w64 (w64 ((t.Slots.length : Int) - 1) - (((won.map fun p : aD × Int => ((fun a : aD => Value.agg ((aL a).map bS).toArray) p.1, aF p.2)).length : Nat) : Int)), 0)
  rw [e]
  exact hq
 ·rw [bCp he] at h; cases h
  refine aIv he ?_
  simp only [he.ne, Bool.not_false, cond_true]
  exact hq
def wE (d : List Int) (n : Int) : Int := match d.findIdx? (fun x => decide (n = x)) with | some i => (i : Int) | none => -1
theorem aXh {d : List Int} (hl : d.length ≤ 1000) (n : Int) : gT d n = some (wE d n) := zO d (by omega) n
theorem aGr (d : List Int) (n : Int) : (wE d n = -1 ∧ ∀ a, a < d.length → d.getD a 0 ≠ n) ∨ ∃ a : Nat, wE d n = (a : Int) ∧ a < d.length ∧ d.getD a 0 = n := by
 unfold wE
 cases h : d.findIdx? (fun x => decide (n = x)) with
 | none =>
  refine .inl ⟨rfl, fun a ha e => ?_⟩
  rw [List.findIdx?_eq_none_iff] at h
  have := h _ (List.getElem_mem ha)
  rw [bM ha] at e
  simp [e] at this
 | some a =>
  obtain ⟨h1, h2, _⟩ := List.findIdx?_eq_some_iff_getElem.1 h
  refine .inr ⟨a, rfl, h1, ?_⟩
  rw [bM h1]
  simpa using (of_decide_eq_true h2).symm
theorem bCb {d : List Int} {must : List (List Int)} (hl : d.length ≤ 1000) (n : Int) : zT ⟨d, must⟩ n = some (wE d n) := by
 unfold zT wE
 rw [eX (S := Unit) (fun k i _ => pG n ⟨d, must⟩ k i) d.length (fun i _ => some (match (d.drop i).findIdx? (fun x => decide (n = x)) with | some j => ((i + j : Nat) : Int) | none => -1)) (fun _ _ => True) ?_ ?_ BIG () (cG (by omega)) trivial]
 ·simp
 ·intro k i _ hi _ ih
  have := ih () trivial
  simp only [pG, bN hi, Option.bind_some, bU (show i < 9223372036854775807 by omega), Int.ofNat_lt, hi, decide_true, cond_true, this]
  rw [List.drop_eq_getElem_cons hi, List.findIdx?_cons]
  by_cases h : d[i] = n
  ·simp [h]
  ·have h' : ¬ n = d[i] := fun e => h e.symm
   simp only [h, h', decide_false, cond_false, Bool.false_eq_true, if_false]
   cases List.findIdx? (fun x => decide (n = x)) (List.drop (i + 1) d) with
   | none => rfl
   | some j => simp; omega
 ·intro k _ _
  simp [pG, aBz]
theorem bGj {t : aP} {l : List aG} {e : Int} (h : Stat t l e) (ps : List Int) {Q : (Option bJ × List Int × Int) → Prop} (hq : Q (none, [], e)) : sX t l ps Q := by
 unfold sX
 refine aIv h ?_
 simp only [h.ne, Bool.not_false, cond_true]
 exact hq
theorem bEj {t : aP} {l : List aG} {d : List Int} (hg : Good t l d) {ps : List Int} (hp : ps.length ≤ 1000) {Q : (Option bJ × List Int × Int) → Prop}
  (h1 : (∃ n ∈ ps, wi n 0 999 = false) → Q (none, [], 1)) (h0 : (∀ n ∈ ps, wi n 0 999 = true) → ∀ won, WonIs won (gE d (Res l)) → Q (some ⟨t, d, won⟩, ps.map (wE d), 0)) : sX t l ps Q := by
 have hlen := hg.dok.len
 have h32 := hg.ht.len32
 unfold sX
 refine aFx hg fun won hW => ?_
 simp only [decide_true, Bool.not_true, cond_false]
 refine pK (S := List Int) (fun k i slots => oC Q ps ps.length k (some ⟨t, d, won⟩) i slots) ps.length (fun x => x) (fun i slots => slots = (ps.take i).map (wE d) ∧ ∀ n ∈ ps.take i, wi n 0 999 = true) ?_ ?_ BIG 0 [] (cG (by omega)) ⟨by simp, by simp⟩
 ·rintro k i slots hi ⟨rfl, hall⟩ ih
  have ht1 : ps.take (i + 1) = ps.take i ++ [ps[i]] := List.take_succ_eq_append_getElem hi
  simp only [oC, Int.ofNat_lt, hi, decide_true, cond_true, bN hi, wG, bU (show i < 9223372036854775807 by omega)]
  refine ⟨_, rfl, _, rfl, ?_⟩
  cases hw : wi ps[i] 0 999 with
  | false =>
   simp only [Bool.not_false, cond_true]
   exact h1 ⟨_, List.getElem_mem hi, hw⟩
  | true =>
   simp only [Bool.not_true, cond_false]
   refine ⟨_, rfl, _, aXh (show d.length ≤ 1000 by omega) _, _, eN (by simp; omega), ih _ ⟨by rw [ht1, List.map_append]; rfl, fun n hn => ?_⟩⟩
   rw [ht1, List.mem_append, List.mem_singleton] at hn
   rcases hn with hn | rfl
   ·exact hall n hn
   ·exact hw
 ·rintro k i slots hi ⟨rfl, hall⟩
  have hlt : decide ((i : Int) < (ps.length : Int)) = false := decide_eq_false (by omega)
  have hta : ps.take i = ps := List.take_of_length_le (by omega)
  rw [hta] at hall
  simp only [oC, hlt, cond_false, aAz, hta]
  exact h0 hall won hW
def rJ (t : aP) (d : List Int) (must : List (List Int)) (n : Int) : cH × Int :=
 if wi n 0 999 = true then (if wE d n < 0 then (⟨0, 0⟩, 3) else (⟨leftFrom t d must (wE d n).toNat, mostFrom t d must (wE d n).toNat⟩, 0)) else (⟨0, 0⟩, 1)
where
 leftFrom (t : aP) (d : List Int) (must : List (List Int)) (a : Nat) : Int := aHc d must a t
 mostFrom (t : aP) (d : List Int) (must : List (List Int)) (a : Nat) : Int := xO d must a t
theorem aWe {t : aP} {l : List aG} {e : Int} (h : Stat t l e) (n : Int) : kK t l n = some (⟨0, 0⟩, e) := by
 unfold kK
 rw [aFk h, Option.bind_some]
 simp only [h.ne, Bool.not_false, cond_true]
theorem aKc {t : aP} {l : List aG} {d : List Int} (hg : Good t l d) {must : List (List Int)} (hd : dX t l = some (⟨d, must⟩, true)) (hM : MustIs t must (gE d (Res l))) (n : Int) : kK t l n = some (rJ t d must n) := by
 have hlen := hg.dok.len
 have h32 := hg.ht.len32
 unfold kK
 rw [xJ hg, Option.bind_some, xD]
 simp only [decide_true, Bool.not_true, cond_false, Option.bind_some]
 unfold rJ
 cases hw : wi n 0 999 with
 | false => simp
 | true =>
  simp only [Bool.not_true, cond_false, hd, Option.bind_some, bCb (show d.length ≤ 1000 by omega), if_true]
  rcases aGr d n with ⟨h1, _⟩ | ⟨a, h1, ha, he⟩
  ·rw [h1]; rfl
  ·have hneg : decide ((a : Int) < 0) = false := decide_eq_false (by omega)
   have hneg' : ¬ ((a : Int) < 0) := by omega
   simp only [h1, hneg, hneg', cond_false, if_false, bBg hg.ht hg.dok hM ha, aUz hg.ht hg.dok hM ha, Option.bind_some, Int.toNat_natCast]
   rfl
theorem aWf (t : aP) (l : List aG) (n : Int) {o : cH × Int} (h : kK t l n = some o) (Q : cH × Int → Prop) (hq : Q o) : sE t l n Q := by
 unfold sE
 rcases aDp t l with ⟨d, hg⟩ | ⟨e, he⟩
 ·obtain ⟨must, hd, hM⟩ := zJ hg
  rw [aKc hg hd hM] at h; cases h
  unfold rJ at hq
  refine bEj hg (by simp) (fun ⟨x, hx, hw⟩ => ?_) fun hall won hW => ?_
  ·rw [List.mem_singleton] at hx
   subst hx
   rw [hw] at hq
   exact hq
  ·have hw := hall n (by simp)
   rw [hw, if_pos rfl] at hq
   simp only [decide_true, Bool.not_true, cond_false, List.map_cons, List.map_nil, aOd]
   refine ⟨_, rfl, ?_⟩
   rcases aGr d n with ⟨h1, _⟩ | ⟨a, h1, ha, he⟩
   ·rw [h1] at hq ⊢
    exact hq
   ·have hneg : decide ((a : Int) < 0) = false := decide_eq_false (by omega)
    have hneg' : ¬ ((a : Int) < 0) := by omega
    rw [h1, if_neg hneg'] at hq
    simp only [h1, hneg, cond_false]
    exact ⟨_, rfl, _, rfl, _, bGz hg.ht hg.dok hM hW ha, _, rfl, _, aTz hg.ht hg.dok hM hW ha, hq⟩
 ·rw [aWe he] at h; cases h
  refine bGj he _ ?_
  simp only [he.ne, Bool.not_false, cond_true]
  exact hq
theorem aNc {bad : Nat → Bool} {n i : Nat} (hi : i < n) (hb : bad i = true) (hno : ∀ q, q < i → bad q = false) : oJ bad n = i := by
 refine Nat.le_antisymm (Nat.le_of_not_lt fun hlt => ?_) (Nat.le_of_not_lt fun hlt => ?_)
 ·have := (aWl hi).1 hlt i (Nat.le_refl _)
  rw [this] at hb; cases hb
 ·have := aKo (bad := bad) (n := n) (by omega)
  rw [hno _ hlt] at this; cases this
section
variable {t : aP} {l : List aG} {d : List Int} (hg : Good t l d) {must : List (List Int)} (hM : MustIs t must (gE d (Res l)))
include hg hM
end
theorem min2 (a b : Int) : aHm [a, b] = some (min a b) := by
 have key := eX (S := Int) (fun k i m => qJ [a, b] k m ((i : Int) + 1)) 1 (fun i m => some (if i = 0 then min m b else m)) (fun _ _ => True) ?_ ?_ BIG a (cG (by omega)) trivial
 ·unfold aHm
  have h1 : decide ((([a, b] : List Int).length : Int) < 1) = false := decide_eq_false (by simp)
  rw [h1, cond_false, aOd, Option.bind_some]
  simpa using key
 ·intro k i m hi _ ih
  have : i = 0 := by omega
  subst this
  have h1 : decide (((0 : Nat) : Int) + 1 < (([a, b] : List Int).length : Int)) = true := decide_eq_true (by simp)
  have i1 : idx [a, b] (((0 : Nat) : Int) + 1) = some b := rfl
  have w2 : w64 (((0 : Nat) : Int) + 1 + 1) = ((0 + 1 : Nat) : Int) + 1 := by decide +kernel
  simp only [qJ, h1, cond_true, i1, Option.bind_some, w2, ih _ trivial]
  rfl
 ·intro k m _
  have h1 : decide (((1 : Nat) : Int) + 1 < (([a, b] : List Int).length : Int)) = false := decide_eq_false (by simp)
  simp only [qJ, h1, cond_false, aDb]
  rfl
end Go.Am
end
section
namespace Go.Am
theorem aMs (a0 : aP) (a1 : List aG) {r} (h : sG a0 a1 = some r) (Q : Int → Prop) (hq : Q r) : uZ a0 a1 Q := bAb a0 a1 h Q hq
theorem aOz (a0 : aP) (a1 : List aG) (a2 a3 : Int) {r} (h : vC a0 a1 a2 a3 = some r) (Q : List Int × Int → Prop) (hq : Q r) : yB a0 a1 a2 a3 Q := bEt a0 a1 a2 a3 h Q hq
theorem aNs (a0 : aP) (a1 : List aG) {r} (h : aBa a0 a1 = some r) (Q : Int × Int → Prop) (hq : Q r) : wH a0 a1 Q := bCq a0 a1 h Q hq
theorem aJw (a0 : aP) (a1 : List aG) (a2 : Int) {r} (h : tH a0 a1 a2 = some r) (Q : cH × Int → Prop) (hq : Q r) : sE a0 a1 a2 Q := aWf a0 a1 a2 h Q hq
end Go.Am
end
section
namespace Go.Am
end Go.Am
end
section
namespace Go.Am
end Go.Am
end
section
namespace Go.Am
end Go.Am
end
