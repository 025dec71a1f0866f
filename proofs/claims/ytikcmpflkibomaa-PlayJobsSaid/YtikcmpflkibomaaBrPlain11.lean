/- Layer 7, plain: Check, Bouts and Winner are those of the reference. -/
import Derived.Test.YtikcmpflkibomaaBrPlain10
namespace Go.Am

/-- A valid tree with valid slips that agree. -/
structure Good (t : bD) (l : List aK) (d : List Int) : Prop where
  tree : tR t = true
  len : l.length ≤ 60
  slips : ∀ s ∈ l, gV t s = true
  agr : AGR t l d
/-- The error of a tree and slips. -/
inductive Stat (t : bD) (l : List aK) : Int → Prop
  | s70 : tR t = false → Stat t l 70
  | s71 : tR t = true → (60 < l.length ∨ ∃ s ∈ l, gV t s = false) → Stat t l 71
  | s72 : tR t = true → l.length ≤ 60 → (∀ s ∈ l, gV t s = true) → (∀ d, ¬ AGR t l d) → Stat t l 72
theorem Stat.ne {t : bD} {l : List aK} {e : Int} (h : Stat t l e) : decide (e = 0) = false := by cases h <;> rfl
theorem uR (t : bD) (l : List aK) : (∃ d, Good t l d) ∨ ∃ e, Stat t l e := by
  cases ht : tR t with
  | false => exact .inr ⟨70, .s70 ht⟩
  | true =>
    by_cases hl : 60 < l.length
    · exact .inr ⟨71, .s71 ht (.inl hl)⟩
    · by_cases hs : ∃ s ∈ l, gV t s = false
      · exact .inr ⟨71, .s71 ht (.inr hs)⟩
      · have hs' : ∀ s ∈ l, gV t s = true := fun s hm => by
          cases h : gV t s with
          | true => rfl
          | false => exact absurd ⟨s, hm, h⟩ hs
        by_cases hd : ∃ d, AGR t l d
        · obtain ⟨d, hd⟩ := hd
          exact .inl ⟨d, ht, by omega, hs', hd⟩
        · exact .inr ⟨72, .s72 ht (by omega) hs' fun d h => hd ⟨d, h⟩⟩
theorem Good.ht {t : bD} {l : List aK} {d : List Int} (h : Good t l d) : TreeOK t := pV h.tree
theorem Good.dok {t : bD} {l : List aK} {d : List Int} (h : Good t l d) : DOK t d := yW h.ht h.slips h.agr.1
theorem Good.uniq {t : bD} {l : List aK} {d d' : List Int} (h : Good t l d) (h' : Good t l d') : d = d' := by
  have := h.agr.1
  rw [h'.agr.1] at this
  exact (Option.some.inj this).symm

theorem aHo {t : bD} {l : List aK} {e : Int} (h : Stat t l e) {Q : (Option cJ × Int) → Prop} (hq : Q (none, e)) : lK t l Q := by
  unfold lK
  refine ⟨_, aFy t, ?_⟩
  cases h with
  | s70 ht => simp only [ht, Bool.not_false, cond_true]; exact hq
  | s71 ht hs =>
    simp only [ht, Bool.not_true, cond_false]
    by_cases hl : 60 < l.length
    · have : decide (60 < (l.length : Int)) = true := decide_eq_true (by omega)
      simp only [this, cond_true]
      exact ⟨_, rfl, hq⟩
    · have : decide (60 < (l.length : Int)) = false := decide_eq_false (by omega)
      simp only [this, cond_false]
      rw [oQ l (by omega) _ (fun s => !gV t s) fun x _ => by simp [mJ, aAp (pV ht)]]
      refine ⟨_, rfl, ?_⟩
      have : (l.any fun s => !gV t s) = true := by
        rcases hs with h | ⟨s, h1, h2⟩
        · exact absurd h hl
        · rw [List.any_eq_true]; exact ⟨s, h1, by rw [h2]; rfl⟩
      simp only [this, cond_true]; exact hq
  | s72 ht hl hs hno =>
    have : decide (60 < (l.length : Int)) = false := decide_eq_false (by omega)
    simp only [ht, Bool.not_true, cond_false, this]
    rw [oQ l (by omega) _ (fun s => !gV t s) fun x _ => by simp [mJ, aAp (pV ht)]]
    refine ⟨_, rfl, ?_⟩
    have : (l.any fun s => !gV t s) = false := by
      rw [List.any_eq_false]; intro s hm; rw [hs s hm]; simp
    simp only [this, cond_false]
    exact aDo (pV ht) hs (by omega) (fun d hd => absurd hd (hno d)) fun _ => hq
theorem aGe {t : bD} {l : List aK} {d : List Int} (h : Good t l d) {Q : (Option cJ × Int) → Prop} (hq : ∀ won, WonIs won (mD d (Res l)) → Q (some ⟨t, d, won⟩, 0)) : lK t l Q := by
  unfold lK
  have hl := h.len
  have : decide (60 < (l.length : Int)) = false := decide_eq_false (by omega)
  refine ⟨_, aFy t, ?_⟩
  simp only [h.tree, Bool.not_true, cond_false, this]
  rw [oQ l (by omega) _ (fun s => !gV t s) fun x _ => by simp [mJ, aAp h.ht]]
  refine ⟨_, rfl, ?_⟩
  have : (l.any fun s => !gV t s) = false := by
    rw [List.any_eq_false]; intro s hm; rw [h.slips s hm]; simp
  simp only [this, cond_false]
  refine aDo h.ht h.slips (by omega) (fun d' hd won hW => ?_) fun hno => absurd h.agr (hno d)
  have := h.uniq ⟨h.tree, h.len, h.slips, hd⟩
  subst this
  exact hq won hW

theorem wT {t : bD} (ht : TreeOK t) {l : List aK} (hl : l.length ≤ 60) : gI l t BIG 0 = bif l.all (gV t) then jP l t else some 71 := by
  have := qD (fun k i => gI l t k i) l.length (fun i => l[i]?.any (gV t)) (some 71) (jP l t) ?_ ?_ BIG (eH (by omega))
  · rw [this]
    have e : (List.range l.length).all (fun i => l[i]?.any (gV t)) = l.all (gV t) := by
      rw [Bool.eq_iff_iff, qI, List.all_eq_true]
      constructor
      · intro h x hx
        obtain ⟨i, hi, rfl⟩ := List.mem_iff_getElem.1 hx
        have := h i hi
        rwa [List.getElem?_eq_getElem hi] at this
      · intro h i hi
        rw [List.getElem?_eq_getElem hi]
        exact h _ (List.getElem_mem hi)
    rw [e]
  · intro k i hi
    simp only [gI, Int.ofNat_lt, hi, decide_true, cond_true, dQ hi, Option.bind_some, aKg ht, dN (show i < 9223372036854775807 by omega), List.getElem?_eq_getElem hi, Option.any_some]
    cases gV t l[i] <;> rfl
  · intro k
    have hlt : decide ((l.length : Int) < (l.length : Int)) = false := decide_eq_false (by omega)
    simp only [gI, hlt, cond_false]
theorem zY {t : bD} {l : List aK} {e : Int} (h : Stat t l e) : iD t l = some e := by
  unfold iD
  rw [aFn, Option.bind_some]
  cases h with
  | s70 ht => simp only [ht, Bool.not_false, cond_true]
  | s71 ht hs =>
    simp only [ht, Bool.not_true, cond_false]
    by_cases hl : 60 < l.length
    · have : decide (60 < (l.length : Int)) = true := decide_eq_true (by omega)
      simp only [this, cond_true]
    · have : decide (60 < (l.length : Int)) = false := decide_eq_false (by omega)
      have h2 : l.all (gV t) = false := by
        rcases hs with h | ⟨s, h1, h2⟩
        · exact absurd h hl
        · rw [List.all_eq_false]; exact ⟨s, h1, by simp [h2]⟩
      simp only [this, cond_false, wT (pV ht) (show l.length ≤ 60 by omega), h2]
  | s72 ht hl hs hno =>
    have : decide (60 < (l.length : Int)) = false := decide_eq_false (by omega)
    have h2 : l.all (gV t) = true := by rw [List.all_eq_true]; exact hs
    simp only [ht, Bool.not_true, cond_false, this, wT (pV ht) hl, h2, cond_true, jP, (aFq (pV ht) hs (by omega)).2 hno, Option.bind_some, Bool.not_false]
theorem tU {t : bD} {l : List aK} {d : List Int} (h : Good t l d) : ∃ must, eI t l = some (⟨d, must⟩, true) ∧ MustIs t must (mD d (Res l)) :=
  (aFq h.ht h.slips (by have := h.len; omega)).1 d h.agr
theorem yB {t : bD} {l : List aK} {d : List Int} (h : Good t l d) : iD t l = some 0 := by
  have hl := h.len
  have : decide (60 < (l.length : Int)) = false := decide_eq_false (by omega)
  have h2 : l.all (gV t) = true := by rw [List.all_eq_true]; exact h.slips
  obtain ⟨must, hd, _⟩ := tU h
  unfold iD
  rw [aFn, Option.bind_some]
  simp only [h.tree, Bool.not_true, cond_false, this, wT h.ht hl, h2, cond_true, jP, hd, Option.bind_some]

/-! What is known of a match. -/
theorem aHk {t : bD} {won : List (aI × Int)} {must : List (List Int)} {P : mK} (hW : WonIs won P) (hM : MustIs t must P) {r p : Nat} (hr : r < t.Rounds.toNat) (hp : p < dO t r) :
    eF (⟨r, p⟩ : aI) won = !decide (mat must r p = -2) := by
  rw [Bool.eq_iff_iff, hW.has, Bool.not_eq_true', decide_eq_false_iff_not]
  constructor
  · rintro ⟨v, hv⟩
    have := (hM.mem r p v hr hp).2 hv
    rw [this.1]; exact this.2
  · exact fun h => ⟨_, (hM.mem r p _ hr hp).1 ⟨rfl, h⟩⟩
theorem aHj {t : bD} {won : List (aI × Int)} {must : List (List Int)} {P : mK} (hW : WonIs won P) (hM : MustIs t must P) {r p : Nat} (hr : r < t.Rounds.toNat) (hp : p < dO t r) (h : mat must r p ≠ -2) (z : Int) :
    dK (⟨r, p⟩ : aI) z won = mat must r p := hW.get ((hM.mem r p _ hr hp).1 ⟨rfl, h⟩)
theorem aJh {t : bD} {must : List (List Int)} {P : mK} (hM : MustIs t must P) {r p : Nat} (hr : r < t.Rounds.toNat) (hp : p < dO t r) : ((idx must (r : Int)).bind fun x => idx x (p : Int)) = some (mat must r p) := by
  have hl := hM.len
  have hrow := hM.row r hr
  have hrl : r < must.length := by omega
  rw [dQ hrl, Option.bind_some]
  unfold mat
  rw [dJ hrl] at hrow ⊢
  have hp' : p < must[r].length := by omega
  rw [dQ hp', dJ hp']
theorem aCo {t : bD} {r : Nat} (hr : r + 1 < t.Rounds.toNat) : dO t r = 2 * dO t ((r + 1 : Nat) : Int) := by
  unfold dO
  have e : t.Rounds.toNat - 1 - ((r : Nat) : Int).toNat = (t.Rounds.toNat - 1 - ((r + 1 : Nat) : Int).toNat) + 1 := by omega
  rw [e, Nat.pow_succ]; omega
/-- A side of a match. -/
def oC (d : List Int) (must : List (List Int)) (r at' : Nat) : Int := if r = 0 then d.getD at' 0 else mat must (r - 1) at'

section
variable {t : bD} (ht : TreeOK t) {d : List Int} (hD : DOK t d) {must : List (List Int)} {P : mK} (hM : MustIs t must P) {won : List (aI × Int)} (hW : WonIs won P)
include ht hD hM
theorem aLz {r p s : Nat} (hr : r < t.Rounds.toNat) (hp : p < dO t r) (hs : s < 2) : nD ⟨d, must⟩ r p s = some (oC d must r (2 * p + s)) := by
  have hpl := nO ht (r := (r : Int))
  have h5 := ht.r5
  have w1 : w64 (2 * (p : Int)) = ((2 * p : Nat) : Int) := by rw [iT (by omega) (by omega)]; omega
  have w2 : w64 (((2 * p : Nat) : Int) + (s : Int)) = ((2 * p + s : Nat) : Int) := by rw [iT (by omega) (by omega)]; omega
  unfold nD oC
  simp only [w1, w2]
  by_cases h0 : r = 0
  · subst h0
    have hp0 := aBw ht
    have hlen := hD.len
    have hpl2 : p < dO t 0 := hp
    have hi : 2 * p + s < d.length := by omega
    simp only [Int.natCast_zero, decide_true, cond_true, dQ hi, Option.bind_some, if_true, dJ hi]
  · have hr0 : decide ((r : Int) = 0) = false := decide_eq_false (by omega)
    have hw : w64 ((r : Int) - 1) = ((r - 1 : Nat) : Int) := aDl (by omega) (by omega)
    have hph := aCo (t := t) (r := r - 1) (by omega)
    have e : r - 1 + 1 = r := by omega
    rw [e] at hph
    have := aJh hM (r := r - 1) (p := 2 * p + s) (by omega) (by omega)
    simp only [hr0, cond_false, hw, if_neg h0]
    rw [← this]
    congr 1
    funext x
    cases idx x ((2 * p + s : Nat) : Int) <;> rfl
include hW
theorem aJq {r p s : Nat} (hr : r < t.Rounds.toNat) (hp : p < dO t r) (hs : s < 2) : kQ ⟨t, d, won⟩ ⟨r, p⟩ s = some (oC d must r (2 * p + s)) := by
  have hpl := nO ht (r := (r : Int))
  have h5 := ht.r5
  have w1 : w64 (2 * (p : Int)) = ((2 * p : Nat) : Int) := by rw [iT (by omega) (by omega)]; omega
  have w2 : w64 (((2 * p : Nat) : Int) + (s : Int)) = ((2 * p + s : Nat) : Int) := by rw [iT (by omega) (by omega)]; omega
  unfold kQ oC
  simp only [w1, w2]
  by_cases h0 : r = 0
  · subst h0
    have hp0 := aBw ht
    have hlen := hD.len
    have hpl2 : p < dO t 0 := hp
    have hi : 2 * p + s < d.length := by omega
    simp only [Int.natCast_zero, decide_true, cond_true, dQ hi, Option.bind_some, if_true, dJ hi]
  · have hr0 : decide ((r : Int) = 0) = false := decide_eq_false (by omega)
    have hw : w64 ((r : Int) - 1) = ((r - 1 : Nat) : Int) := aDl (by omega) (by omega)
    have hph := aCo (t := t) (r := r - 1) (by omega)
    have e : r - 1 + 1 = r := by omega
    rw [e] at hph
    simp only [hr0, cond_false, hw, if_neg h0]
    have h1 : r - 1 < t.Rounds.toNat := by omega
    have h2 : 2 * p + s < dO t ((r - 1 : Nat) : Int) := by omega
    rw [aHk hW hM h1 h2]
    by_cases hm : mat must (r - 1) (2 * p + s) = -2
    · simp only [hm, decide_true, Bool.not_true, cond_false]
    · simp only [hm, decide_false, Bool.not_false, cond_true, aHj hW hM h1 h2 hm]
omit ht hD hM hW
/-- The matches of a round, with their players. -/
def oB (t : bD) (d : List Int) (must : List (List Int)) (r : Nat) : List bK := (List.range (dO t r)).map fun p : Nat => ⟨r, p, oC d must r (2 * p), oC d must r (2 * p + 1)⟩
def dL (t : bD) (d : List Int) (must : List (List Int)) : List bK := (List.range t.Rounds.toNat).flatMap (oB t d must)
theorem yI {α : Type} (f : Nat → List α) (n : Nat) : (List.range (n + 1)).flatMap f = (List.range n).flatMap f ++ f n := by
  rw [List.range_succ, List.flatMap_append]; simp
include ht
theorem aMn (r : Nat) : (oB t d must r).length ≤ 16 := by
  have := nO ht (r := (r : Int))
  simpa [oB] using this
theorem wC : ∀ r, ((List.range r).flatMap (oB t d must)).length ≤ 16 * r
  | 0 => by simp
  | r + 1 => by
    have h1 := wC r
    have h2 := aMn ht (d := d) (must := must) r
    rw [yI, List.length_append]; omega
include hD hM
theorem aLd : mN t ⟨d, must⟩ = some (dL t d must) := by
  have h1 := ht.r1
  have h5 := ht.r5
  unfold mN
  have := hC (S := List bK) (fun k r out => eM t ⟨d, must⟩ k r out) t.Rounds.toNat (fun _ _ => some (dL t d must)) (fun r out => out = (List.range r).flatMap (oB t d must)) ?_ ?_ BIG [] (eH (by omega)) (by simp)
  · exact this
  · rintro k r out hr rfl ih
    have hfl := wC ht (d := d) (must := must) r
    have hpl := nO ht (r := (r : Int))
    have hlt : decide ((r : Int) < t.Rounds) = true := decide_eq_true (by omega)
    have hin : gJ (eM t ⟨d, must⟩ k) r t ⟨d, must⟩ BIG 0 ((List.range r).flatMap (oB t d must)) = lA (eM t ⟨d, must⟩ k) r t ⟨d, must⟩ ((List.range r).flatMap (oB t d must) ++ oB t d must r) := by
      have hP := zZ ht (r := (r : Int)) (by omega) (by omega)
      refine hC (S := List bK) (fun q p out => gJ (eM t ⟨d, must⟩ k) r t ⟨d, must⟩ q p out) (dO t r) (fun _ _ => lA (eM t ⟨d, must⟩ k) r t ⟨d, must⟩ ((List.range r).flatMap (oB t d must) ++ oB t d must r))
        (fun p out => out = (List.range r).flatMap (oB t d must) ++ (List.range p).map fun p : Nat => (⟨r, p, oC d must r (2 * p), oC d must r (2 * p + 1)⟩ : bK)) ?_ ?_ BIG _ (eH (by omega)) (by simp)
      · rintro q p out hp rfl ih2
        simp only [gJ, hP, Option.bind_some, Int.ofNat_lt, hp, decide_true, cond_true, dN (show p < 9223372036854775807 by omega)]
        have e0 := aLz ht hD hM hr hp (s := 0) (by omega)
        have e1 := aLz ht hD hM hr hp (s := 1) (by omega)
        simp only [Int.natCast_zero, Int.natCast_one, Nat.add_zero] at e0 e1
        rw [e0, Option.bind_some, e1, Option.bind_some, iX (by simp only [List.length_append, List.length_map, List.length_range, List.length_cons, List.length_nil]; omega), Option.bind_some]
        refine ih2 _ ?_
        rw [List.range_succ, List.map_append, List.append_assoc]; rfl
      · rintro q out rfl
        have hlt : decide ((dO t r : Int) < (dO t r : Int)) = false := decide_eq_false (by omega)
        simp only [gJ, hP, Option.bind_some, hlt, cond_false, oB]
    simp only [eM, hlt, cond_true, hin, lA, pJ, dN (show r < 9223372036854775807 by omega)]
    exact ih _ (yI _ _).symm
  · rintro k out rfl
    have hlt : decide (((t.Rounds.toNat : Nat) : Int) < t.Rounds) = false := decide_eq_false (by omega)
    simp only [eM, hlt, cond_false, pI]
    rfl
include hW
/-- What a loop over the matches does. -/
theorem aKj {S : Type} (y : S → aI → bK → Option S) (f : List bK → S) (good : List bK → Prop)
    (hy : ∀ (out : List bK) (r p : Nat), r < t.Rounds.toNat → p < dO t r → out.length ≤ 200 → y (f out) ⟨r, p⟩ ⟨r, p, oC d must r (2 * p), oC d must r (2 * p + 1)⟩ = some (f (out ++ [⟨r, p, oC d must r (2 * p), oC d must r (2 * p + 1)⟩]))) :
    kJ ⟨t, d, won⟩ y (f []) = some (f (dL t d must)) := by
  have h1 := ht.r1
  have h5 := ht.r5
  unfold kJ
  have := hC (S := S) (fun k r out => dX y ⟨t, d, won⟩ t.Rounds k r out) t.Rounds.toNat (fun _ _ => some (f (dL t d must))) (fun r out => out = f ((List.range r).flatMap (oB t d must))) ?_ ?_ BIG (f []) (eH (by omega)) (by simp)
  · exact this
  · rintro k r out hr rfl ih
    have hfl := wC ht (d := d) (must := must) r
    have hpl := nO ht (r := (r : Int))
    have hlt : decide ((r : Int) < t.Rounds) = true := decide_eq_true (by omega)
    have hch : chk (decide (0 ≤ w64 ((r : Int) + 1))) = some () := by
      rw [dN (by omega)]; unfold chk; rw [decide_eq_true (by omega)]; rfl
    have hin : fL y (dX y ⟨t, d, won⟩ t.Rounds k) ⟨t, d, won⟩ r t.Rounds r (dO t r) BIG 0 (f ((List.range r).flatMap (oB t d must))) =
        jH y (dX y ⟨t, d, won⟩ t.Rounds k) ⟨t, d, won⟩ t.Rounds r (f ((List.range r).flatMap (oB t d must) ++ oB t d must r)) := by
      refine hC (S := S) (fun q p out => fL y (dX y ⟨t, d, won⟩ t.Rounds k) ⟨t, d, won⟩ r t.Rounds r (dO t r) q p out) (dO t r) (fun _ _ => jH y (dX y ⟨t, d, won⟩ t.Rounds k) ⟨t, d, won⟩ t.Rounds r (f ((List.range r).flatMap (oB t d must) ++ oB t d must r)))
        (fun p out => out = f ((List.range r).flatMap (oB t d must) ++ (List.range p).map fun p : Nat => (⟨r, p, oC d must r (2 * p), oC d must r (2 * p + 1)⟩ : bK))) ?_ ?_ BIG _ (eH (by omega)) (by simp)
      · rintro q p out hp rfl ih2
        have e0 := aJq ht hD hM hW hr hp (s := 0) (by omega)
        have e1 := aJq ht hD hM hW hr hp (s := 1) (by omega)
        simp only [Int.natCast_zero, Int.natCast_one, Nat.add_zero] at e0 e1
        simp only [fL, Int.ofNat_lt, hp, decide_true, cond_true, dN (show p < 9223372036854775807 by omega), e0, e1, Option.bind_some]
        rw [hy _ r p hr hp (by simp only [List.length_append, List.length_map, List.length_range, List.length_cons, List.length_nil]; omega), Option.bind_some]
        refine ih2 _ ?_
        rw [List.range_succ, List.map_append, List.append_assoc]; rfl
      · rintro q out rfl
        have hlt : decide ((dO t r : Int) < (dO t r : Int)) = false := decide_eq_false (by omega)
        simp only [fL, hlt, cond_false, oB]
    simp only [dX, hlt, cond_true, hch, Option.bind_some, aJp ht (r := (r : Int)) (by omega) (by omega), hin, jH, nB]
    rw [dN (show r < 9223372036854775807 by omega)]
    exact ih _ (congrArg f (yI _ _)).symm
  · rintro k out rfl
    have hlt : decide (((t.Rounds.toNat : Nat) : Int) < t.Rounds) = false := decide_eq_false (by omega)
    simp only [dX, hlt, cond_false, nA]
    rfl
end

theorem yA {t : bD} {l : List aK} {d : List Int} (h : Good t l d) {must : List (List Int)} (hd : eI t l = some (⟨d, must⟩, true)) (hM : MustIs t must (mD d (Res l))) : iC t l = some (dL t d must, 0) := by
  unfold iC
  rw [yB h, Option.bind_some]
  simp only [decide_true, Bool.not_true, cond_false, hd, Option.bind_some, aLd h.ht h.dok hM]
theorem aFm {t : bD} {l : List aK} {e : Int} (h : Stat t l e) : iC t l = some ([], e) := by
  unfold iC
  rw [zY h, Option.bind_some]
  simp only [h.ne, Bool.not_false, cond_true]
theorem aKx (t : bD) (l : List aK) {r : List bK × Int} (h : iC t l = some r) (Q : List bK × Int → Prop) (hq : Q r) : pC t l Q := by
  unfold pC
  rcases uR t l with ⟨d, hg⟩ | ⟨e, he⟩
  · obtain ⟨must, hd, hM⟩ := tU hg
    rw [yA hg hd hM] at h; cases h
    refine aGe hg fun won hW => ?_
    simp only [decide_true, Bool.not_true, cond_false]
    refine ⟨_, rfl, _, ?_, hq⟩
    refine aKj hg.ht hg.dok hM hW _ (fun x => x) (fun _ => True) fun out r p hr hp hl => ?_
    rw [iX (by simp; omega)]; rfl
  · rw [aFm he] at h; cases h
    refine aHo he ?_
    simp only [he.ne, Bool.not_false, cond_true]
    exact hq

theorem aPk {t : bD} {l : List aK} {e : Int} (h : Stat t l e) {r p : Int} {Q : (Option cJ × aI × Int) → Prop} (hq : Q (none, ⟨r, p⟩, e)) : oT t l r p Q := by
  unfold oT
  refine aHo h ?_
  simp only [h.ne, cond_false]
  exact ⟨_, rfl, hq⟩
theorem aOg {t : bD} {l : List aK} {d : List Int} (h : Good t l d) {r p : Int} {Q : (Option cJ × aI × Int) → Prop} (hq : ∀ won, WonIs won (mD d (Res l)) → Q (some ⟨t, d, won⟩, ⟨r, p⟩, bif jB t r p then 0 else 1)) : oT t l r p Q := by
  unfold oT
  refine aGe h fun won hW => ?_
  have := hq won hW
  simp only [decide_true, cond_true, aNy h.ht, Option.bind_some]
  refine ⟨_, rfl, ?_⟩
  cases hm : jB t r p with
  | true => rw [hm] at this; exact this
  | false => rw [hm] at this; exact this
theorem aEz {t : bD} {l : List aK} {e : Int} (h : Stat t l e) (r p : Int) : gP t l r p = some e := by
  unfold gP
  rw [zY h, Option.bind_some]
  simp only [h.ne, Bool.not_false, cond_true]
theorem wD {t : bD} {l : List aK} {d : List Int} (h : Good t l d) (r p : Int) : gP t l r p = some (bif jB t r p then 0 else 1) := by
  unfold gP
  rw [yB h, Option.bind_some]
  simp only [decide_true, Bool.not_true, cond_false, aDn h.ht, Option.bind_some]
  cases jB t r p <;> rfl
theorem aEc {t : bD} {r p : Int} (h : jB t r p = true) : ∃ r' p' : Nat, r = r' ∧ p = p' ∧ r' < t.Rounds.toNat ∧ p' < dO t r' := by
  simp only [jB, Bool.and_eq_true, kP] at h
  refine ⟨r.toNat, p.toNat, by omega, by omega, by omega, ?_⟩
  have e : ((r.toNat : Nat) : Int) = r := by omega
  rw [e]; omega
theorem aJx {t : bD} {l : List aK} {e : Int} (h : Stat t l e) (r p : Int) : eY t l r p = some (0, e) := by
  unfold eY
  rw [aEz h, Option.bind_some]
  simp only [h.ne, Bool.not_false, cond_true]
theorem aJw {t : bD} {l : List aK} {d : List Int} (h : Good t l d) {r p : Int} (hm : jB t r p = false) : eY t l r p = some (0, 1) := by
  unfold eY
  rw [wD h, hm, Option.bind_some]
  rfl
theorem aCf {t : bD} {l : List aK} {d : List Int} (h : Good t l d) {must : List (List Int)} (hd : eI t l = some (⟨d, must⟩, true)) (hM : MustIs t must (mD d (Res l))) {r p : Nat} (hm : jB t r p = true) :
    eY t l r p = some (if mat must r p = -2 then (0, 3) else (mat must r p, 0)) := by
  obtain ⟨r', p', e1, e2, hr, hp⟩ := aEc hm
  have e1 : r = r' := by omega
  have e2 : p = p' := by omega
  subst e1; subst e2
  have hi := aJh hM hr hp
  unfold eY
  rw [wD h, hm, Option.bind_some]
  simp only [cond_true, decide_true, Bool.not_true, cond_false, hd, Option.bind_some]
  rw [← Option.bind_assoc, hi, Option.bind_some]
  by_cases h2 : mat must r p = -2
  · simp only [h2, decide_true, cond_true, if_true]
  · simp only [h2, decide_false, cond_false, if_false]
    rw [← Option.bind_assoc, hi, Option.bind_some]
theorem aJy (t : bD) (l : List aK) (r p : Int) {o : Int × Int} (h : eY t l r p = some o) (Q : Int × Int → Prop) (hq : Q o) : oD t l r p Q := by
  unfold oD
  rcases uR t l with ⟨d, hg⟩ | ⟨e, he⟩
  · refine aOg hg fun won hW => ?_
    cases hm : jB t r p with
    | false =>
      rw [aJw hg hm] at h; cases h
      exact hq
    | true =>
      obtain ⟨r', p', rfl, rfl, hr, hp⟩ := aEc hm
      obtain ⟨must, hd, hM⟩ := tU hg
      rw [aCf hg hd hM hm] at h; cases h
      simp only [cond_true, decide_true, Bool.not_true, cond_false]
      refine ⟨_, rfl, ?_⟩
      simp only [aHk hW hM hr hp]
      by_cases h2 : mat must r' p' = -2
      · rw [if_pos h2] at hq
        simp only [h2, decide_true, Bool.not_true, Bool.not_false, cond_true]; exact hq
      · rw [if_neg h2] at hq
        simp only [h2, decide_false, Bool.not_true, Bool.not_false, cond_false, aHj hW hM hr hp h2]; exact hq
  · rw [aJx he] at h; cases h
    refine aPk he ?_
    simp only [he.ne, Bool.not_false, cond_true]
    exact hq
end Go.Am
