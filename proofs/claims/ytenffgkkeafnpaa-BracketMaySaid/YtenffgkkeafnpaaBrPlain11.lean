/- Layer 7, plain: Check, Bouts and Winner are those of the reference. -/
import Derived.Test.YtenffgkkeafnpaaBrPlain10
namespace Go.Am

/-- A valid tree with valid slips that agree. -/
structure Good (t : aO) (l : List aD) (d : List Int) : Prop where
  tree : qU t = true
  len : l.length ≤ 60
  slips : ∀ s ∈ l, eJ t s = true
  agr : AGR t l d
/-- The error of a tree and slips. -/
inductive Stat (t : aO) (l : List aD) : Int → Prop
  | s70 : qU t = false → Stat t l 70
  | s71 : qU t = true → (60 < l.length ∨ ∃ s ∈ l, eJ t s = false) → Stat t l 71
  | s72 : qU t = true → l.length ≤ 60 → (∀ s ∈ l, eJ t s = true) → (∀ d, ¬ AGR t l d) → Stat t l 72
theorem Stat.ne {t : aO} {l : List aD} {e : Int} (h : Stat t l e) : decide (e = 0) = false := by cases h <;> rfl
theorem oB (t : aO) (l : List aD) : (∃ d, Good t l d) ∨ ∃ e, Stat t l e := by
  cases ht : qU t with
  | false => exact .inr ⟨70, .s70 ht⟩
  | true =>
    by_cases hl : 60 < l.length
    · exact .inr ⟨71, .s71 ht (.inl hl)⟩
    · by_cases hs : ∃ s ∈ l, eJ t s = false
      · exact .inr ⟨71, .s71 ht (.inr hs)⟩
      · have hs' : ∀ s ∈ l, eJ t s = true := fun s hm => by
          cases h : eJ t s with
          | true => rfl
          | false => exact absurd ⟨s, hm, h⟩ hs
        by_cases hd : ∃ d, AGR t l d
        · obtain ⟨d, hd⟩ := hd
          exact .inl ⟨d, ht, by omega, hs', hd⟩
        · exact .inr ⟨72, .s72 ht (by omega) hs' fun d h => hd ⟨d, h⟩⟩
theorem Good.ht {t : aO} {l : List aD} {d : List Int} (h : Good t l d) : TreeOK t := nG h.tree
theorem Good.dok {t : aO} {l : List aD} {d : List Int} (h : Good t l d) : DOK t d := uY h.ht h.slips h.agr.1
theorem Good.uniq {t : aO} {l : List aD} {d d' : List Int} (h : Good t l d) (h' : Good t l d') : d = d' := by
  have := h.agr.1
  rw [h'.agr.1] at this
  exact (Option.some.inj this).symm

theorem sM {t : aO} {l : List aD} {e : Int} (h : Stat t l e) {Q : (Option aY × Int) → Prop} (hq : Q (none, e)) : gK t l Q := by
  unfold gK
  refine ⟨_, aAu t, ?_⟩
  cases h with
  | s70 ht => simp only [ht, Bool.not_false, cond_true]; exact hq
  | s71 ht hs =>
    simp only [ht, Bool.not_true, cond_false]
    by_cases hl : 60 < l.length
    · have : decide (60 < (l.length : Int)) = true := decide_eq_true (by omega)
      simp only [this, cond_true]
      exact ⟨_, rfl, hq⟩
    · have : decide (60 < (l.length : Int)) = false := decide_eq_false (by omega)
      simp only [this, cond_false]
      rw [mB l (by omega) _ (fun s => !eJ t s) fun x _ => by simp [kQ, vZ (nG ht)]]
      refine ⟨_, rfl, ?_⟩
      have : (l.any fun s => !eJ t s) = true := by
        rcases hs with h | ⟨s, h1, h2⟩
        · exact absurd h hl
        · rw [List.any_eq_true]; exact ⟨s, h1, by rw [h2]; rfl⟩
      simp only [this, cond_true]; exact hq
  | s72 ht hl hs hno =>
    have : decide (60 < (l.length : Int)) = false := decide_eq_false (by omega)
    simp only [ht, Bool.not_true, cond_false, this]
    rw [mB l (by omega) _ (fun s => !eJ t s) fun x _ => by simp [kQ, vZ (nG ht)]]
    refine ⟨_, rfl, ?_⟩
    have : (l.any fun s => !eJ t s) = false := by
      rw [List.any_eq_false]; intro s hm; rw [hs s hm]; simp
    simp only [this, cond_false]
    exact yN (nG ht) hs (by omega) (fun d hd => absurd hd (hno d)) fun _ => hq
theorem rD {t : aO} {l : List aD} {d : List Int} (h : Good t l d) {Q : (Option aY × Int) → Prop} (hq : ∀ won, WonIs won (eR d (Res l)) → Q (some ⟨t, d, won⟩, 0)) : gK t l Q := by
  unfold gK
  have hl := h.len
  have : decide (60 < (l.length : Int)) = false := decide_eq_false (by omega)
  refine ⟨_, aAu t, ?_⟩
  simp only [h.tree, Bool.not_true, cond_false, this]
  rw [mB l (by omega) _ (fun s => !eJ t s) fun x _ => by simp [kQ, vZ h.ht]]
  refine ⟨_, rfl, ?_⟩
  have : (l.any fun s => !eJ t s) = false := by
    rw [List.any_eq_false]; intro s hm; rw [h.slips s hm]; simp
  simp only [this, cond_false]
  refine yN h.ht h.slips (by omega) (fun d' hd won hW => ?_) fun hno => absurd h.agr (hno d)
  have := h.uniq ⟨h.tree, h.len, h.slips, hd⟩
  subst this
  exact hq won hW

theorem tH {t : aO} (ht : TreeOK t) {l : List aD} (hl : l.length ≤ 60) : fB l t BIG 0 = bif l.all (eJ t) then gV l t else some 71 := by
  have := uS (fun k i => fB l t k i) l.length (fun i => l[i]?.any (eJ t)) (some 71) (gV l t) ?_ ?_ BIG (cZ (by omega))
  · rw [this]
    have e : (List.range l.length).all (fun i => l[i]?.any (eJ t)) = l.all (eJ t) := by
      rw [Bool.eq_iff_iff, pB, List.all_eq_true]
      constructor
      · intro h x hx
        obtain ⟨i, hi, rfl⟩ := List.mem_iff_getElem.1 hx
        have := h i hi
        rwa [List.getElem?_eq_getElem hi] at this
      · intro h i hi
        rw [List.getElem?_eq_getElem hi]
        exact h _ (List.getElem_mem hi)
    rw [e]
  · intro k i hi
    simp only [fB, Int.ofNat_lt, hi, decide_true, cond_true, cI hi, Option.bind_some, aFd ht, cH (show i < 9223372036854775807 by omega), List.getElem?_eq_getElem hi, Option.any_some]
    cases eJ t l[i] <;> rfl
  · intro k
    have hlt : decide ((l.length : Int) < (l.length : Int)) = false := decide_eq_false (by omega)
    simp only [fB, hlt, cond_false]
theorem nE {t : aO} {l : List aD} {e : Int} (h : Stat t l e) : dQ t l = some e := by
  unfold dQ
  rw [aAk, Option.bind_some]
  cases h with
  | s70 ht => simp only [ht, Bool.not_false, cond_true]
  | s71 ht hs =>
    simp only [ht, Bool.not_true, cond_false]
    by_cases hl : 60 < l.length
    · have : decide (60 < (l.length : Int)) = true := decide_eq_true (by omega)
      simp only [this, cond_true]
    · have : decide (60 < (l.length : Int)) = false := decide_eq_false (by omega)
      have h2 : l.all (eJ t) = false := by
        rcases hs with h | ⟨s, h1, h2⟩
        · exact absurd h hl
        · rw [List.all_eq_false]; exact ⟨s, h1, by simp [h2]⟩
      simp only [this, cond_false, tH (nG ht) (show l.length ≤ 60 by omega), h2]
  | s72 ht hl hs hno =>
    have : decide (60 < (l.length : Int)) = false := decide_eq_false (by omega)
    have h2 : l.all (eJ t) = true := by rw [List.all_eq_true]; exact hs
    simp only [ht, Bool.not_true, cond_false, this, tH (nG ht) hl, h2, cond_true, gV, (aAn (nG ht) hs (by omega)).2 hno, Option.bind_some, Bool.not_false]
theorem oY {t : aO} {l : List aD} {d : List Int} (h : Good t l d) : ∃ must, cY t l = some (⟨d, must⟩, true) ∧ MustIs t must (eR d (Res l)) :=
  (aAn h.ht h.slips (by have := h.len; omega)).1 d h.agr
theorem mA {t : aO} {l : List aD} {d : List Int} (h : Good t l d) : dQ t l = some 0 := by
  have hl := h.len
  have : decide (60 < (l.length : Int)) = false := decide_eq_false (by omega)
  have h2 : l.all (eJ t) = true := by rw [List.all_eq_true]; exact h.slips
  obtain ⟨must, hd, _⟩ := oY h
  unfold dQ
  rw [aAk, Option.bind_some]
  simp only [h.tree, Bool.not_true, cond_false, this, tH h.ht hl, h2, cond_true, gV, hd, Option.bind_some]

/-! What is known of a match. -/
theorem yD {t : aO} {won : List (aB × Int)} {must : List (List Int)} {P : kD} (hW : WonIs won P) (hM : MustIs t must P) {r p : Nat} (hr : r < t.Rounds.toNat) (hp : p < cD t r) :
    cQ (⟨r, p⟩ : aB) won = !decide (mat must r p = -2) := by
  rw [Bool.eq_iff_iff, hW.has, Bool.not_eq_true', decide_eq_false_iff_not]
  constructor
  · rintro ⟨v, hv⟩
    have := (hM.mem r p v hr hp).2 hv
    rw [this.1]; exact this.2
  · exact fun h => ⟨_, (hM.mem r p _ hr hp).1 ⟨rfl, h⟩⟩
theorem yC {t : aO} {won : List (aB × Int)} {must : List (List Int)} {P : kD} (hW : WonIs won P) (hM : MustIs t must P) {r p : Nat} (hr : r < t.Rounds.toNat) (hp : p < cD t r) (h : mat must r p ≠ -2) (z : Int) :
    cK (⟨r, p⟩ : aB) z won = mat must r p := hW.get ((hM.mem r p _ hr hp).1 ⟨rfl, h⟩)
theorem aEh {t : aO} {must : List (List Int)} {P : kD} (hM : MustIs t must P) {r p : Nat} (hr : r < t.Rounds.toNat) (hp : p < cD t r) : ((idx must (r : Int)).bind fun x => idx x (p : Int)) = some (mat must r p) := by
  have hl := hM.len
  have hrow := hM.row r hr
  have hrl : r < must.length := by omega
  rw [cI hrl, Option.bind_some]
  unfold mat
  rw [bN hrl] at hrow ⊢
  have hp' : p < must[r].length := by omega
  rw [cI hp', bN hp']
theorem tP {t : aO} {r : Nat} (hr : r + 1 < t.Rounds.toNat) : cD t r = 2 * cD t ((r + 1 : Nat) : Int) := by
  unfold cD
  have e : t.Rounds.toNat - 1 - ((r : Nat) : Int).toNat = (t.Rounds.toNat - 1 - ((r + 1 : Nat) : Int).toNat) + 1 := by omega
  rw [e, Nat.pow_succ]; omega
/-- A side of a match. -/
def nD (d : List Int) (must : List (List Int)) (r at' : Nat) : Int := if r = 0 then d.getD at' 0 else mat must (r - 1) at'

section
variable {t : aO} (ht : TreeOK t) {d : List Int} (hD : DOK t d) {must : List (List Int)} {P : kD} (hM : MustIs t must P) {won : List (aB × Int)} (hW : WonIs won P)
include ht hD hM
theorem aGx {r p s : Nat} (hr : r < t.Rounds.toNat) (hp : p < cD t r) (hs : s < 2) : oJ ⟨d, must⟩ r p s = some (nD d must r (2 * p + s)) := by
  have hpl := kM ht (r := (r : Int))
  have h5 := ht.r5
  have w1 : w64 (2 * (p : Int)) = ((2 * p : Nat) : Int) := by rw [eX (by omega) (by omega)]; omega
  have w2 : w64 (((2 * p : Nat) : Int) + (s : Int)) = ((2 * p + s : Nat) : Int) := by rw [eX (by omega) (by omega)]; omega
  unfold oJ nD
  simp only [w1, w2]
  by_cases h0 : r = 0
  · subst h0
    have hp0 := sA ht
    have hlen := hD.len
    have hpl2 : p < cD t 0 := hp
    have hi : 2 * p + s < d.length := by omega
    simp only [Int.natCast_zero, decide_true, cond_true, cI hi, Option.bind_some, if_true, bN hi]
  · have hr0 : decide ((r : Int) = 0) = false := decide_eq_false (by omega)
    have hw : w64 ((r : Int) - 1) = ((r - 1 : Nat) : Int) := vG (by omega) (by omega)
    have hph := tP (t := t) (r := r - 1) (by omega)
    have e : r - 1 + 1 = r := by omega
    rw [e] at hph
    have := aEh hM (r := r - 1) (p := 2 * p + s) (by omega) (by omega)
    simp only [hr0, cond_false, hw, if_neg h0]
    rw [← this]
    congr 1
    funext x
    cases idx x ((2 * p + s : Nat) : Int) <;> rfl
include hW
theorem aEp {r p s : Nat} (hr : r < t.Rounds.toNat) (hp : p < cD t r) (hs : s < 2) : iQ ⟨t, d, won⟩ ⟨r, p⟩ s = some (nD d must r (2 * p + s)) := by
  have hpl := kM ht (r := (r : Int))
  have h5 := ht.r5
  have w1 : w64 (2 * (p : Int)) = ((2 * p : Nat) : Int) := by rw [eX (by omega) (by omega)]; omega
  have w2 : w64 (((2 * p : Nat) : Int) + (s : Int)) = ((2 * p + s : Nat) : Int) := by rw [eX (by omega) (by omega)]; omega
  unfold iQ nD
  simp only [w1, w2]
  by_cases h0 : r = 0
  · subst h0
    have hp0 := sA ht
    have hlen := hD.len
    have hpl2 : p < cD t 0 := hp
    have hi : 2 * p + s < d.length := by omega
    simp only [Int.natCast_zero, decide_true, cond_true, cI hi, Option.bind_some, if_true, bN hi]
  · have hr0 : decide ((r : Int) = 0) = false := decide_eq_false (by omega)
    have hw : w64 ((r : Int) - 1) = ((r - 1 : Nat) : Int) := vG (by omega) (by omega)
    have hph := tP (t := t) (r := r - 1) (by omega)
    have e : r - 1 + 1 = r := by omega
    rw [e] at hph
    simp only [hr0, cond_false, hw, if_neg h0]
    have h1 : r - 1 < t.Rounds.toNat := by omega
    have h2 : 2 * p + s < cD t ((r - 1 : Nat) : Int) := by omega
    rw [yD hW hM h1 h2]
    by_cases hm : mat must (r - 1) (2 * p + s) = -2
    · simp only [hm, decide_true, Bool.not_true, cond_false]
    · simp only [hm, decide_false, Bool.not_false, cond_true, yC hW hM h1 h2 hm]
omit ht hD hM hW
/-- The matches of a round, with their players. -/
def lW (t : aO) (d : List Int) (must : List (List Int)) (r : Nat) : List bY := (List.range (cD t r)).map fun p : Nat => ⟨r, p, nD d must r (2 * p), nD d must r (2 * p + 1)⟩
def vQ (t : aO) (d : List Int) (must : List (List Int)) : List bY := (List.range t.Rounds.toNat).flatMap (lW t d must)
theorem pF {α : Type} (f : Nat → List α) (n : Nat) : (List.range (n + 1)).flatMap f = (List.range n).flatMap f ++ f n := by
  rw [List.range_succ, List.flatMap_append]; simp
include ht
theorem aHs (r : Nat) : (lW t d must r).length ≤ 16 := by
  have := kM ht (r := (r : Int))
  simpa [lW] using this
theorem vP : ∀ r, ((List.range r).flatMap (lW t d must)).length ≤ 16 * r
  | 0 => by simp
  | r + 1 => by
    have h1 := vP r
    have h2 := aHs ht (d := d) (must := must) r
    rw [pF, List.length_append]; omega
include hD hM
theorem aGf : oN t ⟨d, must⟩ = some (vQ t d must) := by
  have h1 := ht.r1
  have h5 := ht.r5
  unfold oN
  have := fF (S := List bY) (fun k r out => eI t ⟨d, must⟩ k r out) t.Rounds.toNat (fun _ _ => some (vQ t d must)) (fun r out => out = (List.range r).flatMap (lW t d must)) ?_ ?_ BIG [] (cZ (by omega)) (by simp)
  · exact this
  · rintro k r out hr rfl ih
    have hfl := vP ht (d := d) (must := must) r
    have hpl := kM ht (r := (r : Int))
    have hlt : decide ((r : Int) < t.Rounds) = true := decide_eq_true (by omega)
    have hin : gW (eI t ⟨d, must⟩ k) r t ⟨d, must⟩ BIG 0 ((List.range r).flatMap (lW t d must)) = kX (eI t ⟨d, must⟩ k) r t ⟨d, must⟩ ((List.range r).flatMap (lW t d must) ++ lW t d must r) := by
      have hP := sU ht (r := (r : Int)) (by omega) (by omega)
      refine fF (S := List bY) (fun q p out => gW (eI t ⟨d, must⟩ k) r t ⟨d, must⟩ q p out) (cD t r) (fun _ _ => kX (eI t ⟨d, must⟩ k) r t ⟨d, must⟩ ((List.range r).flatMap (lW t d must) ++ lW t d must r))
        (fun p out => out = (List.range r).flatMap (lW t d must) ++ (List.range p).map fun p : Nat => (⟨r, p, nD d must r (2 * p), nD d must r (2 * p + 1)⟩ : bY)) ?_ ?_ BIG _ (cZ (by omega)) (by simp)
      · rintro q p out hp rfl ih2
        simp only [gW, hP, Option.bind_some, Int.ofNat_lt, hp, decide_true, cond_true, cH (show p < 9223372036854775807 by omega)]
        have e0 := aGx ht hD hM hr hp (s := 0) (by omega)
        have e1 := aGx ht hD hM hr hp (s := 1) (by omega)
        simp only [Int.natCast_zero, Int.natCast_one, Nat.add_zero] at e0 e1
        rw [e0, Option.bind_some, e1, Option.bind_some, hZ (by simp only [List.length_append, List.length_map, List.length_range, List.length_cons, List.length_nil]; omega), Option.bind_some]
        refine ih2 _ ?_
        rw [List.range_succ, List.map_append, List.append_assoc]; rfl
      · rintro q out rfl
        have hlt : decide ((cD t r : Int) < (cD t r : Int)) = false := decide_eq_false (by omega)
        simp only [gW, hP, Option.bind_some, hlt, cond_false, lW]
    simp only [eI, hlt, cond_true, hin, kX, qA, cH (show r < 9223372036854775807 by omega)]
    exact ih _ (pF _ _).symm
  · rintro k out rfl
    have hlt : decide (((t.Rounds.toNat : Nat) : Int) < t.Rounds) = false := decide_eq_false (by omega)
    simp only [eI, hlt, cond_false, pZ]
    rfl
include hW
/-- What a loop over the matches does. -/
theorem aFg {S : Type} (y : S → aB → bY → Option S) (f : List bY → S) (good : List bY → Prop)
    (hy : ∀ (out : List bY) (r p : Nat), r < t.Rounds.toNat → p < cD t r → out.length ≤ 200 → y (f out) ⟨r, p⟩ ⟨r, p, nD d must r (2 * p), nD d must r (2 * p + 1)⟩ = some (f (out ++ [⟨r, p, nD d must r (2 * p), nD d must r (2 * p + 1)⟩]))) :
    iK ⟨t, d, won⟩ y (f []) = some (f (vQ t d must)) := by
  have h1 := ht.r1
  have h5 := ht.r5
  unfold iK
  have := fF (S := S) (fun k r out => cU y ⟨t, d, won⟩ t.Rounds k r out) t.Rounds.toNat (fun _ _ => some (f (vQ t d must))) (fun r out => out = f ((List.range r).flatMap (lW t d must))) ?_ ?_ BIG (f []) (cZ (by omega)) (by simp)
  · exact this
  · rintro k r out hr rfl ih
    have hfl := vP ht (d := d) (must := must) r
    have hpl := kM ht (r := (r : Int))
    have hlt : decide ((r : Int) < t.Rounds) = true := decide_eq_true (by omega)
    have hch : chk (decide (0 ≤ w64 ((r : Int) + 1))) = some () := by
      rw [cH (by omega)]; unfold chk; rw [decide_eq_true (by omega)]; rfl
    have hin : dY y (cU y ⟨t, d, won⟩ t.Rounds k) ⟨t, d, won⟩ r t.Rounds r (cD t r) BIG 0 (f ((List.range r).flatMap (lW t d must))) =
        gR y (cU y ⟨t, d, won⟩ t.Rounds k) ⟨t, d, won⟩ t.Rounds r (f ((List.range r).flatMap (lW t d must) ++ lW t d must r)) := by
      refine fF (S := S) (fun q p out => dY y (cU y ⟨t, d, won⟩ t.Rounds k) ⟨t, d, won⟩ r t.Rounds r (cD t r) q p out) (cD t r) (fun _ _ => gR y (cU y ⟨t, d, won⟩ t.Rounds k) ⟨t, d, won⟩ t.Rounds r (f ((List.range r).flatMap (lW t d must) ++ lW t d must r)))
        (fun p out => out = f ((List.range r).flatMap (lW t d must) ++ (List.range p).map fun p : Nat => (⟨r, p, nD d must r (2 * p), nD d must r (2 * p + 1)⟩ : bY))) ?_ ?_ BIG _ (cZ (by omega)) (by simp)
      · rintro q p out hp rfl ih2
        have e0 := aEp ht hD hM hW hr hp (s := 0) (by omega)
        have e1 := aEp ht hD hM hW hr hp (s := 1) (by omega)
        simp only [Int.natCast_zero, Int.natCast_one, Nat.add_zero] at e0 e1
        simp only [dY, Int.ofNat_lt, hp, decide_true, cond_true, cH (show p < 9223372036854775807 by omega), e0, e1, Option.bind_some]
        rw [hy _ r p hr hp (by simp only [List.length_append, List.length_map, List.length_range, List.length_cons, List.length_nil]; omega), Option.bind_some]
        refine ih2 _ ?_
        rw [List.range_succ, List.map_append, List.append_assoc]; rfl
      · rintro q out rfl
        have hlt : decide ((cD t r : Int) < (cD t r : Int)) = false := decide_eq_false (by omega)
        simp only [dY, hlt, cond_false, lW]
    simp only [cU, hlt, cond_true, hch, Option.bind_some, aEo ht (r := (r : Int)) (by omega) (by omega), hin, gR, lA]
    rw [cH (show r < 9223372036854775807 by omega)]
    exact ih _ (congrArg f (pF _ _)).symm
  · rintro k out rfl
    have hlt : decide (((t.Rounds.toNat : Nat) : Int) < t.Rounds) = false := decide_eq_false (by omega)
    simp only [cU, hlt, cond_false, kZ]
    rfl
end

theorem aGd (t : aO) (l : List aD) {r : Int} (h : dQ t l = some r) (Q : Int → Prop) (hq : Q r) : mN t l Q := by
  unfold mN
  rcases oB t l with ⟨d, hg⟩ | ⟨e, he⟩
  · rw [mA hg] at h; cases h
    exact rD hg fun won _ => hq
  · rw [nE he] at h; cases h
    exact sM he hq
theorem aEt {t : aO} {l : List aD} {d : List Int} (h : Good t l d) {must : List (List Int)} (hd : cY t l = some (⟨d, must⟩, true)) (hM : MustIs t must (eR d (Res l))) : jH t l = some (vQ t d must, 0) := by
  unfold jH
  rw [mA h, Option.bind_some]
  simp only [decide_true, Bool.not_true, cond_false, hd, Option.bind_some, aGf h.ht h.dok hM]
theorem aGb {t : aO} {l : List aD} {e : Int} (h : Stat t l e) : jH t l = some ([], e) := by
  unfold jH
  rw [nE h, Option.bind_some]
  simp only [h.ne, Bool.not_false, cond_true]
theorem aGc (t : aO) (l : List aD) {r : List bY × Int} (h : jH t l = some r) (Q : List bY × Int → Prop) (hq : Q r) : mM t l Q := by
  unfold mM
  rcases oB t l with ⟨d, hg⟩ | ⟨e, he⟩
  · obtain ⟨must, hd, hM⟩ := oY hg
    rw [aEt hg hd hM] at h; cases h
    refine rD hg fun won hW => ?_
    simp only [decide_true, Bool.not_true, cond_false]
    refine ⟨_, rfl, _, ?_, hq⟩
    refine aFg hg.ht hg.dok hM hW _ (fun x => x) (fun _ => True) fun out r p hr hp hl => ?_
    rw [hZ (by simp; omega)]; rfl
  · rw [aGb he] at h; cases h
    refine sM he ?_
    simp only [he.ne, Bool.not_false, cond_true]
    exact hq

theorem aKj {t : aO} {l : List aD} {e : Int} (h : Stat t l e) {r p : Int} {Q : (Option aY × aB × Int) → Prop} (hq : Q (none, ⟨r, p⟩, e)) : mE t l r p Q := by
  unfold mE
  refine sM h ?_
  simp only [h.ne, cond_false]
  exact ⟨_, rfl, hq⟩
theorem aJl {t : aO} {l : List aD} {d : List Int} (h : Good t l d) {r p : Int} {Q : (Option aY × aB × Int) → Prop} (hq : ∀ won, WonIs won (eR d (Res l)) → Q (some ⟨t, d, won⟩, ⟨r, p⟩, bif gD t r p then 0 else 1)) : mE t l r p Q := by
  unfold mE
  refine rD h fun won hW => ?_
  have := hq won hW
  simp only [decide_true, cond_true, aJd h.ht, Option.bind_some]
  refine ⟨_, rfl, ?_⟩
  cases hm : gD t r p with
  | true => rw [hm] at this; exact this
  | false => rw [hm] at this; exact this
theorem aAc {t : aO} {l : List aD} {e : Int} (h : Stat t l e) (r p : Int) : iE t l r p = some e := by
  unfold iE
  rw [nE h, Option.bind_some]
  simp only [h.ne, Bool.not_false, cond_true]
theorem sV {t : aO} {l : List aD} {d : List Int} (h : Good t l d) (r p : Int) : iE t l r p = some (bif gD t r p then 0 else 1) := by
  unfold iE
  rw [mA h, Option.bind_some]
  simp only [decide_true, Bool.not_true, cond_false, uF h.ht, Option.bind_some]
  cases gD t r p <;> rfl
theorem uU {t : aO} {r p : Int} (h : gD t r p = true) : ∃ r' p' : Nat, r = r' ∧ p = p' ∧ r' < t.Rounds.toNat ∧ p' < cD t r' := by
  simp only [gD, Bool.and_eq_true, iP] at h
  refine ⟨r.toNat, p.toNat, by omega, by omega, by omega, ?_⟩
  have e : ((r.toNat : Nat) : Int) = r := by omega
  rw [e]; omega
end Go.Am
