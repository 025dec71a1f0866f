/- Layer 7, plain: Check, Bouts and Winner are those of the reference. -/
import Derived.Test.YtenffgkkeafnpaaBrPlain10
namespace Go.Am

/-- A valid tree with valid slips that agree. -/
structure Good (t : aO) (l : List aD) (d : List Int) : Prop where
  tree : rH t = true
  len : l.length ≤ 60
  slips : ∀ s ∈ l, eD t s = true
  agr : AGR t l d
/-- The error of a tree and slips. -/
inductive Stat (t : aO) (l : List aD) : Int → Prop
  | s70 : rH t = false → Stat t l 70
  | s71 : rH t = true → (60 < l.length ∨ ∃ s ∈ l, eD t s = false) → Stat t l 71
  | s72 : rH t = true → l.length ≤ 60 → (∀ s ∈ l, eD t s = true) → (∀ d, ¬ AGR t l d) → Stat t l 72
theorem Stat.ne {t : aO} {l : List aD} {e : Int} (h : Stat t l e) : decide (e = 0) = false := by cases h <;> rfl
theorem oO (t : aO) (l : List aD) : (∃ d, Good t l d) ∨ ∃ e, Stat t l e := by
  cases ht : rH t with
  | false => exact .inr ⟨70, .s70 ht⟩
  | true =>
    by_cases hl : 60 < l.length
    · exact .inr ⟨71, .s71 ht (.inl hl)⟩
    · by_cases hs : ∃ s ∈ l, eD t s = false
      · exact .inr ⟨71, .s71 ht (.inr hs)⟩
      · have hs' : ∀ s ∈ l, eD t s = true := fun s hm => by
          cases h : eD t s with
          | true => rfl
          | false => exact absurd ⟨s, hm, h⟩ hs
        by_cases hd : ∃ d, AGR t l d
        · obtain ⟨d, hd⟩ := hd
          exact .inl ⟨d, ht, by omega, hs', hd⟩
        · exact .inr ⟨72, .s72 ht (by omega) hs' fun d h => hd ⟨d, h⟩⟩
theorem Good.ht {t : aO} {l : List aD} {d : List Int} (h : Good t l d) : TreeOK t := nT h.tree
theorem Good.dok {t : aO} {l : List aD} {d : List Int} (h : Good t l d) : DOK t d := vO h.ht h.slips h.agr.1
theorem Good.uniq {t : aO} {l : List aD} {d d' : List Int} (h : Good t l d) (h' : Good t l d') : d = d' := by
  have := h.agr.1
  rw [h'.agr.1] at this
  exact (Option.some.inj this).symm

theorem tE {t : aO} {l : List aD} {e : Int} (h : Stat t l e) {Q : (Option aZ × Int) → Prop} (hq : Q (none, e)) : gM t l Q := by
  unfold gM
  refine ⟨_, aBp t, ?_⟩
  cases h with
  | s70 ht => simp only [ht, Bool.not_false, cond_true]; exact hq
  | s71 ht hs =>
    simp only [ht, Bool.not_true, cond_false]
    by_cases hl : 60 < l.length
    · have : decide (60 < (l.length : Int)) = true := decide_eq_true (by omega)
      simp only [this, cond_true]
      exact ⟨_, rfl, hq⟩
    · have : decide (60 < (l.length : Int)) = false := decide_eq_false (by omega)
      simp only [this, cond_false]
      rw [mM l (by omega) _ (fun s => !eD t s) fun x _ => by simp [kX, wS (nT ht)]]
      refine ⟨_, rfl, ?_⟩
      have : (l.any fun s => !eD t s) = true := by
        rcases hs with h | ⟨s, h1, h2⟩
        · exact absurd h hl
        · rw [List.any_eq_true]; exact ⟨s, h1, by rw [h2]; rfl⟩
      simp only [this, cond_true]; exact hq
  | s72 ht hl hs hno =>
    have : decide (60 < (l.length : Int)) = false := decide_eq_false (by omega)
    simp only [ht, Bool.not_true, cond_false, this]
    rw [mM l (by omega) _ (fun s => !eD t s) fun x _ => by simp [kX, wS (nT ht)]]
    refine ⟨_, rfl, ?_⟩
    have : (l.any fun s => !eD t s) = false := by
      rw [List.any_eq_false]; intro s hm; rw [hs s hm]; simp
    simp only [this, cond_false]
    exact zL (nT ht) hs (by omega) (fun d hd => absurd hd (hno d)) fun _ => hq
theorem rQ {t : aO} {l : List aD} {d : List Int} (h : Good t l d) {Q : (Option aZ × Int) → Prop} (hq : ∀ won, WonIs won (dC d (Res l)) → Q (some ⟨t, d, won⟩, 0)) : gM t l Q := by
  unfold gM
  have hl := h.len
  have : decide (60 < (l.length : Int)) = false := decide_eq_false (by omega)
  refine ⟨_, aBp t, ?_⟩
  simp only [h.tree, Bool.not_true, cond_false, this]
  rw [mM l (by omega) _ (fun s => !eD t s) fun x _ => by simp [kX, wS h.ht]]
  refine ⟨_, rfl, ?_⟩
  have : (l.any fun s => !eD t s) = false := by
    rw [List.any_eq_false]; intro s hm; rw [h.slips s hm]; simp
  simp only [this, cond_false]
  refine zL h.ht h.slips (by omega) (fun d' hd won hW => ?_) fun hno => absurd h.agr (hno d)
  have := h.uniq ⟨h.tree, h.len, h.slips, hd⟩
  subst this
  exact hq won hW

theorem tY {t : aO} (ht : TreeOK t) {l : List aD} (hl : l.length ≤ 60) : fD l t BIG 0 = bif l.all (eD t) then hZ l t else some 71 := by
  have := vI (fun k i => fD l t k i) l.length (fun i => l[i]?.any (eD t)) (some 71) (hZ l t) ?_ ?_ BIG (cU (by omega))
  · rw [this]
    have e : (List.range l.length).all (fun i => l[i]?.any (eD t)) = l.all (eD t) := by
      rw [Bool.eq_iff_iff, pN, List.all_eq_true]
      constructor
      · intro h x hx
        obtain ⟨i, hi, rfl⟩ := List.mem_iff_getElem.1 hx
        have := h i hi
        rwa [List.getElem?_eq_getElem hi] at this
      · intro h i hi
        rw [List.getElem?_eq_getElem hi]
        exact h _ (List.getElem_mem hi)
    rw [e]
  · intro k i hi
    simp only [fD, Int.ofNat_lt, hi, decide_true, cond_true, cI hi, Option.bind_some, aGb ht, cF (show i < 9223372036854775807 by omega), List.getElem?_eq_getElem hi, Option.any_some]
    cases eD t l[i] <;> rfl
  · intro k
    have hlt : decide ((l.length : Int) < (l.length : Int)) = false := decide_eq_false (by omega)
    simp only [fD, hlt, cond_false]
theorem pL {t : aO} {l : List aD} {e : Int} (h : Stat t l e) : dS t l = some e := by
  unfold dS
  rw [aBf, Option.bind_some]
  cases h with
  | s70 ht => simp only [ht, Bool.not_false, cond_true]
  | s71 ht hs =>
    simp only [ht, Bool.not_true, cond_false]
    by_cases hl : 60 < l.length
    · have : decide (60 < (l.length : Int)) = true := decide_eq_true (by omega)
      simp only [this, cond_true]
    · have : decide (60 < (l.length : Int)) = false := decide_eq_false (by omega)
      have h2 : l.all (eD t) = false := by
        rcases hs with h | ⟨s, h1, h2⟩
        · exact absurd h hl
        · rw [List.all_eq_false]; exact ⟨s, h1, by simp [h2]⟩
      simp only [this, cond_false, tY (nT ht) (show l.length ≤ 60 by omega), h2]
  | s72 ht hl hs hno =>
    have : decide (60 < (l.length : Int)) = false := decide_eq_false (by omega)
    have h2 : l.all (eD t) = true := by rw [List.all_eq_true]; exact hs
    simp only [ht, Bool.not_true, cond_false, this, tY (nT ht) hl, h2, cond_true, hZ, (aBi (nT ht) hs (by omega)).2 hno, Option.bind_some, Bool.not_false]
theorem oC {t : aO} {l : List aD} {d : List Int} (h : Good t l d) : ∃ must, dF t l = some (⟨d, must⟩, true) ∧ MustIs t must (dC d (Res l)) :=
  (aBi h.ht h.slips (by have := h.len; omega)).1 d h.agr
theorem mL {t : aO} {l : List aD} {d : List Int} (h : Good t l d) : dS t l = some 0 := by
  have hl := h.len
  have : decide (60 < (l.length : Int)) = false := decide_eq_false (by omega)
  have h2 : l.all (eD t) = true := by rw [List.all_eq_true]; exact h.slips
  obtain ⟨must, hd, _⟩ := oC h
  unfold dS
  rw [aBf, Option.bind_some]
  simp only [h.tree, Bool.not_true, cond_false, this, tY h.ht hl, h2, cond_true, hZ, hd, Option.bind_some]

/-! What is known of a match. -/
theorem yZ {t : aO} {won : List (aB × Int)} {must : List (List Int)} {P : iR} (hW : WonIs won P) (hM : MustIs t must P) {r p : Nat} (hr : r < t.Rounds.toNat) (hp : p < cD t r) :
    cR (⟨r, p⟩ : aB) won = !decide (mat must r p = -2) := by
  rw [Bool.eq_iff_iff, hW.has, Bool.not_eq_true', decide_eq_false_iff_not]
  constructor
  · rintro ⟨v, hv⟩
    have := (hM.mem r p v hr hp).2 hv
    rw [this.1]; exact this.2
  · exact fun h => ⟨_, (hM.mem r p _ hr hp).1 ⟨rfl, h⟩⟩
theorem yY {t : aO} {won : List (aB × Int)} {must : List (List Int)} {P : iR} (hW : WonIs won P) (hM : MustIs t must P) {r p : Nat} (hr : r < t.Rounds.toNat) (hp : p < cD t r) (h : mat must r p ≠ -2) (z : Int) :
    cK (⟨r, p⟩ : aB) z won = mat must r p := hW.get ((hM.mem r p _ hr hp).1 ⟨rfl, h⟩)
theorem aFb {t : aO} {must : List (List Int)} {P : iR} (hM : MustIs t must P) {r p : Nat} (hr : r < t.Rounds.toNat) (hp : p < cD t r) : ((idx must (r : Int)).bind fun x => idx x (p : Int)) = some (mat must r p) := by
  have hl := hM.len
  have hrow := hM.row r hr
  have hrl : r < must.length := by omega
  rw [cI hrl, Option.bind_some]
  unfold mat
  rw [bJ hrl] at hrow ⊢
  have hp' : p < must[r].length := by omega
  rw [cI hp', bJ hp']
theorem rC {t : aO} {r : Nat} (hr : r + 1 < t.Rounds.toNat) : cD t r = 2 * cD t ((r + 1 : Nat) : Int) := by
  unfold cD
  have e : t.Rounds.toNat - 1 - ((r : Nat) : Int).toNat = (t.Rounds.toNat - 1 - ((r + 1 : Nat) : Int).toNat) + 1 := by omega
  rw [e, Nat.pow_succ]; omega
/-- A side of a match. -/
def nR (d : List Int) (must : List (List Int)) (r at' : Nat) : Int := if r = 0 then d.getD at' 0 else mat must (r - 1) at'

section
variable {t : aO} (ht : TreeOK t) {d : List Int} (hD : DOK t d) {must : List (List Int)} {P : iR} (hM : MustIs t must P) {won : List (aB × Int)} (hW : WonIs won P)
include ht hD hM
theorem aHw {r p s : Nat} (hr : r < t.Rounds.toNat) (hp : p < cD t r) (hs : s < 2) : oY ⟨d, must⟩ r p s = some (nR d must r (2 * p + s)) := by
  have hpl := kU ht (r := (r : Int))
  have h5 := ht.r5
  have w1 : w64 (2 * (p : Int)) = ((2 * p : Nat) : Int) := by rw [eZ (by omega) (by omega)]; omega
  have w2 : w64 (((2 * p : Nat) : Int) + (s : Int)) = ((2 * p + s : Nat) : Int) := by rw [eZ (by omega) (by omega)]; omega
  unfold oY nR
  simp only [w1, w2]
  by_cases h0 : r = 0
  · subst h0
    have hp0 := sQ ht
    have hlen := hD.len
    have hpl2 : p < cD t 0 := hp
    have hi : 2 * p + s < d.length := by omega
    simp only [Int.natCast_zero, decide_true, cond_true, cI hi, Option.bind_some, if_true, bJ hi]
  · have hr0 : decide ((r : Int) = 0) = false := decide_eq_false (by omega)
    have hw : w64 ((r : Int) - 1) = ((r - 1 : Nat) : Int) := zG (by omega) (by omega)
    have hph := rC (t := t) (r := r - 1) (by omega)
    have e : r - 1 + 1 = r := by omega
    rw [e] at hph
    have := aFb hM (r := r - 1) (p := 2 * p + s) (by omega) (by omega)
    simp only [hr0, cond_false, hw, if_neg h0]
    rw [← this]
    congr 1
    funext x
    cases idx x ((2 * p + s : Nat) : Int) <;> rfl
include hW
theorem aFj {r p s : Nat} (hr : r < t.Rounds.toNat) (hp : p < cD t r) (hs : s < 2) : iY ⟨t, d, won⟩ ⟨r, p⟩ s = some (nR d must r (2 * p + s)) := by
  have hpl := kU ht (r := (r : Int))
  have h5 := ht.r5
  have w1 : w64 (2 * (p : Int)) = ((2 * p : Nat) : Int) := by rw [eZ (by omega) (by omega)]; omega
  have w2 : w64 (((2 * p : Nat) : Int) + (s : Int)) = ((2 * p + s : Nat) : Int) := by rw [eZ (by omega) (by omega)]; omega
  unfold iY nR
  simp only [w1, w2]
  by_cases h0 : r = 0
  · subst h0
    have hp0 := sQ ht
    have hlen := hD.len
    have hpl2 : p < cD t 0 := hp
    have hi : 2 * p + s < d.length := by omega
    simp only [Int.natCast_zero, decide_true, cond_true, cI hi, Option.bind_some, if_true, bJ hi]
  · have hr0 : decide ((r : Int) = 0) = false := decide_eq_false (by omega)
    have hw : w64 ((r : Int) - 1) = ((r - 1 : Nat) : Int) := zG (by omega) (by omega)
    have hph := rC (t := t) (r := r - 1) (by omega)
    have e : r - 1 + 1 = r := by omega
    rw [e] at hph
    simp only [hr0, cond_false, hw, if_neg h0]
    have h1 : r - 1 < t.Rounds.toNat := by omega
    have h2 : 2 * p + s < cD t ((r - 1 : Nat) : Int) := by omega
    rw [yZ hW hM h1 h2]
    by_cases hm : mat must (r - 1) (2 * p + s) = -2
    · simp only [hm, decide_true, Bool.not_true, cond_false]
    · simp only [hm, decide_false, Bool.not_false, cond_true, yY hW hM h1 h2 hm]
omit ht hD hM hW
/-- The matches of a round, with their players. -/
def mI (t : aO) (d : List Int) (must : List (List Int)) (r : Nat) : List bZ := (List.range (cD t r)).map fun p : Nat => ⟨r, p, nR d must r (2 * p), nR d must r (2 * p + 1)⟩
def wJ (t : aO) (d : List Int) (must : List (List Int)) : List bZ := (List.range t.Rounds.toNat).flatMap (mI t d must)
theorem pS {α : Type} (f : Nat → List α) (n : Nat) : (List.range (n + 1)).flatMap f = (List.range n).flatMap f ++ f n := by
  rw [List.range_succ, List.flatMap_append]; simp
include ht
theorem aIs (r : Nat) : (mI t d must r).length ≤ 16 := by
  have := kU ht (r := (r : Int))
  simpa [mI] using this
theorem wH : ∀ r, ((List.range r).flatMap (mI t d must)).length ≤ 16 * r
  | 0 => by simp
  | r + 1 => by
    have h1 := wH r
    have h2 := aIs ht (d := d) (must := must) r
    rw [pS, List.length_append]; omega
include hD hM
theorem aHd : pC t ⟨d, must⟩ = some (wJ t d must) := by
  have h1 := ht.r1
  have h5 := ht.r5
  unfold pC
  have := fB (S := List bZ) (fun k r out => eM t ⟨d, must⟩ k r out) t.Rounds.toNat (fun _ _ => some (wJ t d must)) (fun r out => out = (List.range r).flatMap (mI t d must)) ?_ ?_ BIG [] (cU (by omega)) (by simp)
  · exact this
  · rintro k r out hr rfl ih
    have hfl := wH ht (d := d) (must := must) r
    have hpl := kU ht (r := (r : Int))
    have hlt : decide ((r : Int) < t.Rounds) = true := decide_eq_true (by omega)
    have hin : iA (eM t ⟨d, must⟩ k) r t ⟨d, must⟩ BIG 0 ((List.range r).flatMap (mI t d must)) = lI (eM t ⟨d, must⟩ k) r t ⟨d, must⟩ ((List.range r).flatMap (mI t d must) ++ mI t d must r) := by
      have hP := tM ht (r := (r : Int)) (by omega) (by omega)
      refine fB (S := List bZ) (fun q p out => iA (eM t ⟨d, must⟩ k) r t ⟨d, must⟩ q p out) (cD t r) (fun _ _ => lI (eM t ⟨d, must⟩ k) r t ⟨d, must⟩ ((List.range r).flatMap (mI t d must) ++ mI t d must r))
        (fun p out => out = (List.range r).flatMap (mI t d must) ++ (List.range p).map fun p : Nat => (⟨r, p, nR d must r (2 * p), nR d must r (2 * p + 1)⟩ : bZ)) ?_ ?_ BIG _ (cU (by omega)) (by simp)
      · rintro q p out hp rfl ih2
        simp only [iA, hP, Option.bind_some, Int.ofNat_lt, hp, decide_true, cond_true, cF (show p < 9223372036854775807 by omega)]
        have e0 := aHw ht hD hM hr hp (s := 0) (by omega)
        have e1 := aHw ht hD hM hr hp (s := 1) (by omega)
        simp only [Int.natCast_zero, Int.natCast_one, Nat.add_zero] at e0 e1
        rw [e0, Option.bind_some, e1, Option.bind_some, iG (by simp only [List.length_append, List.length_map, List.length_range, List.length_cons, List.length_nil]; omega), Option.bind_some]
        refine ih2 _ ?_
        rw [List.range_succ, List.map_append, List.append_assoc]; rfl
      · rintro q out rfl
        have hlt : decide ((cD t r : Int) < (cD t r : Int)) = false := decide_eq_false (by omega)
        simp only [iA, hP, Option.bind_some, hlt, cond_false, mI]
    simp only [eM, hlt, cond_true, hin, lI, qM, cF (show r < 9223372036854775807 by omega)]
    exact ih _ (pS _ _).symm
  · rintro k out rfl
    have hlt : decide (((t.Rounds.toNat : Nat) : Int) < t.Rounds) = false := decide_eq_false (by omega)
    simp only [eM, hlt, cond_false, qL]
    rfl
include hW
/-- What a loop over the matches does. -/
theorem aGf {S : Type} (y : S → aB → bZ → Option S) (f : List bZ → S) (good : List bZ → Prop)
    (hy : ∀ (out : List bZ) (r p : Nat), r < t.Rounds.toNat → p < cD t r → out.length ≤ 200 → y (f out) ⟨r, p⟩ ⟨r, p, nR d must r (2 * p), nR d must r (2 * p + 1)⟩ = some (f (out ++ [⟨r, p, nR d must r (2 * p), nR d must r (2 * p + 1)⟩]))) :
    iS ⟨t, d, won⟩ y (f []) = some (f (wJ t d must)) := by
  have h1 := ht.r1
  have h5 := ht.r5
  unfold iS
  have := fB (S := S) (fun k r out => cS y ⟨t, d, won⟩ t.Rounds k r out) t.Rounds.toNat (fun _ _ => some (f (wJ t d must))) (fun r out => out = f ((List.range r).flatMap (mI t d must))) ?_ ?_ BIG (f []) (cU (by omega)) (by simp)
  · exact this
  · rintro k r out hr rfl ih
    have hfl := wH ht (d := d) (must := must) r
    have hpl := kU ht (r := (r : Int))
    have hlt : decide ((r : Int) < t.Rounds) = true := decide_eq_true (by omega)
    have hch : chk (decide (0 ≤ w64 ((r : Int) + 1))) = some () := by
      rw [cF (by omega)]; unfold chk; rw [decide_eq_true (by omega)]; rfl
    have hin : eF y (cS y ⟨t, d, won⟩ t.Rounds k) ⟨t, d, won⟩ r t.Rounds r (cD t r) BIG 0 (f ((List.range r).flatMap (mI t d must))) =
        gX y (cS y ⟨t, d, won⟩ t.Rounds k) ⟨t, d, won⟩ t.Rounds r (f ((List.range r).flatMap (mI t d must) ++ mI t d must r)) := by
      refine fB (S := S) (fun q p out => eF y (cS y ⟨t, d, won⟩ t.Rounds k) ⟨t, d, won⟩ r t.Rounds r (cD t r) q p out) (cD t r) (fun _ _ => gX y (cS y ⟨t, d, won⟩ t.Rounds k) ⟨t, d, won⟩ t.Rounds r (f ((List.range r).flatMap (mI t d must) ++ mI t d must r)))
        (fun p out => out = f ((List.range r).flatMap (mI t d must) ++ (List.range p).map fun p : Nat => (⟨r, p, nR d must r (2 * p), nR d must r (2 * p + 1)⟩ : bZ))) ?_ ?_ BIG _ (cU (by omega)) (by simp)
      · rintro q p out hp rfl ih2
        have e0 := aFj ht hD hM hW hr hp (s := 0) (by omega)
        have e1 := aFj ht hD hM hW hr hp (s := 1) (by omega)
        simp only [Int.natCast_zero, Int.natCast_one, Nat.add_zero] at e0 e1
        simp only [eF, Int.ofNat_lt, hp, decide_true, cond_true, cF (show p < 9223372036854775807 by omega), e0, e1, Option.bind_some]
        rw [hy _ r p hr hp (by simp only [List.length_append, List.length_map, List.length_range, List.length_cons, List.length_nil]; omega), Option.bind_some]
        refine ih2 _ ?_
        rw [List.range_succ, List.map_append, List.append_assoc]; rfl
      · rintro q out rfl
        have hlt : decide ((cD t r : Int) < (cD t r : Int)) = false := decide_eq_false (by omega)
        simp only [eF, hlt, cond_false, mI]
    simp only [cS, hlt, cond_true, hch, Option.bind_some, aFi ht (r := (r : Int)) (by omega) (by omega), hin, gX, lM]
    rw [cF (show r < 9223372036854775807 by omega)]
    exact ih _ (congrArg f (pS _ _)).symm
  · rintro k out rfl
    have hlt : decide (((t.Rounds.toNat : Nat) : Int) < t.Rounds) = false := decide_eq_false (by omega)
    simp only [cS, hlt, cond_false, lL]
    rfl
end

theorem aHb (t : aO) (l : List aD) {r : Int} (h : dS t l = some r) (Q : Int → Prop) (hq : Q r) : mZ t l Q := by
  unfold mZ
  rcases oO t l with ⟨d, hg⟩ | ⟨e, he⟩
  · rw [mL hg] at h; cases h
    exact rQ hg fun won _ => hq
  · rw [pL he] at h; cases h
    exact tE he hq
theorem aFo {t : aO} {l : List aD} {d : List Int} (h : Good t l d) {must : List (List Int)} (hd : dF t l = some (⟨d, must⟩, true)) (hM : MustIs t must (dC d (Res l))) : jP t l = some (wJ t d must, 0) := by
  unfold jP
  rw [mL h, Option.bind_some]
  simp only [decide_true, Bool.not_true, cond_false, hd, Option.bind_some, aHd h.ht h.dok hM]
theorem aGz {t : aO} {l : List aD} {e : Int} (h : Stat t l e) : jP t l = some ([], e) := by
  unfold jP
  rw [pL h, Option.bind_some]
  simp only [h.ne, Bool.not_false, cond_true]
theorem aHa (t : aO) (l : List aD) {r : List bZ × Int} (h : jP t l = some r) (Q : List bZ × Int → Prop) (hq : Q r) : mY t l Q := by
  unfold mY
  rcases oO t l with ⟨d, hg⟩ | ⟨e, he⟩
  · obtain ⟨must, hd, hM⟩ := oC hg
    rw [aFo hg hd hM] at h; cases h
    refine rQ hg fun won hW => ?_
    simp only [decide_true, Bool.not_true, cond_false]
    refine ⟨_, rfl, _, ?_, hq⟩
    refine aGf hg.ht hg.dok hM hW _ (fun x => x) (fun _ => True) fun out r p hr hp hl => ?_
    rw [iG (by simp; omega)]; rfl
  · rw [aGz he] at h; cases h
    refine tE he ?_
    simp only [he.ne, Bool.not_false, cond_true]
    exact hq

theorem aLo {t : aO} {l : List aD} {e : Int} (h : Stat t l e) {r p : Int} {Q : (Option aZ × aB × Int) → Prop} (hq : Q (none, ⟨r, p⟩, e)) : mP t l r p Q := by
  unfold mP
  refine tE h ?_
  simp only [h.ne, cond_false]
  exact ⟨_, rfl, hq⟩
theorem aKp {t : aO} {l : List aD} {d : List Int} (h : Good t l d) {r p : Int} {Q : (Option aZ × aB × Int) → Prop} (hq : ∀ won, WonIs won (dC d (Res l)) → Q (some ⟨t, d, won⟩, ⟨r, p⟩, bif gT t r p then 0 else 1)) : mP t l r p Q := by
  unfold mP
  refine rQ h fun won hW => ?_
  have := hq won hW
  simp only [decide_true, cond_true, aKg h.ht, Option.bind_some]
  refine ⟨_, rfl, ?_⟩
  cases hm : gT t r p with
  | true => rw [hm] at this; exact this
  | false => rw [hm] at this; exact this
theorem aAx {t : aO} {l : List aD} {e : Int} (h : Stat t l e) (r p : Int) : iM t l r p = some e := by
  unfold iM
  rw [pL h, Option.bind_some]
  simp only [h.ne, Bool.not_false, cond_true]
theorem tN {t : aO} {l : List aD} {d : List Int} (h : Good t l d) (r p : Int) : iM t l r p = some (bif gT t r p then 0 else 1) := by
  unfold iM
  rw [mL h, Option.bind_some]
  simp only [decide_true, Bool.not_true, cond_false, zH h.ht, Option.bind_some]
  cases gT t r p <;> rfl
theorem aAc {t : aO} {r p : Int} (h : gT t r p = true) : ∃ r' p' : Nat, r = r' ∧ p = p' ∧ r' < t.Rounds.toNat ∧ p' < cD t r' := by
  simp only [gT, Bool.and_eq_true, gU] at h
  refine ⟨r.toNat, p.toNat, by omega, by omega, by omega, ?_⟩
  have e : ((r.toNat : Nat) : Int) = r := by omega
  rw [e]; omega
end Go.Am
