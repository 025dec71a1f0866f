/- Layer 7, plain: Check, Bouts and Winner are those of the reference. -/
import Derived.Test.YtenffgkkeafnpaaBrPlain10
namespace Go.Am

/-- A valid tree with valid slips that agree. -/
structure Good (t : aN) (l : List aE) (d : List Int) : Prop where
  tree : rJ t = true
  len : l.length ≤ 60
  slips : ∀ s ∈ l, fC t s = true
  agr : AGR t l d
/-- The error of a tree and slips. -/
inductive Stat (t : aN) (l : List aE) : Int → Prop
  | s70 : rJ t = false → Stat t l 70
  | s71 : rJ t = true → (60 < l.length ∨ ∃ s ∈ l, fC t s = false) → Stat t l 71
  | s72 : rJ t = true → l.length ≤ 60 → (∀ s ∈ l, fC t s = true) → (∀ d, ¬ AGR t l d) → Stat t l 72
theorem Stat.ne {t : aN} {l : List aE} {e : Int} (h : Stat t l e) : decide (e = 0) = false := by cases h <;> rfl
theorem jW (t : aN) (l : List aE) : (∃ d, Good t l d) ∨ ∃ e, Stat t l e := by
  cases ht : rJ t with
  | false => exact .inr ⟨70, .s70 ht⟩
  | true =>
    by_cases hl : 60 < l.length
    · exact .inr ⟨71, .s71 ht (.inl hl)⟩
    · by_cases hs : ∃ s ∈ l, fC t s = false
      · exact .inr ⟨71, .s71 ht (.inr hs)⟩
      · have hs' : ∀ s ∈ l, fC t s = true := fun s hm => by
          cases h : fC t s with
          | true => rfl
          | false => exact absurd ⟨s, hm, h⟩ hs
        by_cases hd : ∃ d, AGR t l d
        · obtain ⟨d, hd⟩ := hd
          exact .inl ⟨d, ht, by omega, hs', hd⟩
        · exact .inr ⟨72, .s72 ht (by omega) hs' fun d h => hd ⟨d, h⟩⟩
theorem Good.ht {t : aN} {l : List aE} {d : List Int} (h : Good t l d) : TreeOK t := oB h.tree
theorem Good.dok {t : aN} {l : List aE} {d : List Int} (h : Good t l d) : DOK t d := vQ h.ht h.slips h.agr.1
theorem Good.uniq {t : aN} {l : List aE} {d d' : List Int} (h : Good t l d) (h' : Good t l d') : d = d' := by
  have := h.agr.1
  rw [h'.agr.1] at this
  exact (Option.some.inj this).symm

theorem rC {t : aN} {l : List aE} {e : Int} (h : Stat t l e) {Q : (Option bA × Int) → Prop} (hq : Q (none, e)) : gD t l Q := by
  unfold gD
  refine ⟨_, aCa t, ?_⟩
  cases h with
  | s70 ht => simp only [ht, Bool.not_false, cond_true]; exact hq
  | s71 ht hs =>
    simp only [ht, Bool.not_true, cond_false]
    by_cases hl : 60 < l.length
    · have : decide (60 < (l.length : Int)) = true := decide_eq_true (by omega)
      simp only [this, cond_true]
      exact ⟨_, rfl, hq⟩
    · have : decide (60 < (l.length : Int)) = false := decide_eq_false (by omega)
      simp only [this, cond_false]
      rw [mR l (by omega) _ (fun s => !fC t s) fun x _ => by simp [kU, wO (oB ht)]]
      refine ⟨_, rfl, ?_⟩
      have : (l.any fun s => !fC t s) = true := by
        rcases hs with h | ⟨s, h1, h2⟩
        · exact absurd h hl
        · rw [List.any_eq_true]; exact ⟨s, h1, by rw [h2]; rfl⟩
      simp only [this, cond_true]; exact hq
  | s72 ht hl hs hno =>
    have : decide (60 < (l.length : Int)) = false := decide_eq_false (by omega)
    simp only [ht, Bool.not_true, cond_false, this]
    rw [mR l (by omega) _ (fun s => !fC t s) fun x _ => by simp [kU, wO (oB ht)]]
    refine ⟨_, rfl, ?_⟩
    have : (l.any fun s => !fC t s) = false := by
      rw [List.any_eq_false]; intro s hm; rw [hs s hm]; simp
    simp only [this, cond_false]
    exact zN (oB ht) hs (by omega) (fun d hd => absurd hd (hno d)) fun _ => hq
theorem pU {t : aN} {l : List aE} {d : List Int} (h : Good t l d) {Q : (Option bA × Int) → Prop} (hq : ∀ won, WonIs won (fL d (Res l)) → Q (some ⟨t, d, won⟩, 0)) : gD t l Q := by
  unfold gD
  have hl := h.len
  have : decide (60 < (l.length : Int)) = false := decide_eq_false (by omega)
  refine ⟨_, aCa t, ?_⟩
  simp only [h.tree, Bool.not_true, cond_false, this]
  rw [mR l (by omega) _ (fun s => !fC t s) fun x _ => by simp [kU, wO h.ht]]
  refine ⟨_, rfl, ?_⟩
  have : (l.any fun s => !fC t s) = false := by
    rw [List.any_eq_false]; intro s hm; rw [h.slips s hm]; simp
  simp only [this, cond_false]
  refine zN h.ht h.slips (by omega) (fun d' hd won hW => ?_) fun hno => absurd h.agr (hno d)
  have := h.uniq ⟨h.tree, h.len, h.slips, hd⟩
  subst this
  exact hq won hW

theorem tZ {t : aN} (ht : TreeOK t) {l : List aE} (hl : l.length ≤ 60) : fG l t BIG 0 = bif l.all (fC t) then iF l t else some 71 := by
  have := pO (fun k i => fG l t k i) l.length (fun i => l[i]?.any (fC t)) (some 71) (iF l t) ?_ ?_ BIG (cX (by omega))
  · rw [this]
    have e : (List.range l.length).all (fun i => l[i]?.any (fC t)) = l.all (fC t) := by
      rw [Bool.eq_iff_iff, pV, List.all_eq_true]
      constructor
      · intro h x hx
        obtain ⟨i, hi, rfl⟩ := List.mem_iff_getElem.1 hx
        have := h i hi
        rwa [List.getElem?_eq_getElem hi] at this
      · intro h i hi
        rw [List.getElem?_eq_getElem hi]
        exact h _ (List.getElem_mem hi)
    rw [e]
  · intro k i hi
    simp only [fG, Int.ofNat_lt, hi, decide_true, cond_true, cL hi, Option.bind_some, aGl ht, cJ (show i < 9223372036854775807 by omega), List.getElem?_eq_getElem hi, Option.any_some]
    cases fC t l[i] <;> rfl
  · intro k
    have hlt : decide ((l.length : Int) < (l.length : Int)) = false := decide_eq_false (by omega)
    simp only [fG, hlt, cond_false]
theorem nY {t : aN} {l : List aE} {e : Int} (h : Stat t l e) : dJ t l = some e := by
  unfold dJ
  rw [aBn, Option.bind_some]
  cases h with
  | s70 ht => simp only [ht, Bool.not_false, cond_true]
  | s71 ht hs =>
    simp only [ht, Bool.not_true, cond_false]
    by_cases hl : 60 < l.length
    · have : decide (60 < (l.length : Int)) = true := decide_eq_true (by omega)
      simp only [this, cond_true]
    · have : decide (60 < (l.length : Int)) = false := decide_eq_false (by omega)
      have h2 : l.all (fC t) = false := by
        rcases hs with h | ⟨s, h1, h2⟩
        · exact absurd h hl
        · rw [List.all_eq_false]; exact ⟨s, h1, by simp [h2]⟩
      simp only [this, cond_false, tZ (oB ht) (show l.length ≤ 60 by omega), h2]
  | s72 ht hl hs hno =>
    have : decide (60 < (l.length : Int)) = false := decide_eq_false (by omega)
    have h2 : l.all (fC t) = true := by rw [List.all_eq_true]; exact hs
    simp only [ht, Bool.not_true, cond_false, this, tZ (oB ht) hl, h2, cond_true, iF, (aBt (oB ht) hs (by omega)).2 hno, Option.bind_some, Bool.not_false]
theorem lQ {t : aN} {l : List aE} {d : List Int} (h : Good t l d) : ∃ must, dF t l = some (⟨d, must⟩, true) ∧ MustIs t must (fL d (Res l)) :=
  (aBt h.ht h.slips (by have := h.len; omega)).1 d h.agr
theorem mQ {t : aN} {l : List aE} {d : List Int} (h : Good t l d) : dJ t l = some 0 := by
  have hl := h.len
  have : decide (60 < (l.length : Int)) = false := decide_eq_false (by omega)
  have h2 : l.all (fC t) = true := by rw [List.all_eq_true]; exact h.slips
  obtain ⟨must, hd, _⟩ := lQ h
  unfold dJ
  rw [aBn, Option.bind_some]
  simp only [h.tree, Bool.not_true, cond_false, this, tZ h.ht hl, h2, cond_true, iF, hd, Option.bind_some]

/-! What is known of a match. -/
theorem vK {t : aN} {won : List (aB × Int)} {must : List (List Int)} {P : kJ} (hW : WonIs won P) (hM : MustIs t must P) {r p : Nat} (hr : r < t.Rounds.toNat) (hp : p < cI t r) :
    cR (⟨r, p⟩ : aB) won = !decide (mat must r p = -2) := by
  rw [Bool.eq_iff_iff, hW.has, Bool.not_eq_true', decide_eq_false_iff_not]
  constructor
  · rintro ⟨v, hv⟩
    have := (hM.mem r p v hr hp).2 hv
    rw [this.1]; exact this.2
  · exact fun h => ⟨_, (hM.mem r p _ hr hp).1 ⟨rfl, h⟩⟩
theorem yY {t : aN} {won : List (aB × Int)} {must : List (List Int)} {P : kJ} (hW : WonIs won P) (hM : MustIs t must P) {r p : Nat} (hr : r < t.Rounds.toNat) (hp : p < cI t r) (h : mat must r p ≠ -2) (z : Int) :
    cK (⟨r, p⟩ : aB) z won = mat must r p := hW.get ((hM.mem r p _ hr hp).1 ⟨rfl, h⟩)
theorem aBh {t : aN} {must : List (List Int)} {P : kJ} (hM : MustIs t must P) {r p : Nat} (hr : r < t.Rounds.toNat) (hp : p < cI t r) : ((idx must (r : Int)).bind fun x => idx x (p : Int)) = some (mat must r p) := by
  have hl := hM.len
  have hrow := hM.row r hr
  have hrl : r < must.length := by omega
  rw [cL hrl, Option.bind_some]
  unfold mat
  rw [bW hrl] at hrow ⊢
  have hp' : p < must[r].length := by omega
  rw [cL hp', bW hp']
theorem yI {t : aN} {r : Nat} (hr : r + 1 < t.Rounds.toNat) : cI t r = 2 * cI t ((r + 1 : Nat) : Int) := by
  unfold cI
  have e : t.Rounds.toNat - 1 - ((r : Nat) : Int).toNat = (t.Rounds.toNat - 1 - ((r + 1 : Nat) : Int).toNat) + 1 := by omega
  rw [e, Nat.pow_succ]; omega
/-- A side of a match. -/
def iD (d : List Int) (must : List (List Int)) (r at' : Nat) : Int := if r = 0 then d.getD at' 0 else mat must (r - 1) at'

section
variable {t : aN} (ht : TreeOK t) {d : List Int} (hD : DOK t d) {must : List (List Int)} {P : kJ} (hM : MustIs t must P) {won : List (aB × Int)} (hW : WonIs won P)
include ht hD hM
theorem aIh {r p s : Nat} (hr : r < t.Rounds.toNat) (hp : p < cI t r) (hs : s < 2) : lK ⟨d, must⟩ r p s = some (iD d must r (2 * p + s)) := by
  have hpl := kS ht (r := (r : Int))
  have h5 := ht.r5
  have w1 : w64 (2 * (p : Int)) = ((2 * p : Nat) : Int) := by rw [fE (by omega) (by omega)]; omega
  have w2 : w64 (((2 * p : Nat) : Int) + (s : Int)) = ((2 * p + s : Nat) : Int) := by rw [fE (by omega) (by omega)]; omega
  unfold lK iD
  simp only [w1, w2]
  by_cases h0 : r = 0
  · subst h0
    have hp0 := xP ht
    have hlen := hD.len
    have hpl2 : p < cI t 0 := hp
    have hi : 2 * p + s < d.length := by omega
    simp only [Int.natCast_zero, decide_true, cond_true, cL hi, Option.bind_some, if_true, bW hi]
  · have hr0 : decide ((r : Int) = 0) = false := decide_eq_false (by omega)
    have hw : w64 ((r : Int) - 1) = ((r - 1 : Nat) : Int) := zG (by omega) (by omega)
    have hph := yI (t := t) (r := r - 1) (by omega)
    have e : r - 1 + 1 = r := by omega
    rw [e] at hph
    have := aBh hM (r := r - 1) (p := 2 * p + s) (by omega) (by omega)
    simp only [hr0, cond_false, hw, if_neg h0]
    rw [← this]
    congr 1
    funext x
    cases idx x ((2 * p + s : Nat) : Int) <;> rfl
include hW
theorem aFv {r p s : Nat} (hr : r < t.Rounds.toNat) (hp : p < cI t r) (hs : s < 2) : jC ⟨t, d, won⟩ ⟨r, p⟩ s = some (iD d must r (2 * p + s)) := by
  have hpl := kS ht (r := (r : Int))
  have h5 := ht.r5
  have w1 : w64 (2 * (p : Int)) = ((2 * p : Nat) : Int) := by rw [fE (by omega) (by omega)]; omega
  have w2 : w64 (((2 * p : Nat) : Int) + (s : Int)) = ((2 * p + s : Nat) : Int) := by rw [fE (by omega) (by omega)]; omega
  unfold jC iD
  simp only [w1, w2]
  by_cases h0 : r = 0
  · subst h0
    have hp0 := xP ht
    have hlen := hD.len
    have hpl2 : p < cI t 0 := hp
    have hi : 2 * p + s < d.length := by omega
    simp only [Int.natCast_zero, decide_true, cond_true, cL hi, Option.bind_some, if_true, bW hi]
  · have hr0 : decide ((r : Int) = 0) = false := decide_eq_false (by omega)
    have hw : w64 ((r : Int) - 1) = ((r - 1 : Nat) : Int) := zG (by omega) (by omega)
    have hph := yI (t := t) (r := r - 1) (by omega)
    have e : r - 1 + 1 = r := by omega
    rw [e] at hph
    simp only [hr0, cond_false, hw, if_neg h0]
    have h1 : r - 1 < t.Rounds.toNat := by omega
    have h2 : 2 * p + s < cI t ((r - 1 : Nat) : Int) := by omega
    rw [vK hW hM h1 h2]
    by_cases hm : mat must (r - 1) (2 * p + s) = -2
    · simp only [hm, decide_true, Bool.not_true, cond_false]
    · simp only [hm, decide_false, Bool.not_false, cond_true, yY hW hM h1 h2 hm]
omit ht hD hM hW
/-- The matches of a round, with their players. -/
def mL (t : aN) (d : List Int) (must : List (List Int)) (r : Nat) : List bD := (List.range (cI t r)).map fun p : Nat => ⟨r, p, iD d must r (2 * p), iD d must r (2 * p + 1)⟩
def gP (t : aN) (d : List Int) (must : List (List Int)) : List bD := (List.range t.Rounds.toNat).flatMap (mL t d must)
theorem pZ {α : Type} (f : Nat → List α) (n : Nat) : (List.range (n + 1)).flatMap f = (List.range n).flatMap f ++ f n := by
  rw [List.range_succ, List.flatMap_append]; simp
include ht
theorem aJf (r : Nat) : (mL t d must r).length ≤ 16 := by
  have := kS ht (r := (r : Int))
  simpa [mL] using this
theorem wF : ∀ r, ((List.range r).flatMap (mL t d must)).length ≤ 16 * r
  | 0 => by simp
  | r + 1 => by
    have h1 := wF r
    have h2 := aJf ht (d := d) (must := must) r
    rw [pZ, List.length_append]; omega
include hD hM
theorem aBr : iK t ⟨d, must⟩ = some (gP t d must) := by
  have h1 := ht.r1
  have h5 := ht.r5
  unfold iK
  have := fB (S := List bD) (fun k r out => dP t ⟨d, must⟩ k r out) t.Rounds.toNat (fun _ _ => some (gP t d must)) (fun r out => out = (List.range r).flatMap (mL t d must)) ?_ ?_ BIG [] (cX (by omega)) (by simp)
  · exact this
  · rintro k r out hr rfl ih
    have hfl := wF ht (d := d) (must := must) r
    have hpl := kS ht (r := (r : Int))
    have hlt : decide ((r : Int) < t.Rounds) = true := decide_eq_true (by omega)
    have hin : fH (dP t ⟨d, must⟩ k) r t ⟨d, must⟩ BIG 0 ((List.range r).flatMap (mL t d must)) = jM (dP t ⟨d, must⟩ k) r t ⟨d, must⟩ ((List.range r).flatMap (mL t d must) ++ mL t d must r) := by
      have hP := tN ht (r := (r : Int)) (by omega) (by omega)
      refine fB (S := List bD) (fun q p out => fH (dP t ⟨d, must⟩ k) r t ⟨d, must⟩ q p out) (cI t r) (fun _ _ => jM (dP t ⟨d, must⟩ k) r t ⟨d, must⟩ ((List.range r).flatMap (mL t d must) ++ mL t d must r))
        (fun p out => out = (List.range r).flatMap (mL t d must) ++ (List.range p).map fun p : Nat => (⟨r, p, iD d must r (2 * p), iD d must r (2 * p + 1)⟩ : bD)) ?_ ?_ BIG _ (cX (by omega)) (by simp)
      · rintro q p out hp rfl ih2
        simp only [fH, hP, Option.bind_some, Int.ofNat_lt, hp, decide_true, cond_true, cJ (show p < 9223372036854775807 by omega)]
        have e0 := aIh ht hD hM hr hp (s := 0) (by omega)
        have e1 := aIh ht hD hM hr hp (s := 1) (by omega)
        simp only [Int.natCast_zero, Int.natCast_one, Nat.add_zero] at e0 e1
        rw [e0, Option.bind_some, e1, Option.bind_some, hC (by simp only [List.length_append, List.length_map, List.length_range, List.length_cons, List.length_nil]; omega), Option.bind_some]
        refine ih2 _ ?_
        rw [List.range_succ, List.map_append, List.append_assoc]; rfl
      · rintro q out rfl
        have hlt : decide ((cI t r : Int) < (cI t r : Int)) = false := decide_eq_false (by omega)
        simp only [fH, hP, Option.bind_some, hlt, cond_false, mL]
    simp only [dP, hlt, cond_true, hin, jM, nP, cJ (show r < 9223372036854775807 by omega)]
    exact ih _ (pZ _ _).symm
  · rintro k out rfl
    have hlt : decide (((t.Rounds.toNat : Nat) : Int) < t.Rounds) = false := decide_eq_false (by omega)
    simp only [dP, hlt, cond_false, nO]
    rfl
include hW
/-- What a loop over the matches does. -/
theorem aAg {S : Type} (y : S → aB → bD → Option S) (f : List bD → S) (good : List bD → Prop)
    (hy : ∀ (out : List bD) (r p : Nat), r < t.Rounds.toNat → p < cI t r → out.length ≤ 200 → y (f out) ⟨r, p⟩ ⟨r, p, iD d must r (2 * p), iD d must r (2 * p + 1)⟩ = some (f (out ++ [⟨r, p, iD d must r (2 * p), iD d must r (2 * p + 1)⟩]))) :
    fY ⟨t, d, won⟩ y (f []) = some (f (gP t d must)) := by
  have h1 := ht.r1
  have h5 := ht.r5
  unfold fY
  have := fB (S := S) (fun k r out => cY y ⟨t, d, won⟩ t.Rounds k r out) t.Rounds.toNat (fun _ _ => some (f (gP t d must))) (fun r out => out = f ((List.range r).flatMap (mL t d must))) ?_ ?_ BIG (f []) (cX (by omega)) (by simp)
  · exact this
  · rintro k r out hr rfl ih
    have hfl := wF ht (d := d) (must := must) r
    have hpl := kS ht (r := (r : Int))
    have hlt : decide ((r : Int) < t.Rounds) = true := decide_eq_true (by omega)
    have hch : chk (decide (0 ≤ w64 ((r : Int) + 1))) = some () := by
      rw [cJ (by omega)]; unfold chk; rw [decide_eq_true (by omega)]; rfl
    have hin : eE y (cY y ⟨t, d, won⟩ t.Rounds k) ⟨t, d, won⟩ r t.Rounds r (cI t r) BIG 0 (f ((List.range r).flatMap (mL t d must))) =
        hZ y (cY y ⟨t, d, won⟩ t.Rounds k) ⟨t, d, won⟩ t.Rounds r (f ((List.range r).flatMap (mL t d must) ++ mL t d must r)) := by
      refine fB (S := S) (fun q p out => eE y (cY y ⟨t, d, won⟩ t.Rounds k) ⟨t, d, won⟩ r t.Rounds r (cI t r) q p out) (cI t r) (fun _ _ => hZ y (cY y ⟨t, d, won⟩ t.Rounds k) ⟨t, d, won⟩ t.Rounds r (f ((List.range r).flatMap (mL t d must) ++ mL t d must r)))
        (fun p out => out = f ((List.range r).flatMap (mL t d must) ++ (List.range p).map fun p : Nat => (⟨r, p, iD d must r (2 * p), iD d must r (2 * p + 1)⟩ : bD))) ?_ ?_ BIG _ (cX (by omega)) (by simp)
      · rintro q p out hp rfl ih2
        have e0 := aFv ht hD hM hW hr hp (s := 0) (by omega)
        have e1 := aFv ht hD hM hW hr hp (s := 1) (by omega)
        simp only [Int.natCast_zero, Int.natCast_one, Nat.add_zero] at e0 e1
        simp only [eE, Int.ofNat_lt, hp, decide_true, cond_true, cJ (show p < 9223372036854775807 by omega), e0, e1, Option.bind_some]
        rw [hy _ r p hr hp (by simp only [List.length_append, List.length_map, List.length_range, List.length_cons, List.length_nil]; omega), Option.bind_some]
        refine ih2 _ ?_
        rw [List.range_succ, List.map_append, List.append_assoc]; rfl
      · rintro q out rfl
        have hlt : decide ((cI t r : Int) < (cI t r : Int)) = false := decide_eq_false (by omega)
        simp only [eE, hlt, cond_false, mL]
    simp only [cY, hlt, cond_true, hch, Option.bind_some, aFu ht (r := (r : Int)) (by omega) (by omega), hin, hZ, lI]
    rw [cJ (show r < 9223372036854775807 by omega)]
    exact ih _ (congrArg f (pZ _ _)).symm
  · rintro k out rfl
    have hlt : decide (((t.Rounds.toNat : Nat) : Int) < t.Rounds) = false := decide_eq_false (by omega)
    simp only [cY, hlt, cond_false, lH]
    rfl
end

theorem aHj (t : aN) (l : List aE) {r : Int} (h : dJ t l = some r) (Q : Int → Prop) (hq : Q r) : nG t l Q := by
  unfold nG
  rcases jW t l with ⟨d, hg⟩ | ⟨e, he⟩
  · rw [mQ hg] at h; cases h
    exact pU hg fun won _ => hq
  · rw [nY he] at h; cases h
    exact rC he hq
theorem zH {t : aN} {l : List aE} {d : List Int} (h : Good t l d) {must : List (List Int)} (hd : dF t l = some (⟨d, must⟩, true)) (hM : MustIs t must (fL d (Res l))) : eY t l = some (gP t d must, 0) := by
  unfold eY
  rw [mQ h, Option.bind_some]
  simp only [decide_true, Bool.not_true, cond_false, hd, Option.bind_some, aBr h.ht h.dok hM]
theorem aBm {t : aN} {l : List aE} {e : Int} (h : Stat t l e) : eY t l = some ([], e) := by
  unfold eY
  rw [nY h, Option.bind_some]
  simp only [h.ne, Bool.not_false, cond_true]
theorem aHi (t : aN) (l : List aE) {r : List bD × Int} (h : eY t l = some r) (Q : List bD × Int → Prop) (hq : Q r) : nF t l Q := by
  unfold nF
  rcases jW t l with ⟨d, hg⟩ | ⟨e, he⟩
  · obtain ⟨must, hd, hM⟩ := lQ hg
    rw [zH hg hd hM] at h; cases h
    refine pU hg fun won hW => ?_
    simp only [decide_true, Bool.not_true, cond_false]
    refine ⟨_, rfl, _, ?_, hq⟩
    refine aAg hg.ht hg.dok hM hW _ (fun x => x) (fun _ => True) fun out r p hr hp hl => ?_
    rw [hC (by simp; omega)]; rfl
  · rw [aBm he] at h; cases h
    refine rC he ?_
    simp only [he.ne, Bool.not_false, cond_true]
    exact hq

theorem aLq {t : aN} {l : List aE} {e : Int} (h : Stat t l e) {r p : Int} {Q : (Option bA × aB × Int) → Prop} (hq : Q (none, ⟨r, p⟩, e)) : mU t l r p Q := by
  unfold mU
  refine rC h ?_
  simp only [h.ne, cond_false]
  exact ⟨_, rfl, hq⟩
theorem aKx {t : aN} {l : List aE} {d : List Int} (h : Good t l d) {r p : Int} {Q : (Option bA × aB × Int) → Prop} (hq : ∀ won, WonIs won (fL d (Res l)) → Q (some ⟨t, d, won⟩, ⟨r, p⟩, bif iG t r p then 0 else 1)) : mU t l r p Q := by
  unfold mU
  refine pU h fun won hW => ?_
  have := hq won hW
  simp only [decide_true, cond_true, aKp h.ht, Option.bind_some]
  refine ⟨_, rfl, ?_⟩
  cases hm : iG t r p with
  | true => rw [hm] at this; exact this
  | false => rw [hm] at this; exact this
theorem aBf {t : aN} {l : List aE} {e : Int} (h : Stat t l e) (r p : Int) : iS t l r p = some e := by
  unfold iS
  rw [nY h, Option.bind_some]
  simp only [h.ne, Bool.not_false, cond_true]
theorem tP {t : aN} {l : List aE} {d : List Int} (h : Good t l d) (r p : Int) : iS t l r p = some (bif iG t r p then 0 else 1) := by
  unfold iS
  rw [mQ h, Option.bind_some]
  simp only [decide_true, Bool.not_true, cond_false, zI h.ht, Option.bind_some]
  cases iG t r p <;> rfl
theorem aAf {t : aN} {r p : Int} (h : iG t r p = true) : ∃ r' p' : Nat, r = r' ∧ p = p' ∧ r' < t.Rounds.toNat ∧ p' < cI t r' := by
  simp only [iG, Bool.and_eq_true, kE] at h
  refine ⟨r.toNat, p.toNat, by omega, by omega, by omega, ?_⟩
  have e : ((r.toNat : Nat) : Int) = r := by omega
  rw [e]; omega
end Go.Am
