/- Layer 7, plain: Check, Bouts and Winner are those of the reference. -/
import Derived.Test.YtenffgkkeafnpaaBrPlain10
namespace Go.Am

/-- A valid tree with valid slips that agree. -/
structure Good (t : aP) (l : List aE) (d : List Int) : Prop where
  tree : rM t = true
  len : l.length ≤ 60
  slips : ∀ s ∈ l, eS t s = true
  agr : AGR t l d
/-- The error of a tree and slips. -/
inductive Stat (t : aP) (l : List aE) : Int → Prop
  | s70 : rM t = false → Stat t l 70
  | s71 : rM t = true → (60 < l.length ∨ ∃ s ∈ l, eS t s = false) → Stat t l 71
  | s72 : rM t = true → l.length ≤ 60 → (∀ s ∈ l, eS t s = true) → (∀ d, ¬ AGR t l d) → Stat t l 72
theorem Stat.ne {t : aP} {l : List aE} {e : Int} (h : Stat t l e) : decide (e = 0) = false := by cases h <;> rfl
theorem oS (t : aP) (l : List aE) : (∃ d, Good t l d) ∨ ∃ e, Stat t l e := by
  cases ht : rM t with
  | false => exact .inr ⟨70, .s70 ht⟩
  | true =>
    by_cases hl : 60 < l.length
    · exact .inr ⟨71, .s71 ht (.inl hl)⟩
    · by_cases hs : ∃ s ∈ l, eS t s = false
      · exact .inr ⟨71, .s71 ht (.inr hs)⟩
      · have hs' : ∀ s ∈ l, eS t s = true := fun s hm => by
          cases h : eS t s with
          | true => rfl
          | false => exact absurd ⟨s, hm, h⟩ hs
        by_cases hd : ∃ d, AGR t l d
        · obtain ⟨d, hd⟩ := hd
          exact .inl ⟨d, ht, by omega, hs', hd⟩
        · exact .inr ⟨72, .s72 ht (by omega) hs' fun d h => hd ⟨d, h⟩⟩
theorem Good.ht {t : aP} {l : List aE} {d : List Int} (h : Good t l d) : TreeOK t := nY h.tree
theorem Good.dok {t : aP} {l : List aE} {d : List Int} (h : Good t l d) : DOK t d := vX h.ht h.slips h.agr.1
theorem Good.uniq {t : aP} {l : List aE} {d d' : List Int} (h : Good t l d) (h' : Good t l d') : d = d' := by
  have := h.agr.1
  rw [h'.agr.1] at this
  exact (Option.some.inj this).symm

theorem vU {t : aP} {l : List aE} {e : Int} (h : Stat t l e) {Q : (Option bC × Int) → Prop} (hq : Q (none, e)) : iR t l Q := by
  unfold iR
  refine ⟨_, aBs t, ?_⟩
  cases h with
  | s70 ht => simp only [ht, Bool.not_false, cond_true]; exact hq
  | s71 ht hs =>
    simp only [ht, Bool.not_true, cond_false]
    by_cases hl : 60 < l.length
    · have : decide (60 < (l.length : Int)) = true := decide_eq_true (by omega)
      simp only [this, cond_true]
      exact ⟨_, rfl, hq⟩
    · have : decide (60 < (l.length : Int)) = false := decide_eq_false (by omega)
      simp only [this, cond_false]
      rw [mV l (by omega) _ (fun s => !eS t s) fun x _ => by simp [lI, wZ (nY ht)]]
      refine ⟨_, rfl, ?_⟩
      have : (l.any fun s => !eS t s) = true := by
        rcases hs with h | ⟨s, h1, h2⟩
        · exact absurd h hl
        · rw [List.any_eq_true]; exact ⟨s, h1, by rw [h2]; rfl⟩
      simp only [this, cond_true]; exact hq
  | s72 ht hl hs hno =>
    have : decide (60 < (l.length : Int)) = false := decide_eq_false (by omega)
    simp only [ht, Bool.not_true, cond_false, this]
    rw [mV l (by omega) _ (fun s => !eS t s) fun x _ => by simp [lI, wZ (nY ht)]]
    refine ⟨_, rfl, ?_⟩
    have : (l.any fun s => !eS t s) = false := by
      rw [List.any_eq_false]; intro s hm; rw [hs s hm]; simp
    simp only [this, cond_false]
    exact zM (nY ht) hs (by omega) (fun d hd => absurd hd (hno d)) fun _ => hq
theorem tU {t : aP} {l : List aE} {d : List Int} (h : Good t l d) {Q : (Option bC × Int) → Prop} (hq : ∀ won, WonIs won (eB d (Res l)) → Q (some ⟨t, d, won⟩, 0)) : iR t l Q := by
  unfold iR
  have hl := h.len
  have : decide (60 < (l.length : Int)) = false := decide_eq_false (by omega)
  refine ⟨_, aBs t, ?_⟩
  simp only [h.tree, Bool.not_true, cond_false, this]
  rw [mV l (by omega) _ (fun s => !eS t s) fun x _ => by simp [lI, wZ h.ht]]
  refine ⟨_, rfl, ?_⟩
  have : (l.any fun s => !eS t s) = false := by
    rw [List.any_eq_false]; intro s hm; rw [h.slips s hm]; simp
  simp only [this, cond_false]
  refine zM h.ht h.slips (by omega) (fun d' hd won hW => ?_) fun hno => absurd h.agr (hno d)
  have := h.uniq ⟨h.tree, h.len, h.slips, hd⟩
  subst this
  exact hq won hW

theorem uB {t : aP} (ht : TreeOK t) {l : List aE} (hl : l.length ≤ 60) : fS l t BIG 0 = bif l.all (eS t) then iP l t else some 71 := by
  have := rF (fun k i => fS l t k i) l.length (fun i => l[i]?.any (eS t)) (some 71) (iP l t) ?_ ?_ BIG (cX (by omega))
  · rw [this]
    have e : (List.range l.length).all (fun i => l[i]?.any (eS t)) = l.all (eS t) := by
      rw [Bool.eq_iff_iff, pU, List.all_eq_true]
      constructor
      · intro h x hx
        obtain ⟨i, hi, rfl⟩ := List.mem_iff_getElem.1 hx
        have := h i hi
        rwa [List.getElem?_eq_getElem hi] at this
      · intro h i hi
        rw [List.getElem?_eq_getElem hi]
        exact h _ (List.getElem_mem hi)
    rw [e]
  · intro k i hi
    simp only [fS, Int.ofNat_lt, hi, decide_true, cond_true, cL hi, Option.bind_some, aGj ht, cK (show i < 9223372036854775807 by omega), List.getElem?_eq_getElem hi, Option.any_some]
    cases eS t l[i] <;> rfl
  · intro k
    have hlt : decide ((l.length : Int) < (l.length : Int)) = false := decide_eq_false (by omega)
    simp only [fS, hlt, cond_false]
theorem rN {t : aP} {l : List aE} {e : Int} (h : Stat t l e) : eU t l = some e := by
  unfold eU
  rw [aBi, Option.bind_some]
  cases h with
  | s70 ht => simp only [ht, Bool.not_false, cond_true]
  | s71 ht hs =>
    simp only [ht, Bool.not_true, cond_false]
    by_cases hl : 60 < l.length
    · have : decide (60 < (l.length : Int)) = true := decide_eq_true (by omega)
      simp only [this, cond_true]
    · have : decide (60 < (l.length : Int)) = false := decide_eq_false (by omega)
      have h2 : l.all (eS t) = false := by
        rcases hs with h | ⟨s, h1, h2⟩
        · exact absurd h hl
        · rw [List.all_eq_false]; exact ⟨s, h1, by simp [h2]⟩
      simp only [this, cond_false, uB (nY ht) (show l.length ≤ 60 by omega), h2]
  | s72 ht hl hs hno =>
    have : decide (60 < (l.length : Int)) = false := decide_eq_false (by omega)
    have h2 : l.all (eS t) = true := by rw [List.all_eq_true]; exact hs
    simp only [ht, Bool.not_true, cond_false, this, uB (nY ht) hl, h2, cond_true, iP, (aBl (nY ht) hs (by omega)).2 hno, Option.bind_some, Bool.not_false]
theorem mA {t : aP} {l : List aE} {d : List Int} (h : Good t l d) : ∃ must, cY t l = some (⟨d, must⟩, true) ∧ MustIs t must (eB d (Res l)) :=
  (aBl h.ht h.slips (by have := h.len; omega)).1 d h.agr
theorem pW {t : aP} {l : List aE} {d : List Int} (h : Good t l d) : eU t l = some 0 := by
  have hl := h.len
  have : decide (60 < (l.length : Int)) = false := decide_eq_false (by omega)
  have h2 : l.all (eS t) = true := by rw [List.all_eq_true]; exact h.slips
  obtain ⟨must, hd, _⟩ := mA h
  unfold eU
  rw [aBi, Option.bind_some]
  simp only [h.tree, Bool.not_true, cond_false, this, uB h.ht hl, h2, cond_true, iP, hd, Option.bind_some]

/-! What is known of a match. -/
theorem vP {t : aP} {won : List (aB × Int)} {must : List (List Int)} {P : kH} (hW : WonIs won P) (hM : MustIs t must P) {r p : Nat} (hr : r < t.Rounds.toNat) (hp : p < cF t r) :
    cS (⟨r, p⟩ : aB) won = !decide (mat must r p = -2) := by
  rw [Bool.eq_iff_iff, hW.has, Bool.not_eq_true', decide_eq_false_iff_not]
  constructor
  · rintro ⟨v, hv⟩
    have := (hM.mem r p v hr hp).2 hv
    rw [this.1]; exact this.2
  · exact fun h => ⟨_, (hM.mem r p _ hr hp).1 ⟨rfl, h⟩⟩
theorem vO {t : aP} {won : List (aB × Int)} {must : List (List Int)} {P : kH} (hW : WonIs won P) (hM : MustIs t must P) {r p : Nat} (hr : r < t.Rounds.toNat) (hp : p < cF t r) (h : mat must r p ≠ -2) (z : Int) :
    cI (⟨r, p⟩ : aB) z won = mat must r p := hW.get ((hM.mem r p _ hr hp).1 ⟨rfl, h⟩)
theorem aBc {t : aP} {must : List (List Int)} {P : kH} (hM : MustIs t must P) {r p : Nat} (hr : r < t.Rounds.toNat) (hp : p < cF t r) : ((idx must (r : Int)).bind fun x => idx x (p : Int)) = some (mat must r p) := by
  have hl := hM.len
  have hrow := hM.row r hr
  have hrl : r < must.length := by omega
  rw [cL hrl, Option.bind_some]
  unfold mat
  rw [bW hrl] at hrow ⊢
  have hp' : p < must[r].length := by omega
  rw [cL hp', bW hp']
theorem uJ {t : aP} {r : Nat} (hr : r + 1 < t.Rounds.toNat) : cF t r = 2 * cF t ((r + 1 : Nat) : Int) := by
  unfold cF
  have e : t.Rounds.toNat - 1 - ((r : Nat) : Int).toNat = (t.Rounds.toNat - 1 - ((r + 1 : Nat) : Int).toNat) + 1 := by omega
  rw [e, Nat.pow_succ]; omega
/-- A side of a match. -/
def lE (d : List Int) (must : List (List Int)) (r at' : Nat) : Int := if r = 0 then d.getD at' 0 else mat must (r - 1) at'

section
variable {t : aP} (ht : TreeOK t) {d : List Int} (hD : DOK t d) {must : List (List Int)} {P : kH} (hM : MustIs t must P) {won : List (aB × Int)} (hW : WonIs won P)
include ht hD hM
theorem aIe {r p s : Nat} (hr : r < t.Rounds.toNat) (hp : p < cF t r) (hs : s < 2) : pC ⟨d, must⟩ r p s = some (lE d must r (2 * p + s)) := by
  have hpl := lG ht (r := (r : Int))
  have h5 := ht.r5
  have w1 : w64 (2 * (p : Int)) = ((2 * p : Nat) : Int) := by rw [eK (by omega) (by omega)]; omega
  have w2 : w64 (((2 * p : Nat) : Int) + (s : Int)) = ((2 * p + s : Nat) : Int) := by rw [eK (by omega) (by omega)]; omega
  unfold pC lE
  simp only [w1, w2]
  by_cases h0 : r = 0
  · subst h0
    have hp0 := uU ht
    have hlen := hD.len
    have hpl2 : p < cF t 0 := hp
    have hi : 2 * p + s < d.length := by omega
    simp only [Int.natCast_zero, decide_true, cond_true, cL hi, Option.bind_some, if_true, bW hi]
  · have hr0 : decide ((r : Int) = 0) = false := decide_eq_false (by omega)
    have hw : w64 ((r : Int) - 1) = ((r - 1 : Nat) : Int) := zH (by omega) (by omega)
    have hph := uJ (t := t) (r := r - 1) (by omega)
    have e : r - 1 + 1 = r := by omega
    rw [e] at hph
    have := aBc hM (r := r - 1) (p := 2 * p + s) (by omega) (by omega)
    simp only [hr0, cond_false, hw, if_neg h0]
    rw [← this]
    congr 1
    funext x
    cases idx x ((2 * p + s : Nat) : Int) <;> rfl
include hW
theorem aFt {r p s : Nat} (hr : r < t.Rounds.toNat) (hp : p < cF t r) (hs : s < 2) : jO ⟨t, d, won⟩ ⟨r, p⟩ s = some (lE d must r (2 * p + s)) := by
  have hpl := lG ht (r := (r : Int))
  have h5 := ht.r5
  have w1 : w64 (2 * (p : Int)) = ((2 * p : Nat) : Int) := by rw [eK (by omega) (by omega)]; omega
  have w2 : w64 (((2 * p : Nat) : Int) + (s : Int)) = ((2 * p + s : Nat) : Int) := by rw [eK (by omega) (by omega)]; omega
  unfold jO lE
  simp only [w1, w2]
  by_cases h0 : r = 0
  · subst h0
    have hp0 := uU ht
    have hlen := hD.len
    have hpl2 : p < cF t 0 := hp
    have hi : 2 * p + s < d.length := by omega
    simp only [Int.natCast_zero, decide_true, cond_true, cL hi, Option.bind_some, if_true, bW hi]
  · have hr0 : decide ((r : Int) = 0) = false := decide_eq_false (by omega)
    have hw : w64 ((r : Int) - 1) = ((r - 1 : Nat) : Int) := zH (by omega) (by omega)
    have hph := uJ (t := t) (r := r - 1) (by omega)
    have e : r - 1 + 1 = r := by omega
    rw [e] at hph
    simp only [hr0, cond_false, hw, if_neg h0]
    have h1 : r - 1 < t.Rounds.toNat := by omega
    have h2 : 2 * p + s < cF t ((r - 1 : Nat) : Int) := by omega
    rw [vP hW hM h1 h2]
    by_cases hm : mat must (r - 1) (2 * p + s) = -2
    · simp only [hm, decide_true, Bool.not_true, cond_false]
    · simp only [hm, decide_false, Bool.not_false, cond_true, vO hW hM h1 h2 hm]
omit ht hD hM hW
/-- The matches of a round, with their players. -/
def mR (t : aP) (d : List Int) (must : List (List Int)) (r : Nat) : List bP := (List.range (cF t r)).map fun p : Nat => ⟨r, p, lE d must r (2 * p), lE d must r (2 * p + 1)⟩
def kI (t : aP) (d : List Int) (must : List (List Int)) : List bP := (List.range t.Rounds.toNat).flatMap (mR t d must)
theorem pZ {α : Type} (f : Nat → List α) (n : Nat) : (List.range (n + 1)).flatMap f = (List.range n).flatMap f ++ f n := by
  rw [List.range_succ, List.flatMap_append]; simp
include ht
theorem aJd (r : Nat) : (mR t d must r).length ≤ 16 := by
  have := lG ht (r := (r : Int))
  simpa [mR] using this
theorem wO : ∀ r, ((List.range r).flatMap (mR t d must)).length ≤ 16 * r
  | 0 => by simp
  | r + 1 => by
    have h1 := wO r
    have h2 := aJd ht (d := d) (must := must) r
    rw [pZ, List.length_append]; omega
include hD hM
theorem aHm : pI t ⟨d, must⟩ = some (kI t d must) := by
  have h1 := ht.r1
  have h5 := ht.r5
  unfold pI
  have := fX (S := List bP) (fun k r out => eW t ⟨d, must⟩ k r out) t.Rounds.toNat (fun _ _ => some (kI t d must)) (fun r out => out = (List.range r).flatMap (mR t d must)) ?_ ?_ BIG [] (cX (by omega)) (by simp)
  · exact this
  · rintro k r out hr rfl ih
    have hfl := wO ht (d := d) (must := must) r
    have hpl := lG ht (r := (r : Int))
    have hlt : decide ((r : Int) < t.Rounds) = true := decide_eq_true (by omega)
    have hin : iQ (eW t ⟨d, must⟩ k) r t ⟨d, must⟩ BIG 0 ((List.range r).flatMap (mR t d must)) = lR (eW t ⟨d, must⟩ k) r t ⟨d, must⟩ ((List.range r).flatMap (mR t d must) ++ mR t d must r) := by
      have hP := tO ht (r := (r : Int)) (by omega) (by omega)
      refine fX (S := List bP) (fun q p out => iQ (eW t ⟨d, must⟩ k) r t ⟨d, must⟩ q p out) (cF t r) (fun _ _ => lR (eW t ⟨d, must⟩ k) r t ⟨d, must⟩ ((List.range r).flatMap (mR t d must) ++ mR t d must r))
        (fun p out => out = (List.range r).flatMap (mR t d must) ++ (List.range p).map fun p : Nat => (⟨r, p, lE d must r (2 * p), lE d must r (2 * p + 1)⟩ : bP)) ?_ ?_ BIG _ (cX (by omega)) (by simp)
      · rintro q p out hp rfl ih2
        simp only [iQ, hP, Option.bind_some, Int.ofNat_lt, hp, decide_true, cond_true, cK (show p < 9223372036854775807 by omega)]
        have e0 := aIe ht hD hM hr hp (s := 0) (by omega)
        have e1 := aIe ht hD hM hr hp (s := 1) (by omega)
        simp only [Int.natCast_zero, Int.natCast_one, Nat.add_zero] at e0 e1
        rw [e0, Option.bind_some, e1, Option.bind_some, iD (by simp only [List.length_append, List.length_map, List.length_range, List.length_cons, List.length_nil]; omega), Option.bind_some]
        refine ih2 _ ?_
        rw [List.range_succ, List.map_append, List.append_assoc]; rfl
      · rintro q out rfl
        have hlt : decide ((cF t r : Int) < (cF t r : Int)) = false := decide_eq_false (by omega)
        simp only [iQ, hP, Option.bind_some, hlt, cond_false, mR]
    simp only [eW, hlt, cond_true, hin, lR, qT, cK (show r < 9223372036854775807 by omega)]
    exact ih _ (pZ _ _).symm
  · rintro k out rfl
    have hlt : decide (((t.Rounds.toNat : Nat) : Int) < t.Rounds) = false := decide_eq_false (by omega)
    simp only [eW, hlt, cond_false, qS]
    rfl
include hW
/-- What a loop over the matches does. -/
theorem aGn {S : Type} (y : S → aB → bP → Option S) (f : List bP → S) (good : List bP → Prop)
    (hy : ∀ (out : List bP) (r p : Nat), r < t.Rounds.toNat → p < cF t r → out.length ≤ 200 → y (f out) ⟨r, p⟩ ⟨r, p, lE d must r (2 * p), lE d must r (2 * p + 1)⟩ = some (f (out ++ [⟨r, p, lE d must r (2 * p), lE d must r (2 * p + 1)⟩]))) :
    jJ ⟨t, d, won⟩ y (f []) = some (f (kI t d must)) := by
  have h1 := ht.r1
  have h5 := ht.r5
  unfold jJ
  have := fX (S := S) (fun k r out => dA y ⟨t, d, won⟩ t.Rounds k r out) t.Rounds.toNat (fun _ _ => some (f (kI t d must))) (fun r out => out = f ((List.range r).flatMap (mR t d must))) ?_ ?_ BIG (f []) (cX (by omega)) (by simp)
  · exact this
  · rintro k r out hr rfl ih
    have hfl := wO ht (d := d) (must := must) r
    have hpl := lG ht (r := (r : Int))
    have hlt : decide ((r : Int) < t.Rounds) = true := decide_eq_true (by omega)
    have hch : chk (decide (0 ≤ w64 ((r : Int) + 1))) = some () := by
      rw [cK (by omega)]; unfold chk; rw [decide_eq_true (by omega)]; rfl
    have hin : eJ y (dA y ⟨t, d, won⟩ t.Rounds k) ⟨t, d, won⟩ r t.Rounds r (cF t r) BIG 0 (f ((List.range r).flatMap (mR t d must))) =
        iL y (dA y ⟨t, d, won⟩ t.Rounds k) ⟨t, d, won⟩ t.Rounds r (f ((List.range r).flatMap (mR t d must) ++ mR t d must r)) := by
      refine fX (S := S) (fun q p out => eJ y (dA y ⟨t, d, won⟩ t.Rounds k) ⟨t, d, won⟩ r t.Rounds r (cF t r) q p out) (cF t r) (fun _ _ => iL y (dA y ⟨t, d, won⟩ t.Rounds k) ⟨t, d, won⟩ t.Rounds r (f ((List.range r).flatMap (mR t d must) ++ mR t d must r)))
        (fun p out => out = f ((List.range r).flatMap (mR t d must) ++ (List.range p).map fun p : Nat => (⟨r, p, lE d must r (2 * p), lE d must r (2 * p + 1)⟩ : bP))) ?_ ?_ BIG _ (cX (by omega)) (by simp)
      · rintro q p out hp rfl ih2
        have e0 := aFt ht hD hM hW hr hp (s := 0) (by omega)
        have e1 := aFt ht hD hM hW hr hp (s := 1) (by omega)
        simp only [Int.natCast_zero, Int.natCast_one, Nat.add_zero] at e0 e1
        simp only [eJ, Int.ofNat_lt, hp, decide_true, cond_true, cK (show p < 9223372036854775807 by omega), e0, e1, Option.bind_some]
        rw [hy _ r p hr hp (by simp only [List.length_append, List.length_map, List.length_range, List.length_cons, List.length_nil]; omega), Option.bind_some]
        refine ih2 _ ?_
        rw [List.range_succ, List.map_append, List.append_assoc]; rfl
      · rintro q out rfl
        have hlt : decide ((cF t r : Int) < (cF t r : Int)) = false := decide_eq_false (by omega)
        simp only [eJ, hlt, cond_false, mR]
    simp only [dA, hlt, cond_true, hch, Option.bind_some, aFs ht (r := (r : Int)) (by omega) (by omega), hin, iL, lU]
    rw [cK (show r < 9223372036854775807 by omega)]
    exact ih _ (congrArg f (pZ _ _)).symm
  · rintro k out rfl
    have hlt : decide (((t.Rounds.toNat : Nat) : Int) < t.Rounds) = false := decide_eq_false (by omega)
    simp only [dA, hlt, cond_false, lT]
    rfl
end

theorem zI {t : aP} {l : List aE} {d : List Int} (h : Good t l d) {must : List (List Int)} (hd : cY t l = some (⟨d, must⟩, true)) (hM : MustIs t must (eB d (Res l))) : kC t l = some (kI t d must, 0) := by
  unfold kC
  rw [pW h, Option.bind_some]
  simp only [decide_true, Bool.not_true, cond_false, hd, Option.bind_some, aHm h.ht h.dok hM]
theorem aHi {t : aP} {l : List aE} {e : Int} (h : Stat t l e) : kC t l = some ([], e) := by
  unfold kC
  rw [rN h, Option.bind_some]
  simp only [h.ne, Bool.not_false, cond_true]
theorem aHj (t : aP) (l : List aE) {r : List bP × Int} (h : kC t l = some r) (Q : List bP × Int → Prop) (hq : Q r) : nH t l Q := by
  unfold nH
  rcases oS t l with ⟨d, hg⟩ | ⟨e, he⟩
  · obtain ⟨must, hd, hM⟩ := mA hg
    rw [zI hg hd hM] at h; cases h
    refine tU hg fun won hW => ?_
    simp only [decide_true, Bool.not_true, cond_false]
    refine ⟨_, rfl, _, ?_, hq⟩
    refine aGn hg.ht hg.dok hM hW _ (fun x => x) (fun _ => True) fun out r p hr hp hl => ?_
    rw [iD (by simp; omega)]; rfl
  · rw [aHi he] at h; cases h
    refine vU he ?_
    simp only [he.ne, Bool.not_false, cond_true]
    exact hq

theorem aHl {t : aP} {l : List aE} {e : Int} (h : Stat t l e) {r p : Int} {Q : (Option bC × aB × Int) → Prop} (hq : Q (none, ⟨r, p⟩, e)) : lX t l r p Q := by
  unfold lX
  refine vU h ?_
  simp only [h.ne, cond_false]
  exact ⟨_, rfl, hq⟩
theorem aFi {t : aP} {l : List aE} {d : List Int} (h : Good t l d) {r p : Int} {Q : (Option bC × aB × Int) → Prop} (hq : ∀ won, WonIs won (eB d (Res l)) → Q (some ⟨t, d, won⟩, ⟨r, p⟩, bif fY t r p then 0 else 1)) : lX t l r p Q := by
  unfold lX
  refine tU h fun won hW => ?_
  have := hq won hW
  simp only [decide_true, cond_true, aKn h.ht, Option.bind_some]
  refine ⟨_, rfl, ?_⟩
  cases hm : fY t r p with
  | true => rw [hm] at this; exact this
  | false => rw [hm] at this; exact this
theorem uO {t : aP} {l : List aE} {e : Int} (h : Stat t l e) (r p : Int) : iC t l r p = some e := by
  unfold iC
  rw [rN h, Option.bind_some]
  simp only [h.ne, Bool.not_false, cond_true]
theorem nU {t : aP} {l : List aE} {d : List Int} (h : Good t l d) (r p : Int) : iC t l r p = some (bif fY t r p then 0 else 1) := by
  unfold iC
  rw [pW h, Option.bind_some]
  simp only [decide_true, Bool.not_true, cond_false, vC h.ht, Option.bind_some]
  cases fY t r p <;> rfl
theorem qG {t : aP} {r p : Int} (h : fY t r p = true) : ∃ r' p' : Nat, r = r' ∧ p = p' ∧ r' < t.Rounds.toNat ∧ p' < cF t r' := by
  simp only [fY, Bool.and_eq_true, jG] at h
  refine ⟨r.toNat, p.toNat, by omega, by omega, by omega, ?_⟩
  have e : ((r.toNat : Nat) : Int) = r := by omega
  rw [e]; omega
theorem aGa {t : aP} {l : List aE} {e : Int} (h : Stat t l e) (r p : Int) : gR t l r p = some (0, e) := by
  unfold gR
  rw [uO h, Option.bind_some]
  simp only [h.ne, Bool.not_false, cond_true]
theorem aFz {t : aP} {l : List aE} {d : List Int} (h : Good t l d) {r p : Int} (hm : fY t r p = false) : gR t l r p = some (0, 1) := by
  unfold gR
  rw [nU h, hm, Option.bind_some]
  rfl
theorem uC {t : aP} {l : List aE} {d : List Int} (h : Good t l d) {must : List (List Int)} (hd : cY t l = some (⟨d, must⟩, true)) (hM : MustIs t must (eB d (Res l))) {r p : Nat} (hm : fY t r p = true) :
    gR t l r p = some (if mat must r p = -2 then (0, 3) else (mat must r p, 0)) := by
  obtain ⟨r', p', e1, e2, hr, hp⟩ := qG hm
  have e1 : r = r' := by omega
  have e2 : p = p' := by omega
  subst e1; subst e2
  have hi := aBc hM hr hp
  unfold gR
  rw [nU h, hm, Option.bind_some]
  simp only [cond_true, decide_true, Bool.not_true, cond_false, hd, Option.bind_some]
  rw [← Option.bind_assoc, hi, Option.bind_some]
  by_cases h2 : mat must r p = -2
  · simp only [h2, decide_true, cond_true, if_true]
  · simp only [h2, decide_false, cond_false, if_false]
    rw [← Option.bind_assoc, hi, Option.bind_some]
theorem aGb (t : aP) (l : List aE) (r p : Int) {o : Int × Int} (h : gR t l r p = some o) (Q : Int × Int → Prop) (hq : Q o) : mL t l r p Q := by
  unfold mL
  rcases oS t l with ⟨d, hg⟩ | ⟨e, he⟩
  · refine aFi hg fun won hW => ?_
    cases hm : fY t r p with
    | false =>
      rw [aFz hg hm] at h; cases h
      exact hq
    | true =>
      obtain ⟨r', p', rfl, rfl, hr, hp⟩ := qG hm
      obtain ⟨must, hd, hM⟩ := mA hg
      rw [uC hg hd hM hm] at h; cases h
      simp only [cond_true, decide_true, Bool.not_true, cond_false]
      refine ⟨_, rfl, ?_⟩
      simp only [vP hW hM hr hp]
      by_cases h2 : mat must r' p' = -2
      · rw [if_pos h2] at hq
        simp only [h2, decide_true, Bool.not_true, Bool.not_false, cond_true]; exact hq
      · rw [if_neg h2] at hq
        simp only [h2, decide_false, Bool.not_true, Bool.not_false, cond_false, vO hW hM hr hp h2]; exact hq
  · rw [aGa he] at h; cases h
    refine aHl he ?_
    simp only [he.ne, Bool.not_false, cond_true]
    exact hq
end Go.Am
