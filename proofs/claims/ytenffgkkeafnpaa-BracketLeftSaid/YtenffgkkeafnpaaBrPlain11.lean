/- Layer 7, plain: Check, Bouts and Winner are those of the reference. -/
import Derived.Test.YtenffgkkeafnpaaBrPlain10
namespace Go.Am

/-- A valid tree with valid slips that agree. -/
structure Good (t : aO) (l : List aE) (d : List Int) : Prop where
  tree : rO t = true
  len : l.length ≤ 60
  slips : ∀ s ∈ l, eL t s = true
  agr : AGR t l d
/-- The error of a tree and slips. -/
inductive Stat (t : aO) (l : List aE) : Int → Prop
  | s70 : rO t = false → Stat t l 70
  | s71 : rO t = true → (60 < l.length ∨ ∃ s ∈ l, eL t s = false) → Stat t l 71
  | s72 : rO t = true → l.length ≤ 60 → (∀ s ∈ l, eL t s = true) → (∀ d, ¬ AGR t l d) → Stat t l 72
theorem Stat.ne {t : aO} {l : List aE} {e : Int} (h : Stat t l e) : decide (e = 0) = false := by cases h <;> rfl
theorem nH (t : aO) (l : List aE) : (∃ d, Good t l d) ∨ ∃ e, Stat t l e := by
  cases ht : rO t with
  | false => exact .inr ⟨70, .s70 ht⟩
  | true =>
    by_cases hl : 60 < l.length
    · exact .inr ⟨71, .s71 ht (.inl hl)⟩
    · by_cases hs : ∃ s ∈ l, eL t s = false
      · exact .inr ⟨71, .s71 ht (.inr hs)⟩
      · have hs' : ∀ s ∈ l, eL t s = true := fun s hm => by
          cases h : eL t s with
          | true => rfl
          | false => exact absurd ⟨s, hm, h⟩ hs
        by_cases hd : ∃ d, AGR t l d
        · obtain ⟨d, hd⟩ := hd
          exact .inl ⟨d, ht, by omega, hs', hd⟩
        · exact .inr ⟨72, .s72 ht (by omega) hs' fun d h => hd ⟨d, h⟩⟩
theorem Good.ht {t : aO} {l : List aE} {d : List Int} (h : Good t l d) : TreeOK t := oB h.tree
theorem Good.dok {t : aO} {l : List aE} {d : List Int} (h : Good t l d) : DOK t d := wA h.ht h.slips h.agr.1
theorem Good.uniq {t : aO} {l : List aE} {d d' : List Int} (h : Good t l d) (h' : Good t l d') : d = d' := by
  have := h.agr.1
  rw [h'.agr.1] at this
  exact (Option.some.inj this).symm

theorem tQ {t : aO} {l : List aE} {e : Int} (h : Stat t l e) {Q : (Option aW × Int) → Prop} (hq : Q (none, e)) : gW t l Q := by
  unfold gW
  refine ⟨_, aCe t, ?_⟩
  cases h with
  | s70 ht => simp only [ht, Bool.not_false, cond_true]; exact hq
  | s71 ht hs =>
    simp only [ht, Bool.not_true, cond_false]
    by_cases hl : 60 < l.length
    · have : decide (60 < (l.length : Int)) = true := decide_eq_true (by omega)
      simp only [this, cond_true]
      exact ⟨_, rfl, hq⟩
    · have : decide (60 < (l.length : Int)) = false := decide_eq_false (by omega)
      simp only [this, cond_false]
      rw [mW l (by omega) _ (fun s => !eL t s) fun x _ => by simp [kZ, xD (oB ht)]]
      refine ⟨_, rfl, ?_⟩
      have : (l.any fun s => !eL t s) = true := by
        rcases hs with h | ⟨s, h1, h2⟩
        · exact absurd h hl
        · rw [List.any_eq_true]; exact ⟨s, h1, by rw [h2]; rfl⟩
      simp only [this, cond_true]; exact hq
  | s72 ht hl hs hno =>
    have : decide (60 < (l.length : Int)) = false := decide_eq_false (by omega)
    simp only [ht, Bool.not_true, cond_false, this]
    rw [mW l (by omega) _ (fun s => !eL t s) fun x _ => by simp [kZ, xD (oB ht)]]
    refine ⟨_, rfl, ?_⟩
    have : (l.any fun s => !eL t s) = false := by
      rw [List.any_eq_false]; intro s hm; rw [hs s hm]; simp
    simp only [this, cond_false]
    exact aAb (oB ht) hs (by omega) (fun d hd => absurd hd (hno d)) fun _ => hq
theorem sD {t : aO} {l : List aE} {d : List Int} (h : Good t l d) {Q : (Option aW × Int) → Prop} (hq : ∀ won, WonIs won (eA d (Res l)) → Q (some ⟨t, d, won⟩, 0)) : gW t l Q := by
  unfold gW
  have hl := h.len
  have : decide (60 < (l.length : Int)) = false := decide_eq_false (by omega)
  refine ⟨_, aCe t, ?_⟩
  simp only [h.tree, Bool.not_true, cond_false, this]
  rw [mW l (by omega) _ (fun s => !eL t s) fun x _ => by simp [kZ, xD h.ht]]
  refine ⟨_, rfl, ?_⟩
  have : (l.any fun s => !eL t s) = false := by
    rw [List.any_eq_false]; intro s hm; rw [h.slips s hm]; simp
  simp only [this, cond_false]
  refine aAb h.ht h.slips (by omega) (fun d' hd won hW => ?_) fun hno => absurd h.agr (hno d)
  have := h.uniq ⟨h.tree, h.len, h.slips, hd⟩
  subst this
  exact hq won hW

theorem uI {t : aO} (ht : TreeOK t) {l : List aE} (hl : l.length ≤ 60) : fH l t BIG 0 = bif l.all (eL t) then iD l t else some 71 := by
  have := tN (fun k i => fH l t k i) l.length (fun i => l[i]?.any (eL t)) (some 71) (iD l t) ?_ ?_ BIG (cW (by omega))
  · rw [this]
    have e : (List.range l.length).all (fun i => l[i]?.any (eL t)) = l.all (eL t) := by
      rw [Bool.eq_iff_iff, pW, List.all_eq_true]
      constructor
      · intro h x hx
        obtain ⟨i, hi, rfl⟩ := List.mem_iff_getElem.1 hx
        have := h i hi
        rwa [List.getElem?_eq_getElem hi] at this
      · intro h i hi
        rw [List.getElem?_eq_getElem hi]
        exact h _ (List.getElem_mem hi)
    rw [e]
  · intro k i hi
    simp only [fH, Int.ofNat_lt, hi, decide_true, cond_true, cK hi, Option.bind_some, aGr ht, cI (show i < 9223372036854775807 by omega), List.getElem?_eq_getElem hi, Option.any_some]
    cases eL t l[i] <;> rfl
  · intro k
    have hlt : decide ((l.length : Int) < (l.length : Int)) = false := decide_eq_false (by omega)
    simp only [fH, hlt, cond_false]
theorem pU {t : aO} {l : List aE} {e : Int} (h : Stat t l e) : eF t l = some e := by
  unfold eF
  rw [aBt, Option.bind_some]
  cases h with
  | s70 ht => simp only [ht, Bool.not_false, cond_true]
  | s71 ht hs =>
    simp only [ht, Bool.not_true, cond_false]
    by_cases hl : 60 < l.length
    · have : decide (60 < (l.length : Int)) = true := decide_eq_true (by omega)
      simp only [this, cond_true]
    · have : decide (60 < (l.length : Int)) = false := decide_eq_false (by omega)
      have h2 : l.all (eL t) = false := by
        rcases hs with h | ⟨s, h1, h2⟩
        · exact absurd h hl
        · rw [List.all_eq_false]; exact ⟨s, h1, by simp [h2]⟩
      simp only [this, cond_false, uI (oB ht) (show l.length ≤ 60 by omega), h2]
  | s72 ht hl hs hno =>
    have : decide (60 < (l.length : Int)) = false := decide_eq_false (by omega)
    have h2 : l.all (eL t) = true := by rw [List.all_eq_true]; exact hs
    simp only [ht, Bool.not_true, cond_false, this, uI (oB ht) hl, h2, cond_true, iD, (aBx (oB ht) hs (by omega)).2 hno, Option.bind_some, Bool.not_false]
theorem lW {t : aO} {l : List aE} {d : List Int} (h : Good t l d) : ∃ must, cQ t l = some (⟨d, must⟩, true) ∧ MustIs t must (eA d (Res l)) :=
  (aBx h.ht h.slips (by have := h.len; omega)).1 d h.agr
theorem oT {t : aO} {l : List aE} {d : List Int} (h : Good t l d) : eF t l = some 0 := by
  have hl := h.len
  have : decide (60 < (l.length : Int)) = false := decide_eq_false (by omega)
  have h2 : l.all (eL t) = true := by rw [List.all_eq_true]; exact h.slips
  obtain ⟨must, hd, _⟩ := lW h
  unfold eF
  rw [aBt, Option.bind_some]
  simp only [h.tree, Bool.not_true, cond_false, this, uI h.ht hl, h2, cond_true, iD, hd, Option.bind_some]

/-! What is known of a match. -/
theorem tM {t : aO} {won : List (aB × Int)} {must : List (List Int)} {P : kN} (hW : WonIs won P) (hM : MustIs t must P) {r p : Nat} (hr : r < t.Rounds.toNat) (hp : p < bZ t r) :
    cL (⟨r, p⟩ : aB) won = !decide (mat must r p = -2) := by
  rw [Bool.eq_iff_iff, hW.has, Bool.not_eq_true', decide_eq_false_iff_not]
  constructor
  · rintro ⟨v, hv⟩
    have := (hM.mem r p v hr hp).2 hv
    rw [this.1]; exact this.2
  · exact fun h => ⟨_, (hM.mem r p _ hr hp).1 ⟨rfl, h⟩⟩
theorem vS {t : aO} {won : List (aB × Int)} {must : List (List Int)} {P : kN} (hW : WonIs won P) (hM : MustIs t must P) {r p : Nat} (hr : r < t.Rounds.toNat) (hp : p < bZ t r) (h : mat must r p ≠ -2) (z : Int) :
    cF (⟨r, p⟩ : aB) z won = mat must r p := hW.get ((hM.mem r p _ hr hp).1 ⟨rfl, h⟩)
theorem yD {t : aO} {must : List (List Int)} {P : kN} (hM : MustIs t must P) {r p : Nat} (hr : r < t.Rounds.toNat) (hp : p < bZ t r) : ((idx must (r : Int)).bind fun x => idx x (p : Int)) = some (mat must r p) := by
  have hl := hM.len
  have hrow := hM.row r hr
  have hrl : r < must.length := by omega
  rw [cK hrl, Option.bind_some]
  unfold mat
  rw [bP hrl] at hrow ⊢
  have hp' : p < must[r].length := by omega
  rw [cK hp', bP hp']
theorem rK {t : aO} {r : Nat} (hr : r + 1 < t.Rounds.toNat) : bZ t r = 2 * bZ t ((r + 1 : Nat) : Int) := by
  unfold bZ
  have e : t.Rounds.toNat - 1 - ((r : Nat) : Int).toNat = (t.Rounds.toNat - 1 - ((r + 1 : Nat) : Int).toNat) + 1 := by omega
  rw [e, Nat.pow_succ]; omega
/-- A side of a match. -/
def dJ (d : List Int) (must : List (List Int)) (r at' : Nat) : Int := if r = 0 then d.getD at' 0 else mat must (r - 1) at'

section
variable {t : aO} (ht : TreeOK t) {d : List Int} (hD : DOK t d) {must : List (List Int)} {P : kN} (hM : MustIs t must P) {won : List (aB × Int)} (hW : WonIs won P)
include ht hD hM
theorem aIp {r p s : Nat} (hr : r < t.Rounds.toNat) (hp : p < bZ t r) (hs : s < 2) : pH ⟨d, must⟩ r p s = some (dJ d must r (2 * p + s)) := by
  have hpl := kX ht (r := (r : Int))
  have h5 := ht.r5
  have w1 : w64 (2 * (p : Int)) = ((2 * p : Nat) : Int) := by rw [eT (by omega) (by omega)]; omega
  have w2 : w64 (((2 * p : Nat) : Int) + (s : Int)) = ((2 * p + s : Nat) : Int) := by rw [eT (by omega) (by omega)]; omega
  unfold pH dJ
  simp only [w1, w2]
  by_cases h0 : r = 0
  · subst h0
    have hp0 := rI ht
    have hlen := hD.len
    have hpl2 : p < bZ t 0 := hp
    have hi : 2 * p + s < d.length := by omega
    simp only [Int.natCast_zero, decide_true, cond_true, cK hi, Option.bind_some, if_true, bP hi]
  · have hr0 : decide ((r : Int) = 0) = false := decide_eq_false (by omega)
    have hw : w64 ((r : Int) - 1) = ((r - 1 : Nat) : Int) := zU (by omega) (by omega)
    have hph := rK (t := t) (r := r - 1) (by omega)
    have e : r - 1 + 1 = r := by omega
    rw [e] at hph
    have := yD hM (r := r - 1) (p := 2 * p + s) (by omega) (by omega)
    simp only [hr0, cond_false, hw, if_neg h0]
    rw [← this]
    congr 1
    funext x
    cases idx x ((2 * p + s : Nat) : Int) <;> rfl
include hW
theorem aGb {r p s : Nat} (hr : r < t.Rounds.toNat) (hp : p < bZ t r) (hs : s < 2) : jD ⟨t, d, won⟩ ⟨r, p⟩ s = some (dJ d must r (2 * p + s)) := by
  have hpl := kX ht (r := (r : Int))
  have h5 := ht.r5
  have w1 : w64 (2 * (p : Int)) = ((2 * p : Nat) : Int) := by rw [eT (by omega) (by omega)]; omega
  have w2 : w64 (((2 * p : Nat) : Int) + (s : Int)) = ((2 * p + s : Nat) : Int) := by rw [eT (by omega) (by omega)]; omega
  unfold jD dJ
  simp only [w1, w2]
  by_cases h0 : r = 0
  · subst h0
    have hp0 := rI ht
    have hlen := hD.len
    have hpl2 : p < bZ t 0 := hp
    have hi : 2 * p + s < d.length := by omega
    simp only [Int.natCast_zero, decide_true, cond_true, cK hi, Option.bind_some, if_true, bP hi]
  · have hr0 : decide ((r : Int) = 0) = false := decide_eq_false (by omega)
    have hw : w64 ((r : Int) - 1) = ((r - 1 : Nat) : Int) := zU (by omega) (by omega)
    have hph := rK (t := t) (r := r - 1) (by omega)
    have e : r - 1 + 1 = r := by omega
    rw [e] at hph
    simp only [hr0, cond_false, hw, if_neg h0]
    have h1 : r - 1 < t.Rounds.toNat := by omega
    have h2 : 2 * p + s < bZ t ((r - 1 : Nat) : Int) := by omega
    rw [tM hW hM h1 h2]
    by_cases hm : mat must (r - 1) (2 * p + s) = -2
    · simp only [hm, decide_true, Bool.not_true, cond_false]
    · simp only [hm, decide_false, Bool.not_false, cond_true, vS hW hM h1 h2 hm]
omit ht hD hM hW
/-- The matches of a round, with their players. -/
def mR (t : aO) (d : List Int) (must : List (List Int)) (r : Nat) : List bA := (List.range (bZ t r)).map fun p : Nat => ⟨r, p, dJ d must r (2 * p), dJ d must r (2 * p + 1)⟩
def dK (t : aO) (d : List Int) (must : List (List Int)) : List bA := (List.range t.Rounds.toNat).flatMap (mR t d must)
theorem qA {α : Type} (f : Nat → List α) (n : Nat) : (List.range (n + 1)).flatMap f = (List.range n).flatMap f ++ f n := by
  rw [List.range_succ, List.flatMap_append]; simp
include ht
theorem aJp (r : Nat) : (mR t d must r).length ≤ 16 := by
  have := kX ht (r := (r : Int))
  simpa [mR] using this
theorem wS : ∀ r, ((List.range r).flatMap (mR t d must)).length ≤ 16 * r
  | 0 => by simp
  | r + 1 => by
    have h1 := wS r
    have h2 := aJp ht (d := d) (must := must) r
    rw [qA, List.length_append]; omega
include hD hM
theorem aBv : lE t ⟨d, must⟩ = some (dK t d must) := by
  have h1 := ht.r1
  have h5 := ht.r5
  unfold lE
  have := eQ (S := List bA) (fun k r out => eO t ⟨d, must⟩ k r out) t.Rounds.toNat (fun _ _ => some (dK t d must)) (fun r out => out = (List.range r).flatMap (mR t d must)) ?_ ?_ BIG [] (cW (by omega)) (by simp)
  · exact this
  · rintro k r out hr rfl ih
    have hfl := wS ht (d := d) (must := must) r
    have hpl := kX ht (r := (r : Int))
    have hlt : decide ((r : Int) < t.Rounds) = true := decide_eq_true (by omega)
    have hin : iE (eO t ⟨d, must⟩ k) r t ⟨d, must⟩ BIG 0 ((List.range r).flatMap (mR t d must)) = lM (eO t ⟨d, must⟩ k) r t ⟨d, must⟩ ((List.range r).flatMap (mR t d must) ++ mR t d must r) := by
      have hP := tX ht (r := (r : Int)) (by omega) (by omega)
      refine eQ (S := List bA) (fun q p out => iE (eO t ⟨d, must⟩ k) r t ⟨d, must⟩ q p out) (bZ t r) (fun _ _ => lM (eO t ⟨d, must⟩ k) r t ⟨d, must⟩ ((List.range r).flatMap (mR t d must) ++ mR t d must r))
        (fun p out => out = (List.range r).flatMap (mR t d must) ++ (List.range p).map fun p : Nat => (⟨r, p, dJ d must r (2 * p), dJ d must r (2 * p + 1)⟩ : bA)) ?_ ?_ BIG _ (cW (by omega)) (by simp)
      · rintro q p out hp rfl ih2
        simp only [iE, hP, Option.bind_some, Int.ofNat_lt, hp, decide_true, cond_true, cI (show p < 9223372036854775807 by omega)]
        have e0 := aIp ht hD hM hr hp (s := 0) (by omega)
        have e1 := aIp ht hD hM hr hp (s := 1) (by omega)
        simp only [Int.natCast_zero, Int.natCast_one, Nat.add_zero] at e0 e1
        rw [e0, Option.bind_some, e1, Option.bind_some, gB (by simp only [List.length_append, List.length_map, List.length_range, List.length_cons, List.length_nil]; omega), Option.bind_some]
        refine ih2 _ ?_
        rw [List.range_succ, List.map_append, List.append_assoc]; rfl
      · rintro q out rfl
        have hlt : decide ((bZ t r : Int) < (bZ t r : Int)) = false := decide_eq_false (by omega)
        simp only [iE, hP, Option.bind_some, hlt, cond_false, mR]
    simp only [eO, hlt, cond_true, hin, lM, qW, cI (show r < 9223372036854775807 by omega)]
    exact ih _ (qA _ _).symm
  · rintro k out rfl
    have hlt : decide (((t.Rounds.toNat : Nat) : Int) < t.Rounds) = false := decide_eq_false (by omega)
    simp only [eO, hlt, cond_false, qV]
    rfl
include hW
/-- What a loop over the matches does. -/
theorem aAr {S : Type} (y : S → aB → bA → Option S) (f : List bA → S) (good : List bA → Prop)
    (hy : ∀ (out : List bA) (r p : Nat), r < t.Rounds.toNat → p < bZ t r → out.length ≤ 200 → y (f out) ⟨r, p⟩ ⟨r, p, dJ d must r (2 * p), dJ d must r (2 * p + 1)⟩ = some (f (out ++ [⟨r, p, dJ d must r (2 * p), dJ d must r (2 * p + 1)⟩]))) :
    fY ⟨t, d, won⟩ y (f []) = some (f (dK t d must)) := by
  have h1 := ht.r1
  have h5 := ht.r5
  unfold fY
  have := eQ (S := S) (fun k r out => cY y ⟨t, d, won⟩ t.Rounds k r out) t.Rounds.toNat (fun _ _ => some (f (dK t d must))) (fun r out => out = f ((List.range r).flatMap (mR t d must))) ?_ ?_ BIG (f []) (cW (by omega)) (by simp)
  · exact this
  · rintro k r out hr rfl ih
    have hfl := wS ht (d := d) (must := must) r
    have hpl := kX ht (r := (r : Int))
    have hlt : decide ((r : Int) < t.Rounds) = true := decide_eq_true (by omega)
    have hch : chk (decide (0 ≤ w64 ((r : Int) + 1))) = some () := by
      rw [cI (by omega)]; unfold chk; rw [decide_eq_true (by omega)]; rfl
    have hin : eH y (cY y ⟨t, d, won⟩ t.Rounds k) ⟨t, d, won⟩ r t.Rounds r (bZ t r) BIG 0 (f ((List.range r).flatMap (mR t d must))) =
        hZ y (cY y ⟨t, d, won⟩ t.Rounds k) ⟨t, d, won⟩ t.Rounds r (f ((List.range r).flatMap (mR t d must) ++ mR t d must r)) := by
      refine eQ (S := S) (fun q p out => eH y (cY y ⟨t, d, won⟩ t.Rounds k) ⟨t, d, won⟩ r t.Rounds r (bZ t r) q p out) (bZ t r) (fun _ _ => hZ y (cY y ⟨t, d, won⟩ t.Rounds k) ⟨t, d, won⟩ t.Rounds r (f ((List.range r).flatMap (mR t d must) ++ mR t d must r)))
        (fun p out => out = f ((List.range r).flatMap (mR t d must) ++ (List.range p).map fun p : Nat => (⟨r, p, dJ d must r (2 * p), dJ d must r (2 * p + 1)⟩ : bA))) ?_ ?_ BIG _ (cW (by omega)) (by simp)
      · rintro q p out hp rfl ih2
        have e0 := aGb ht hD hM hW hr hp (s := 0) (by omega)
        have e1 := aGb ht hD hM hW hr hp (s := 1) (by omega)
        simp only [Int.natCast_zero, Int.natCast_one, Nat.add_zero] at e0 e1
        simp only [eH, Int.ofNat_lt, hp, decide_true, cond_true, cI (show p < 9223372036854775807 by omega), e0, e1, Option.bind_some]
        rw [hy _ r p hr hp (by simp only [List.length_append, List.length_map, List.length_range, List.length_cons, List.length_nil]; omega), Option.bind_some]
        refine ih2 _ ?_
        rw [List.range_succ, List.map_append, List.append_assoc]; rfl
      · rintro q out rfl
        have hlt : decide ((bZ t r : Int) < (bZ t r : Int)) = false := decide_eq_false (by omega)
        simp only [eH, hlt, cond_false, mR]
    simp only [cY, hlt, cond_true, hch, Option.bind_some, aGa ht (r := (r : Int)) (by omega) (by omega), hin, hZ, lP]
    rw [cI (show r < 9223372036854775807 by omega)]
    exact ih _ (congrArg f (qA _ _)).symm
  · rintro k out rfl
    have hlt : decide (((t.Rounds.toNat : Nat) : Int) < t.Rounds) = false := decide_eq_false (by omega)
    simp only [cY, hlt, cond_false, lO]
    rfl
end

theorem zV {t : aO} {l : List aE} {d : List Int} (h : Good t l d) {must : List (List Int)} (hd : cQ t l = some (⟨d, must⟩, true)) (hM : MustIs t must (eA d (Res l))) : jT t l = some (dK t d must, 0) := by
  unfold jT
  rw [oT h, Option.bind_some]
  simp only [decide_true, Bool.not_true, cond_false, hd, Option.bind_some, aBv h.ht h.dok hM]
theorem aHp {t : aO} {l : List aE} {e : Int} (h : Stat t l e) : jT t l = some ([], e) := by
  unfold jT
  rw [pU h, Option.bind_some]
  simp only [h.ne, Bool.not_false, cond_true]
theorem aHq (t : aO) (l : List aE) {r : List bA × Int} (h : jT t l = some r) (Q : List bA × Int → Prop) (hq : Q r) : nJ t l Q := by
  unfold nJ
  rcases nH t l with ⟨d, hg⟩ | ⟨e, he⟩
  · obtain ⟨must, hd, hM⟩ := lW hg
    rw [zV hg hd hM] at h; cases h
    refine sD hg fun won hW => ?_
    simp only [decide_true, Bool.not_true, cond_false]
    refine ⟨_, rfl, _, ?_, hq⟩
    refine aAr hg.ht hg.dok hM hW _ (fun x => x) (fun _ => True) fun out r p hr hp hl => ?_
    rw [gB (by simp; omega)]; rfl
  · rw [aHp he] at h; cases h
    refine tQ he ?_
    simp only [he.ne, Bool.not_false, cond_true]
    exact hq

theorem aHt {t : aO} {l : List aE} {e : Int} (h : Stat t l e) {r p : Int} {Q : (Option aW × aB × Int) → Prop} (hq : Q (none, ⟨r, p⟩, e)) : lT t l r p Q := by
  unfold lT
  refine tQ h ?_
  simp only [h.ne, cond_false]
  exact ⟨_, rfl, hq⟩
theorem aFq {t : aO} {l : List aE} {d : List Int} (h : Good t l d) {r p : Int} {Q : (Option aW × aB × Int) → Prop} (hq : ∀ won, WonIs won (eA d (Res l)) → Q (some ⟨t, d, won⟩, ⟨r, p⟩, bif fU t r p then 0 else 1)) : lT t l r p Q := by
  unfold lT
  refine sD h fun won hW => ?_
  have := hq won hW
  simp only [decide_true, cond_true, aKx h.ht, Option.bind_some]
  refine ⟨_, rfl, ?_⟩
  cases hm : fU t r p with
  | true => rw [hm] at this; exact this
  | false => rw [hm] at this; exact this
theorem uS {t : aO} {l : List aE} {e : Int} (h : Stat t l e) (r p : Int) : gV t l r p = some e := by
  unfold gV
  rw [pU h, Option.bind_some]
  simp only [h.ne, Bool.not_false, cond_true]
theorem nX {t : aO} {l : List aE} {d : List Int} (h : Good t l d) (r p : Int) : gV t l r p = some (bif fU t r p then 0 else 1) := by
  unfold gV
  rw [oT h, Option.bind_some]
  simp only [decide_true, Bool.not_true, cond_false, zW h.ht, Option.bind_some]
  cases fU t r p <;> rfl
theorem sW {t : aO} {r p : Int} (h : fU t r p = true) : ∃ r' p' : Nat, r = r' ∧ p = p' ∧ r' < t.Rounds.toNat ∧ p' < bZ t r' := by
  simp only [fU, Bool.and_eq_true, iV] at h
  refine ⟨r.toNat, p.toNat, by omega, by omega, by omega, ?_⟩
  have e : ((r.toNat : Nat) : Int) = r := by omega
  rw [e]; omega
theorem aGi {t : aO} {l : List aE} {e : Int} (h : Stat t l e) (r p : Int) : gI t l r p = some (0, e) := by
  unfold gI
  rw [uS h, Option.bind_some]
  simp only [h.ne, Bool.not_false, cond_true]
theorem aGh {t : aO} {l : List aE} {d : List Int} (h : Good t l d) {r p : Int} (hm : fU t r p = false) : gI t l r p = some (0, 1) := by
  unfold gI
  rw [nX h, hm, Option.bind_some]
  rfl
theorem yQ {t : aO} {l : List aE} {d : List Int} (h : Good t l d) {must : List (List Int)} (hd : cQ t l = some (⟨d, must⟩, true)) (hM : MustIs t must (eA d (Res l))) {r p : Nat} (hm : fU t r p = true) :
    gI t l r p = some (if mat must r p = -2 then (0, 3) else (mat must r p, 0)) := by
  obtain ⟨r', p', e1, e2, hr, hp⟩ := sW hm
  have e1 : r = r' := by omega
  have e2 : p = p' := by omega
  subst e1; subst e2
  have hi := yD hM hr hp
  unfold gI
  rw [nX h, hm, Option.bind_some]
  simp only [cond_true, decide_true, Bool.not_true, cond_false, hd, Option.bind_some]
  rw [← Option.bind_assoc, hi, Option.bind_some]
  by_cases h2 : mat must r p = -2
  · simp only [h2, decide_true, cond_true, if_true]
  · simp only [h2, decide_false, cond_false, if_false]
    rw [← Option.bind_assoc, hi, Option.bind_some]
theorem aGj (t : aO) (l : List aE) (r p : Int) {o : Int × Int} (h : gI t l r p = some o) (Q : Int × Int → Prop) (hq : Q o) : mH t l r p Q := by
  unfold mH
  rcases nH t l with ⟨d, hg⟩ | ⟨e, he⟩
  · refine aFq hg fun won hW => ?_
    cases hm : fU t r p with
    | false =>
      rw [aGh hg hm] at h; cases h
      exact hq
    | true =>
      obtain ⟨r', p', rfl, rfl, hr, hp⟩ := sW hm
      obtain ⟨must, hd, hM⟩ := lW hg
      rw [yQ hg hd hM hm] at h; cases h
      simp only [cond_true, decide_true, Bool.not_true, cond_false]
      refine ⟨_, rfl, ?_⟩
      simp only [tM hW hM hr hp]
      by_cases h2 : mat must r' p' = -2
      · rw [if_pos h2] at hq
        simp only [h2, decide_true, Bool.not_true, Bool.not_false, cond_true]; exact hq
      · rw [if_neg h2] at hq
        simp only [h2, decide_false, Bool.not_true, Bool.not_false, cond_false, vS hW hM hr hp h2]; exact hq
  · rw [aGi he] at h; cases h
    refine aHt he ?_
    simp only [he.ne, Bool.not_false, cond_true]
    exact hq
end Go.Am
