/- Layer 7, plain: Check, Bouts and Winner are those of the reference. -/
import Derived.Test.YtenffgkkeafnpaaBrPlain10
namespace Go.Am

/-- A valid tree with valid slips that agree. -/
structure Good (t : aO) (l : List aE) (d : List Int) : Prop where
  tree : rZ t = true
  len : l.length ≤ 60
  slips : ∀ s ∈ l, eL t s = true
  agr : AGR t l d
/-- The error of a tree and slips. -/
inductive Stat (t : aO) (l : List aE) : Int → Prop
  | s70 : rZ t = false → Stat t l 70
  | s71 : rZ t = true → (60 < l.length ∨ ∃ s ∈ l, eL t s = false) → Stat t l 71
  | s72 : rZ t = true → l.length ≤ 60 → (∀ s ∈ l, eL t s = true) → (∀ d, ¬ AGR t l d) → Stat t l 72
theorem Stat.ne {t : aO} {l : List aE} {e : Int} (h : Stat t l e) : decide (e = 0) = false := by cases h <;> rfl
theorem nZ (t : aO) (l : List aE) : (∃ d, Good t l d) ∨ ∃ e, Stat t l e := by
  cases ht : rZ t with
  | false => exact .inr ⟨70, .s70 ht⟩
  | true =>
    by_cases hl : 60 < l.length
    · exact .inr ⟨71, .s71 ht (.inl hl)⟩
    · by_cases hs : ∃ s ∈ l, eL t s = false
      · exact .inr ⟨71, .s71 ht (.inr hs)⟩
      · have hs' : ∀ s ∈ l, eL t s = true := fun s hm => by
          cases h : eL t s with
          | true => rfl
          | false => exact absurd ⟨s, hm, h⟩ hs
        by_cases hd : ∃ d, AGR t l d
        · obtain ⟨d, hd⟩ := hd
          exact .inl ⟨d, ht, by omega, hs', hd⟩
        · exact .inr ⟨72, .s72 ht (by omega) hs' fun d h => hd ⟨d, h⟩⟩
theorem Good.ht {t : aO} {l : List aE} {d : List Int} (h : Good t l d) : TreeOK t := oU h.tree
theorem Good.dok {t : aO} {l : List aE} {d : List Int} (h : Good t l d) : DOK t d := wL h.ht h.slips h.agr.1
theorem Good.uniq {t : aO} {l : List aE} {d d' : List Int} (h : Good t l d) (h' : Good t l d') : d = d' := by
  have := h.agr.1
  rw [h'.agr.1] at this
  exact (Option.some.inj this).symm

theorem tU {t : aO} {l : List aE} {e : Int} (h : Stat t l e) {Q : (Option bB × Int) → Prop} (hq : Q (none, e)) : gY t l Q := by
  unfold gY
  refine ⟨_, aCu t, ?_⟩
  cases h with
  | s70 ht => simp only [ht, Bool.not_false, cond_true]; exact hq
  | s71 ht hs =>
    simp only [ht, Bool.not_true, cond_false]
    by_cases hl : 60 < l.length
    · have : decide (60 < (l.length : Int)) = true := decide_eq_true (by omega)
      simp only [this, cond_true]
      exact ⟨_, rfl, hq⟩
    · have : decide (60 < (l.length : Int)) = false := decide_eq_false (by omega)
      simp only [this, cond_false]
      rw [nM l (by omega) _ (fun s => !eL t s) fun x _ => by simp [lR, xO (oU ht)]]
      refine ⟨_, rfl, ?_⟩
      have : (l.any fun s => !eL t s) = true := by
        rcases hs with h | ⟨s, h1, h2⟩
        · exact absurd h hl
        · rw [List.any_eq_true]; exact ⟨s, h1, by rw [h2]; rfl⟩
      simp only [this, cond_true]; exact hq
  | s72 ht hl hs hno =>
    have : decide (60 < (l.length : Int)) = false := decide_eq_false (by omega)
    simp only [ht, Bool.not_true, cond_false, this]
    rw [nM l (by omega) _ (fun s => !eL t s) fun x _ => by simp [lR, xO (oU ht)]]
    refine ⟨_, rfl, ?_⟩
    have : (l.any fun s => !eL t s) = false := by
      rw [List.any_eq_false]; intro s hm; rw [hs s hm]; simp
    simp only [this, cond_false]
    exact aAs (oU ht) hs (by omega) (fun d hd => absurd hd (hno d)) fun _ => hq
theorem sI {t : aO} {l : List aE} {d : List Int} (h : Good t l d) {Q : (Option bB × Int) → Prop} (hq : ∀ won, WonIs won (dN d (Res l)) → Q (some ⟨t, d, won⟩, 0)) : gY t l Q := by
  unfold gY
  have hl := h.len
  have : decide (60 < (l.length : Int)) = false := decide_eq_false (by omega)
  refine ⟨_, aCu t, ?_⟩
  simp only [h.tree, Bool.not_true, cond_false, this]
  rw [nM l (by omega) _ (fun s => !eL t s) fun x _ => by simp [lR, xO h.ht]]
  refine ⟨_, rfl, ?_⟩
  have : (l.any fun s => !eL t s) = false := by
    rw [List.any_eq_false]; intro s hm; rw [h.slips s hm]; simp
  simp only [this, cond_false]
  refine aAs h.ht h.slips (by omega) (fun d' hd won hW => ?_) fun hno => absurd h.agr (hno d)
  have := h.uniq ⟨h.tree, h.len, h.slips, hd⟩
  subst this
  exact hq won hW

theorem uS {t : aO} (ht : TreeOK t) {l : List aE} (hl : l.length ≤ 60) : fL l t BIG 0 = bif l.all (eL t) then iL l t else some 71 := by
  have := wB (fun k i => fL l t k i) l.length (fun i => l[i]?.any (eL t)) (some 71) (iL l t) ?_ ?_ BIG (cZ (by omega))
  · rw [this]
    have e : (List.range l.length).all (fun i => l[i]?.any (eL t)) = l.all (eL t) := by
      rw [Bool.eq_iff_iff, qM, List.all_eq_true]
      constructor
      · intro h x hx
        obtain ⟨i, hi, rfl⟩ := List.mem_iff_getElem.1 hx
        have := h i hi
        rwa [List.getElem?_eq_getElem hi] at this
      · intro h i hi
        rw [List.getElem?_eq_getElem hi]
        exact h _ (List.getElem_mem hi)
    rw [e]
  · intro k i hi
    simp only [fL, Int.ofNat_lt, hi, decide_true, cond_true, cM hi, Option.bind_some, aHg ht, cJ (show i < 9223372036854775807 by omega), List.getElem?_eq_getElem hi, Option.any_some]
    cases eL t l[i] <;> rfl
  · intro k
    have hlt : decide ((l.length : Int) < (l.length : Int)) = false := decide_eq_false (by omega)
    simp only [fL, hlt, cond_false]
theorem nI {t : aO} {l : List aE} {e : Int} (h : Stat t l e) : dU t l = some e := by
  unfold dU
  rw [aCk, Option.bind_some]
  cases h with
  | s70 ht => simp only [ht, Bool.not_false, cond_true]
  | s71 ht hs =>
    simp only [ht, Bool.not_true, cond_false]
    by_cases hl : 60 < l.length
    · have : decide (60 < (l.length : Int)) = true := decide_eq_true (by omega)
      simp only [this, cond_true]
    · have : decide (60 < (l.length : Int)) = false := decide_eq_false (by omega)
      have h2 : l.all (eL t) = false := by
        rcases hs with h | ⟨s, h1, h2⟩
        · exact absurd h hl
        · rw [List.all_eq_false]; exact ⟨s, h1, by simp [h2]⟩
      simp only [this, cond_false, uS (oU ht) (show l.length ≤ 60 by omega), h2]
  | s72 ht hl hs hno =>
    have : decide (60 < (l.length : Int)) = false := decide_eq_false (by omega)
    have h2 : l.all (eL t) = true := by rw [List.all_eq_true]; exact hs
    simp only [ht, Bool.not_true, cond_false, this, uS (oU ht) hl, h2, cond_true, iL, (aCn (oU ht) hs (by omega)).2 hno, Option.bind_some, Bool.not_false]
theorem nJ {t : aO} {l : List aE} {d : List Int} (h : Good t l d) : ∃ must, dH t l = some (⟨d, must⟩, true) ∧ MustIs t must (dN d (Res l)) :=
  (aCn h.ht h.slips (by have := h.len; omega)).1 d h.agr
theorem mI {t : aO} {l : List aE} {d : List Int} (h : Good t l d) : dU t l = some 0 := by
  have hl := h.len
  have : decide (60 < (l.length : Int)) = false := decide_eq_false (by omega)
  have h2 : l.all (eL t) = true := by rw [List.all_eq_true]; exact h.slips
  obtain ⟨must, hd, _⟩ := nJ h
  unfold dU
  rw [aCk, Option.bind_some]
  simp only [h.tree, Bool.not_true, cond_false, this, uS h.ht hl, h2, cond_true, iL, hd, Option.bind_some]

/-! What is known of a match. -/
theorem aAa {t : aO} {won : List (aB × Int)} {must : List (List Int)} {P : iN} (hW : WonIs won P) (hM : MustIs t must P) {r p : Nat} (hr : r < t.Rounds.toNat) (hp : p < cK t r) :
    cY (⟨r, p⟩ : aB) won = !decide (mat must r p = -2) := by
  rw [Bool.eq_iff_iff, hW.has, Bool.not_eq_true', decide_eq_false_iff_not]
  constructor
  · rintro ⟨v, hv⟩
    have := (hM.mem r p v hr hp).2 hv
    rw [this.1]; exact this.2
  · exact fun h => ⟨_, (hM.mem r p _ hr hp).1 ⟨rfl, h⟩⟩
theorem zZ {t : aO} {won : List (aB × Int)} {must : List (List Int)} {P : iN} (hW : WonIs won P) (hM : MustIs t must P) {r p : Nat} (hr : r < t.Rounds.toNat) (hp : p < cK t r) (h : mat must r p ≠ -2) (z : Int) :
    cP (⟨r, p⟩ : aB) z won = mat must r p := hW.get ((hM.mem r p _ hr hp).1 ⟨rfl, h⟩)
theorem aGk {t : aO} {must : List (List Int)} {P : iN} (hM : MustIs t must P) {r p : Nat} (hr : r < t.Rounds.toNat) (hp : p < cK t r) : ((idx must (r : Int)).bind fun x => idx x (p : Int)) = some (mat must r p) := by
  have hl := hM.len
  have hrow := hM.row r hr
  have hrl : r < must.length := by omega
  rw [cM hrl, Option.bind_some]
  unfold mat
  rw [bV hrl] at hrow ⊢
  have hp' : p < must[r].length := by omega
  rw [cM hp', bV hp']
theorem zJ {t : aO} {r : Nat} (hr : r + 1 < t.Rounds.toNat) : cK t r = 2 * cK t ((r + 1 : Nat) : Int) := by
  unfold cK
  have e : t.Rounds.toNat - 1 - ((r : Nat) : Int).toNat = (t.Rounds.toNat - 1 - ((r + 1 : Nat) : Int).toNat) + 1 := by omega
  rw [e, Nat.pow_succ]; omega
/-- A side of a match. -/
def jW (d : List Int) (must : List (List Int)) (r at' : Nat) : Int := if r = 0 then d.getD at' 0 else mat must (r - 1) at'

section
variable {t : aO} (ht : TreeOK t) {d : List Int} (hD : DOK t d) {must : List (List Int)} {P : iN} (hM : MustIs t must P) {won : List (aB × Int)} (hW : WonIs won P)
include ht hD hM
theorem aJf {r p s : Nat} (hr : r < t.Rounds.toNat) (hp : p < cK t r) (hs : s < 2) : pV ⟨d, must⟩ r p s = some (jW d must r (2 * p + s)) := by
  have hpl := lP ht (r := (r : Int))
  have h5 := ht.r5
  have w1 : w64 (2 * (p : Int)) = ((2 * p : Nat) : Int) := by rw [fG (by omega) (by omega)]; omega
  have w2 : w64 (((2 * p : Nat) : Int) + (s : Int)) = ((2 * p + s : Nat) : Int) := by rw [fG (by omega) (by omega)]; omega
  unfold pV jW
  simp only [w1, w2]
  by_cases h0 : r = 0
  · subst h0
    have hp0 := vK ht
    have hlen := hD.len
    have hpl2 : p < cK t 0 := hp
    have hi : 2 * p + s < d.length := by omega
    simp only [Int.natCast_zero, decide_true, cond_true, cM hi, Option.bind_some, if_true, bV hi]
  · have hr0 : decide ((r : Int) = 0) = false := decide_eq_false (by omega)
    have hw : w64 ((r : Int) - 1) = ((r - 1 : Nat) : Int) := aAk (by omega) (by omega)
    have hph := zJ (t := t) (r := r - 1) (by omega)
    have e : r - 1 + 1 = r := by omega
    rw [e] at hph
    have := aGk hM (r := r - 1) (p := 2 * p + s) (by omega) (by omega)
    simp only [hr0, cond_false, hw, if_neg h0]
    rw [← this]
    congr 1
    funext x
    cases idx x ((2 * p + s : Nat) : Int) <;> rfl
include hW
theorem aGr {r p s : Nat} (hr : r < t.Rounds.toNat) (hp : p < cK t r) (hs : s < 2) : jN ⟨t, d, won⟩ ⟨r, p⟩ s = some (jW d must r (2 * p + s)) := by
  have hpl := lP ht (r := (r : Int))
  have h5 := ht.r5
  have w1 : w64 (2 * (p : Int)) = ((2 * p : Nat) : Int) := by rw [fG (by omega) (by omega)]; omega
  have w2 : w64 (((2 * p : Nat) : Int) + (s : Int)) = ((2 * p + s : Nat) : Int) := by rw [fG (by omega) (by omega)]; omega
  unfold jN jW
  simp only [w1, w2]
  by_cases h0 : r = 0
  · subst h0
    have hp0 := vK ht
    have hlen := hD.len
    have hpl2 : p < cK t 0 := hp
    have hi : 2 * p + s < d.length := by omega
    simp only [Int.natCast_zero, decide_true, cond_true, cM hi, Option.bind_some, if_true, bV hi]
  · have hr0 : decide ((r : Int) = 0) = false := decide_eq_false (by omega)
    have hw : w64 ((r : Int) - 1) = ((r - 1 : Nat) : Int) := aAk (by omega) (by omega)
    have hph := zJ (t := t) (r := r - 1) (by omega)
    have e : r - 1 + 1 = r := by omega
    rw [e] at hph
    simp only [hr0, cond_false, hw, if_neg h0]
    have h1 : r - 1 < t.Rounds.toNat := by omega
    have h2 : 2 * p + s < cK t ((r - 1 : Nat) : Int) := by omega
    rw [aAa hW hM h1 h2]
    by_cases hm : mat must (r - 1) (2 * p + s) = -2
    · simp only [hm, decide_true, Bool.not_true, cond_false]
    · simp only [hm, decide_false, Bool.not_false, cond_true, zZ hW hM h1 h2 hm]
omit ht hD hM hW
/-- The matches of a round, with their players. -/
def nF (t : aO) (d : List Int) (must : List (List Int)) (r : Nat) : List cF := (List.range (cK t r)).map fun p : Nat => ⟨r, p, jW d must r (2 * p), jW d must r (2 * p + 1)⟩
def mJ (t : aO) (d : List Int) (must : List (List Int)) : List cF := (List.range t.Rounds.toNat).flatMap (nF t d must)
theorem qS {α : Type} (f : Nat → List α) (n : Nat) : (List.range (n + 1)).flatMap f = (List.range n).flatMap f ++ f n := by
  rw [List.range_succ, List.flatMap_append]; simp
include ht
theorem aKd (r : Nat) : (nF t d must r).length ≤ 16 := by
  have := lP ht (r := (r : Int))
  simpa [nF] using this
theorem xE : ∀ r, ((List.range r).flatMap (nF t d must)).length ≤ 16 * r
  | 0 => by simp
  | r + 1 => by
    have h1 := xE r
    have h2 := aKd ht (d := d) (must := must) r
    rw [qS, List.length_append]; omega
include hD hM
theorem aIk : qA t ⟨d, must⟩ = some (mJ t d must) := by
  have h1 := ht.r1
  have h5 := ht.r5
  unfold qA
  have := fJ (S := List cF) (fun k r out => eU t ⟨d, must⟩ k r out) t.Rounds.toNat (fun _ _ => some (mJ t d must)) (fun r out => out = (List.range r).flatMap (nF t d must)) ?_ ?_ BIG [] (cZ (by omega)) (by simp)
  · exact this
  · rintro k r out hr rfl ih
    have hfl := xE ht (d := d) (must := must) r
    have hpl := lP ht (r := (r : Int))
    have hlt : decide ((r : Int) < t.Rounds) = true := decide_eq_true (by omega)
    have hin : iM (eU t ⟨d, must⟩ k) r t ⟨d, must⟩ BIG 0 ((List.range r).flatMap (nF t d must)) = mE (eU t ⟨d, must⟩ k) r t ⟨d, must⟩ ((List.range r).flatMap (nF t d must) ++ nF t d must r) := by
      have hP := uD ht (r := (r : Int)) (by omega) (by omega)
      refine fJ (S := List cF) (fun q p out => iM (eU t ⟨d, must⟩ k) r t ⟨d, must⟩ q p out) (cK t r) (fun _ _ => mE (eU t ⟨d, must⟩ k) r t ⟨d, must⟩ ((List.range r).flatMap (nF t d must) ++ nF t d must r))
        (fun p out => out = (List.range r).flatMap (nF t d must) ++ (List.range p).map fun p : Nat => (⟨r, p, jW d must r (2 * p), jW d must r (2 * p + 1)⟩ : cF)) ?_ ?_ BIG _ (cZ (by omega)) (by simp)
      · rintro q p out hp rfl ih2
        simp only [iM, hP, Option.bind_some, Int.ofNat_lt, hp, decide_true, cond_true, cJ (show p < 9223372036854775807 by omega)]
        have e0 := aJf ht hD hM hr hp (s := 0) (by omega)
        have e1 := aJf ht hD hM hr hp (s := 1) (by omega)
        simp only [Int.natCast_zero, Int.natCast_one, Nat.add_zero] at e0 e1
        rw [e0, Option.bind_some, e1, Option.bind_some, iT (by simp only [List.length_append, List.length_map, List.length_range, List.length_cons, List.length_nil]; omega), Option.bind_some]
        refine ih2 _ ?_
        rw [List.range_succ, List.map_append, List.append_assoc]; rfl
      · rintro q out rfl
        have hlt : decide ((cK t r : Int) < (cK t r : Int)) = false := decide_eq_false (by omega)
        simp only [iM, hP, Option.bind_some, hlt, cond_false, nF]
    simp only [eU, hlt, cond_true, hin, mE, rJ, cJ (show r < 9223372036854775807 by omega)]
    exact ih _ (qS _ _).symm
  · rintro k out rfl
    have hlt : decide (((t.Rounds.toNat : Nat) : Int) < t.Rounds) = false := decide_eq_false (by omega)
    simp only [eU, hlt, cond_false, rI]
    rfl
include hW
/-- What a loop over the matches does. -/
theorem aHj {S : Type} (y : S → aB → cF → Option S) (f : List cF → S) (good : List cF → Prop)
    (hy : ∀ (out : List cF) (r p : Nat), r < t.Rounds.toNat → p < cK t r → out.length ≤ 200 → y (f out) ⟨r, p⟩ ⟨r, p, jW d must r (2 * p), jW d must r (2 * p + 1)⟩ = some (f (out ++ [⟨r, p, jW d must r (2 * p), jW d must r (2 * p + 1)⟩]))) :
    jF ⟨t, d, won⟩ y (f []) = some (f (mJ t d must)) := by
  have h1 := ht.r1
  have h5 := ht.r5
  unfold jF
  have := fJ (S := S) (fun k r out => dC y ⟨t, d, won⟩ t.Rounds k r out) t.Rounds.toNat (fun _ _ => some (f (mJ t d must))) (fun r out => out = f ((List.range r).flatMap (nF t d must))) ?_ ?_ BIG (f []) (cZ (by omega)) (by simp)
  · exact this
  · rintro k r out hr rfl ih
    have hfl := xE ht (d := d) (must := must) r
    have hpl := lP ht (r := (r : Int))
    have hlt : decide ((r : Int) < t.Rounds) = true := decide_eq_true (by omega)
    have hch : chk (decide (0 ≤ w64 ((r : Int) + 1))) = some () := by
      rw [cJ (by omega)]; unfold chk; rw [decide_eq_true (by omega)]; rfl
    have hin : eM y (dC y ⟨t, d, won⟩ t.Rounds k) ⟨t, d, won⟩ r t.Rounds r (cK t r) BIG 0 (f ((List.range r).flatMap (nF t d must))) =
        iF y (dC y ⟨t, d, won⟩ t.Rounds k) ⟨t, d, won⟩ t.Rounds r (f ((List.range r).flatMap (nF t d must) ++ nF t d must r)) := by
      refine fJ (S := S) (fun q p out => eM y (dC y ⟨t, d, won⟩ t.Rounds k) ⟨t, d, won⟩ r t.Rounds r (cK t r) q p out) (cK t r) (fun _ _ => iF y (dC y ⟨t, d, won⟩ t.Rounds k) ⟨t, d, won⟩ t.Rounds r (f ((List.range r).flatMap (nF t d must) ++ nF t d must r)))
        (fun p out => out = f ((List.range r).flatMap (nF t d must) ++ (List.range p).map fun p : Nat => (⟨r, p, jW d must r (2 * p), jW d must r (2 * p + 1)⟩ : cF))) ?_ ?_ BIG _ (cZ (by omega)) (by simp)
      · rintro q p out hp rfl ih2
        have e0 := aGr ht hD hM hW hr hp (s := 0) (by omega)
        have e1 := aGr ht hD hM hW hr hp (s := 1) (by omega)
        simp only [Int.natCast_zero, Int.natCast_one, Nat.add_zero] at e0 e1
        simp only [eM, Int.ofNat_lt, hp, decide_true, cond_true, cJ (show p < 9223372036854775807 by omega), e0, e1, Option.bind_some]
        rw [hy _ r p hr hp (by simp only [List.length_append, List.length_map, List.length_range, List.length_cons, List.length_nil]; omega), Option.bind_some]
        refine ih2 _ ?_
        rw [List.range_succ, List.map_append, List.append_assoc]; rfl
      · rintro q out rfl
        have hlt : decide ((cK t r : Int) < (cK t r : Int)) = false := decide_eq_false (by omega)
        simp only [eM, hlt, cond_false, nF]
    simp only [dC, hlt, cond_true, hch, Option.bind_some, aGq ht (r := (r : Int)) (by omega) (by omega), hin, iF, mH]
    rw [cJ (show r < 9223372036854775807 by omega)]
    exact ih _ (congrArg f (qS _ _)).symm
  · rintro k out rfl
    have hlt : decide (((t.Rounds.toNat : Nat) : Int) < t.Rounds) = false := decide_eq_false (by omega)
    simp only [dC, hlt, cond_false, mG]
    rfl
end

theorem aIi (t : aO) (l : List aE) {r : Int} (h : dU t l = some r) (Q : Int → Prop) (hq : Q r) : oC t l Q := by
  unfold oC
  rcases nZ t l with ⟨d, hg⟩ | ⟨e, he⟩
  · rw [mI hg] at h; cases h
    exact sI hg fun won _ => hq
  · rw [nI he] at h; cases h
    exact tU he hq
theorem aAm {t : aO} {l : List aE} {d : List Int} (h : Good t l d) {must : List (List Int)} (hd : dH t l = some (⟨d, must⟩, true)) (hM : MustIs t must (dN d (Res l))) : kF t l = some (mJ t d must, 0) := by
  unfold kF
  rw [mI h, Option.bind_some]
  simp only [decide_true, Bool.not_true, cond_false, hd, Option.bind_some, aIk h.ht h.dok hM]
theorem aIg {t : aO} {l : List aE} {e : Int} (h : Stat t l e) : kF t l = some ([], e) := by
  unfold kF
  rw [nI h, Option.bind_some]
  simp only [h.ne, Bool.not_false, cond_true]
theorem aIh (t : aO) (l : List aE) {r : List cF × Int} (h : kF t l = some r) (Q : List cF × Int → Prop) (hq : Q r) : oB t l Q := by
  unfold oB
  rcases nZ t l with ⟨d, hg⟩ | ⟨e, he⟩
  · obtain ⟨must, hd, hM⟩ := nJ hg
    rw [aAm hg hd hM] at h; cases h
    refine sI hg fun won hW => ?_
    simp only [decide_true, Bool.not_true, cond_false]
    refine ⟨_, rfl, _, ?_, hq⟩
    refine aHj hg.ht hg.dok hM hW _ (fun x => x) (fun _ => True) fun out r p hr hp hl => ?_
    rw [iT (by simp; omega)]; rfl
  · rw [aIg he] at h; cases h
    refine tU he ?_
    simp only [he.ne, Bool.not_false, cond_true]
    exact hq

theorem aMt {t : aO} {l : List aE} {e : Int} (h : Stat t l e) {r p : Int} {Q : (Option bB × aB × Int) → Prop} (hq : Q (none, ⟨r, p⟩, e)) : nP t l r p Q := by
  unfold nP
  refine tU h ?_
  simp only [h.ne, cond_false]
  exact ⟨_, rfl, hq⟩
theorem aLy {t : aO} {l : List aE} {d : List Int} (h : Good t l d) {r p : Int} {Q : (Option bB × aB × Int) → Prop} (hq : ∀ won, WonIs won (dN d (Res l)) → Q (some ⟨t, d, won⟩, ⟨r, p⟩, bif iB t r p then 0 else 1)) : nP t l r p Q := by
  unfold nP
  refine sI h fun won hW => ?_
  have := hq won hW
  simp only [decide_true, cond_true, aLq h.ht, Option.bind_some]
  refine ⟨_, rfl, ?_⟩
  cases hm : iB t r p with
  | true => rw [hm] at this; exact this
  | false => rw [hm] at this; exact this
theorem aCe {t : aO} {l : List aE} {e : Int} (h : Stat t l e) (r p : Int) : iZ t l r p = some e := by
  unfold iZ
  rw [nI h, Option.bind_some]
  simp only [h.ne, Bool.not_false, cond_true]
theorem uG {t : aO} {l : List aE} {d : List Int} (h : Good t l d) (r p : Int) : iZ t l r p = some (bif iB t r p then 0 else 1) := by
  unfold iZ
  rw [mI h, Option.bind_some]
  simp only [decide_true, Bool.not_true, cond_false, aAn h.ht, Option.bind_some]
  cases iB t r p <;> rfl
theorem aBk {t : aO} {r p : Int} (h : iB t r p = true) : ∃ r' p' : Nat, r = r' ∧ p = p' ∧ r' < t.Rounds.toNat ∧ p' < cK t r' := by
  simp only [iB, Bool.and_eq_true, gA] at h
  refine ⟨r.toNat, p.toNat, by omega, by omega, by omega, ?_⟩
  have e : ((r.toNat : Nat) : Int) = r := by omega
  rw [e]; omega
end Go.Am
