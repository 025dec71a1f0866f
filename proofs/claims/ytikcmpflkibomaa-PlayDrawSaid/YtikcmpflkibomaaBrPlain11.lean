/- Layer 7, plain: Check, Bouts and Winner are those of the reference. -/
import Derived.Test.YtikcmpflkibomaaBrPlain10
namespace Go.Am

/-- A valid tree with valid slips that agree. -/
structure Good (t : aV) (l : List aJ) (d : List Int) : Prop where
  tree : sE t = true
  len : l.length ≤ 60
  slips : ∀ s ∈ l, fR t s = true
  agr : AGR t l d
/-- The error of a tree and slips. -/
inductive Stat (t : aV) (l : List aJ) : Int → Prop
  | s70 : sE t = false → Stat t l 70
  | s71 : sE t = true → (60 < l.length ∨ ∃ s ∈ l, fR t s = false) → Stat t l 71
  | s72 : sE t = true → l.length ≤ 60 → (∀ s ∈ l, fR t s = true) → (∀ d, ¬ AGR t l d) → Stat t l 72
theorem Stat.ne {t : aV} {l : List aJ} {e : Int} (h : Stat t l e) : decide (e = 0) = false := by cases h <;> rfl
theorem rA (t : aV) (l : List aJ) : (∃ d, Good t l d) ∨ ∃ e, Stat t l e := by
  cases ht : sE t with
  | false => exact .inr ⟨70, .s70 ht⟩
  | true =>
    by_cases hl : 60 < l.length
    · exact .inr ⟨71, .s71 ht (.inl hl)⟩
    · by_cases hs : ∃ s ∈ l, fR t s = false
      · exact .inr ⟨71, .s71 ht (.inr hs)⟩
      · have hs' : ∀ s ∈ l, fR t s = true := fun s hm => by
          cases h : fR t s with
          | true => rfl
          | false => exact absurd ⟨s, hm, h⟩ hs
        by_cases hd : ∃ d, AGR t l d
        · obtain ⟨d, hd⟩ := hd
          exact .inl ⟨d, ht, by omega, hs', hd⟩
        · exact .inr ⟨72, .s72 ht (by omega) hs' fun d h => hd ⟨d, h⟩⟩
theorem Good.ht {t : aV} {l : List aJ} {d : List Int} (h : Good t l d) : TreeOK t := oJ h.tree
theorem Good.dok {t : aV} {l : List aJ} {d : List Int} (h : Good t l d) : DOK t d := xK h.ht h.slips h.agr.1
theorem Good.uniq {t : aV} {l : List aJ} {d d' : List Int} (h : Good t l d) (h' : Good t l d') : d = d' := by
  have := h.agr.1
  rw [h'.agr.1] at this
  exact (Option.some.inj this).symm

theorem aBn {t : aV} {l : List aJ} {e : Int} (h : Stat t l e) {Q : (Option bX × Int) → Prop} (hq : Q (none, e)) : jD t l Q := by
  unfold jD
  refine ⟨_, aEf t, ?_⟩
  cases h with
  | s70 ht => simp only [ht, Bool.not_false, cond_true]; exact hq
  | s71 ht hs =>
    simp only [ht, Bool.not_true, cond_false]
    by_cases hl : 60 < l.length
    · have : decide (60 < (l.length : Int)) = true := decide_eq_true (by omega)
      simp only [this, cond_true]
      exact ⟨_, rfl, hq⟩
    · have : decide (60 < (l.length : Int)) = false := decide_eq_false (by omega)
      simp only [this, cond_false]
      rw [nH l (by omega) _ (fun s => !fR t s) fun x _ => by simp [kZ, zC (oJ ht)]]
      refine ⟨_, rfl, ?_⟩
      have : (l.any fun s => !fR t s) = true := by
        rcases hs with h | ⟨s, h1, h2⟩
        · exact absurd h hl
        · rw [List.any_eq_true]; exact ⟨s, h1, by rw [h2]; rfl⟩
      simp only [this, cond_true]; exact hq
  | s72 ht hl hs hno =>
    have : decide (60 < (l.length : Int)) = false := decide_eq_false (by omega)
    simp only [ht, Bool.not_true, cond_false, this]
    rw [nH l (by omega) _ (fun s => !fR t s) fun x _ => by simp [kZ, zC (oJ ht)]]
    refine ⟨_, rfl, ?_⟩
    have : (l.any fun s => !fR t s) = false := by
      rw [List.any_eq_false]; intro s hm; rw [hs s hm]; simp
    simp only [this, cond_false]
    exact aBy (oJ ht) hs (by omega) (fun d hd => absurd hd (hno d)) fun _ => hq
theorem zO {t : aV} {l : List aJ} {d : List Int} (h : Good t l d) {Q : (Option bX × Int) → Prop} (hq : ∀ won, WonIs won (iY d (Res l)) → Q (some ⟨t, d, won⟩, 0)) : jD t l Q := by
  unfold jD
  have hl := h.len
  have : decide (60 < (l.length : Int)) = false := decide_eq_false (by omega)
  refine ⟨_, aEf t, ?_⟩
  simp only [h.tree, Bool.not_true, cond_false, this]
  rw [nH l (by omega) _ (fun s => !fR t s) fun x _ => by simp [kZ, zC h.ht]]
  refine ⟨_, rfl, ?_⟩
  have : (l.any fun s => !fR t s) = false := by
    rw [List.any_eq_false]; intro s hm; rw [h.slips s hm]; simp
  simp only [this, cond_false]
  refine aBy h.ht h.slips (by omega) (fun d' hd won hW => ?_) fun hno => absurd h.agr (hno d)
  have := h.uniq ⟨h.tree, h.len, h.slips, hd⟩
  subst this
  exact hq won hW

theorem vP {t : aV} (ht : TreeOK t) {l : List aJ} (hl : l.length ≤ 60) : iH l t BIG 0 = bif l.all (fR t) then jU l t else some 71 := by
  have := pP (fun k i => iH l t k i) l.length (fun i => l[i]?.any (fR t)) (some 71) (jU l t) ?_ ?_ BIG (eG (by omega))
  · rw [this]
    have e : (List.range l.length).all (fun i => l[i]?.any (fR t)) = l.all (fR t) := by
      rw [Bool.eq_iff_iff, qA, List.all_eq_true]
      constructor
      · intro h x hx
        obtain ⟨i, hi, rfl⟩ := List.mem_iff_getElem.1 hx
        have := h i hi
        rwa [List.getElem?_eq_getElem hi] at this
      · intro h i hi
        rw [List.getElem?_eq_getElem hi]
        exact h _ (List.getElem_mem hi)
    rw [e]
  · intro k i hi
    simp only [iH, Int.ofNat_lt, hi, decide_true, cond_true, dL hi, Option.bind_some, aIl ht, dI (show i < 9223372036854775807 by omega), List.getElem?_eq_getElem hi, Option.any_some]
    cases fR t l[i] <;> rfl
  · intro k
    have hlt : decide ((l.length : Int) < (l.length : Int)) = false := decide_eq_false (by omega)
    simp only [iH, hlt, cond_false]
theorem yH {t : aV} {l : List aJ} {e : Int} (h : Stat t l e) : gA t l = some e := by
  unfold gA
  rw [aDu, Option.bind_some]
  cases h with
  | s70 ht => simp only [ht, Bool.not_false, cond_true]
  | s71 ht hs =>
    simp only [ht, Bool.not_true, cond_false]
    by_cases hl : 60 < l.length
    · have : decide (60 < (l.length : Int)) = true := decide_eq_true (by omega)
      simp only [this, cond_true]
    · have : decide (60 < (l.length : Int)) = false := decide_eq_false (by omega)
      have h2 : l.all (fR t) = false := by
        rcases hs with h | ⟨s, h1, h2⟩
        · exact absurd h hl
        · rw [List.all_eq_false]; exact ⟨s, h1, by simp [h2]⟩
      simp only [this, cond_false, vP (oJ ht) (show l.length ≤ 60 by omega), h2]
  | s72 ht hl hs hno =>
    have : decide (60 < (l.length : Int)) = false := decide_eq_false (by omega)
    have h2 : l.all (fR t) = true := by rw [List.all_eq_true]; exact hs
    simp only [ht, Bool.not_true, cond_false, this, vP (oJ ht) hl, h2, cond_true, jU, (aDy (oJ ht) hs (by omega)).2 hno, Option.bind_some, Bool.not_false]
theorem sJ {t : aV} {l : List aJ} {d : List Int} (h : Good t l d) : ∃ must, eK t l = some (⟨d, must⟩, true) ∧ MustIs t must (iY d (Res l)) :=
  (aDy h.ht h.slips (by have := h.len; omega)).1 d h.agr
theorem tD {t : aV} {l : List aJ} {d : List Int} (h : Good t l d) : gA t l = some 0 := by
  have hl := h.len
  have : decide (60 < (l.length : Int)) = false := decide_eq_false (by omega)
  have h2 : l.all (fR t) = true := by rw [List.all_eq_true]; exact h.slips
  obtain ⟨must, hd, _⟩ := sJ h
  unfold gA
  rw [aDu, Option.bind_some]
  simp only [h.tree, Bool.not_true, cond_false, this, vP h.ht hl, h2, cond_true, jU, hd, Option.bind_some]

/-! What is known of a match. -/
theorem aFr {t : aV} {won : List (aG × Int)} {must : List (List Int)} {P : lC} (hW : WonIs won P) (hM : MustIs t must P) {r p : Nat} (hr : r < t.Rounds.toNat) (hp : p < dA t r) :
    dU (⟨r, p⟩ : aG) won = !decide (mat must r p = -2) := by
  rw [Bool.eq_iff_iff, hW.has, Bool.not_eq_true', decide_eq_false_iff_not]
  constructor
  · rintro ⟨v, hv⟩
    have := (hM.mem r p v hr hp).2 hv
    rw [this.1]; exact this.2
  · exact fun h => ⟨_, (hM.mem r p _ hr hp).1 ⟨rfl, h⟩⟩
theorem aFq {t : aV} {won : List (aG × Int)} {must : List (List Int)} {P : lC} (hW : WonIs won P) (hM : MustIs t must P) {r p : Nat} (hr : r < t.Rounds.toNat) (hp : p < dA t r) (h : mat must r p ≠ -2) (z : Int) :
    cZ (⟨r, p⟩ : aG) z won = mat must r p := hW.get ((hM.mem r p _ hr hp).1 ⟨rfl, h⟩)
theorem aHh {t : aV} {must : List (List Int)} {P : lC} (hM : MustIs t must P) {r p : Nat} (hr : r < t.Rounds.toNat) (hp : p < dA t r) : ((idx must (r : Int)).bind fun x => idx x (p : Int)) = some (mat must r p) := by
  have hl := hM.len
  have hrow := hM.row r hr
  have hrl : r < must.length := by omega
  rw [dL hrl, Option.bind_some]
  unfold mat
  rw [cV hrl] at hrow ⊢
  have hp' : p < must[r].length := by omega
  rw [dL hp', cV hp']
theorem aAx {t : aV} {r : Nat} (hr : r + 1 < t.Rounds.toNat) : dA t r = 2 * dA t ((r + 1 : Nat) : Int) := by
  unfold dA
  have e : t.Rounds.toNat - 1 - ((r : Nat) : Int).toNat = (t.Rounds.toNat - 1 - ((r + 1 : Nat) : Int).toNat) + 1 := by omega
  rw [e, Nat.pow_succ]; omega
/-- A side of a match. -/
def lU (d : List Int) (must : List (List Int)) (r at' : Nat) : Int := if r = 0 then d.getD at' 0 else mat must (r - 1) at'

section
variable {t : aV} (ht : TreeOK t) {d : List Int} (hD : DOK t d) {must : List (List Int)} {P : lC} (hM : MustIs t must P) {won : List (aG × Int)} (hW : WonIs won P)
include ht hD hM
theorem aJz {r p s : Nat} (hr : r < t.Rounds.toNat) (hp : p < dA t r) (hs : s < 2) : pH ⟨d, must⟩ r p s = some (lU d must r (2 * p + s)) := by
  have hpl := kW ht (r := (r : Int))
  have h5 := ht.r5
  have w1 : w64 (2 * (p : Int)) = ((2 * p : Nat) : Int) := by rw [gE (by omega) (by omega)]; omega
  have w2 : w64 (((2 * p : Nat) : Int) + (s : Int)) = ((2 * p + s : Nat) : Int) := by rw [gE (by omega) (by omega)]; omega
  unfold pH lU
  simp only [w1, w2]
  by_cases h0 : r = 0
  · subst h0
    have hp0 := aAi ht
    have hlen := hD.len
    have hpl2 : p < dA t 0 := hp
    have hi : 2 * p + s < d.length := by omega
    simp only [Int.natCast_zero, decide_true, cond_true, dL hi, Option.bind_some, if_true, cV hi]
  · have hr0 : decide ((r : Int) = 0) = false := decide_eq_false (by omega)
    have hw : w64 ((r : Int) - 1) = ((r - 1 : Nat) : Int) := aBr (by omega) (by omega)
    have hph := aAx (t := t) (r := r - 1) (by omega)
    have e : r - 1 + 1 = r := by omega
    rw [e] at hph
    have := aHh hM (r := r - 1) (p := 2 * p + s) (by omega) (by omega)
    simp only [hr0, cond_false, hw, if_neg h0]
    rw [← this]
    congr 1
    funext x
    cases idx x ((2 * p + s : Nat) : Int) <;> rfl
include hW
theorem aHq {r p s : Nat} (hr : r < t.Rounds.toNat) (hp : p < dA t r) (hs : s < 2) : jL ⟨t, d, won⟩ ⟨r, p⟩ s = some (lU d must r (2 * p + s)) := by
  have hpl := kW ht (r := (r : Int))
  have h5 := ht.r5
  have w1 : w64 (2 * (p : Int)) = ((2 * p : Nat) : Int) := by rw [gE (by omega) (by omega)]; omega
  have w2 : w64 (((2 * p : Nat) : Int) + (s : Int)) = ((2 * p + s : Nat) : Int) := by rw [gE (by omega) (by omega)]; omega
  unfold jL lU
  simp only [w1, w2]
  by_cases h0 : r = 0
  · subst h0
    have hp0 := aAi ht
    have hlen := hD.len
    have hpl2 : p < dA t 0 := hp
    have hi : 2 * p + s < d.length := by omega
    simp only [Int.natCast_zero, decide_true, cond_true, dL hi, Option.bind_some, if_true, cV hi]
  · have hr0 : decide ((r : Int) = 0) = false := decide_eq_false (by omega)
    have hw : w64 ((r : Int) - 1) = ((r - 1 : Nat) : Int) := aBr (by omega) (by omega)
    have hph := aAx (t := t) (r := r - 1) (by omega)
    have e : r - 1 + 1 = r := by omega
    rw [e] at hph
    simp only [hr0, cond_false, hw, if_neg h0]
    have h1 : r - 1 < t.Rounds.toNat := by omega
    have h2 : 2 * p + s < dA t ((r - 1 : Nat) : Int) := by omega
    rw [aFr hW hM h1 h2]
    by_cases hm : mat must (r - 1) (2 * p + s) = -2
    · simp only [hm, decide_true, Bool.not_true, cond_false]
    · simp only [hm, decide_false, Bool.not_false, cond_true, aFq hW hM h1 h2 hm]
omit ht hD hM hW
/-- The matches of a round, with their players. -/
def mU (t : aV) (d : List Int) (must : List (List Int)) (r : Nat) : List bN := (List.range (dA t r)).map fun p : Nat => ⟨r, p, lU d must r (2 * p), lU d must r (2 * p + 1)⟩
def dN (t : aV) (d : List Int) (must : List (List Int)) : List bN := (List.range t.Rounds.toNat).flatMap (mU t d must)
theorem tG {α : Type} (f : Nat → List α) (n : Nat) : (List.range (n + 1)).flatMap f = (List.range n).flatMap f ++ f n := by
  rw [List.range_succ, List.flatMap_append]; simp
include ht
theorem aKn (r : Nat) : (mU t d must r).length ≤ 16 := by
  have := kW ht (r := (r : Int))
  simpa [mU] using this
theorem uW : ∀ r, ((List.range r).flatMap (mU t d must)).length ≤ 16 * r
  | 0 => by simp
  | r + 1 => by
    have h1 := uW r
    have h2 := aKn ht (d := d) (must := must) r
    rw [tG, List.length_append]; omega
include hD hM
theorem aJd : pN t ⟨d, must⟩ = some (dN t d must) := by
  have h1 := ht.r1
  have h5 := ht.r5
  unfold pN
  have := hZ (S := List bN) (fun k r out => fC t ⟨d, must⟩ k r out) t.Rounds.toNat (fun _ _ => some (dN t d must)) (fun r out => out = (List.range r).flatMap (mU t d must)) ?_ ?_ BIG [] (eG (by omega)) (by simp)
  · exact this
  · rintro k r out hr rfl ih
    have hfl := uW ht (d := d) (must := must) r
    have hpl := kW ht (r := (r : Int))
    have hlt : decide ((r : Int) < t.Rounds) = true := decide_eq_true (by omega)
    have hin : iI (fC t ⟨d, must⟩ k) r t ⟨d, must⟩ BIG 0 ((List.range r).flatMap (mU t d must)) = lS (fC t ⟨d, must⟩ k) r t ⟨d, must⟩ ((List.range r).flatMap (mU t d must) ++ mU t d must r) := by
      have hP := yJ ht (r := (r : Int)) (by omega) (by omega)
      refine hZ (S := List bN) (fun q p out => iI (fC t ⟨d, must⟩ k) r t ⟨d, must⟩ q p out) (dA t r) (fun _ _ => lS (fC t ⟨d, must⟩ k) r t ⟨d, must⟩ ((List.range r).flatMap (mU t d must) ++ mU t d must r))
        (fun p out => out = (List.range r).flatMap (mU t d must) ++ (List.range p).map fun p : Nat => (⟨r, p, lU d must r (2 * p), lU d must r (2 * p + 1)⟩ : bN)) ?_ ?_ BIG _ (eG (by omega)) (by simp)
      · rintro q p out hp rfl ih2
        simp only [iI, hP, Option.bind_some, Int.ofNat_lt, hp, decide_true, cond_true, dI (show p < 9223372036854775807 by omega)]
        have e0 := aJz ht hD hM hr hp (s := 0) (by omega)
        have e1 := aJz ht hD hM hr hp (s := 1) (by omega)
        simp only [Int.natCast_zero, Int.natCast_one, Nat.add_zero] at e0 e1
        rw [e0, Option.bind_some, e1, Option.bind_some, kD (by simp only [List.length_append, List.length_map, List.length_range, List.length_cons, List.length_nil]; omega), Option.bind_some]
        refine ih2 _ ?_
        rw [List.range_succ, List.map_append, List.append_assoc]; rfl
      · rintro q out rfl
        have hlt : decide ((dA t r : Int) < (dA t r : Int)) = false := decide_eq_false (by omega)
        simp only [iI, hP, Option.bind_some, hlt, cond_false, mU]
    simp only [fC, hlt, cond_true, hin, lS, rH, dI (show r < 9223372036854775807 by omega)]
    exact ih _ (tG _ _).symm
  · rintro k out rfl
    have hlt : decide (((t.Rounds.toNat : Nat) : Int) < t.Rounds) = false := decide_eq_false (by omega)
    simp only [fC, hlt, cond_false, rG]
    rfl
include hW
/-- What a loop over the matches does. -/
theorem aIo {S : Type} (y : S → aG → bN → Option S) (f : List bN → S) (good : List bN → Prop)
    (hy : ∀ (out : List bN) (r p : Nat), r < t.Rounds.toNat → p < dA t r → out.length ≤ 200 → y (f out) ⟨r, p⟩ ⟨r, p, lU d must r (2 * p), lU d must r (2 * p + 1)⟩ = some (f (out ++ [⟨r, p, lU d must r (2 * p), lU d must r (2 * p + 1)⟩]))) :
    jB ⟨t, d, won⟩ y (f []) = some (f (dN t d must)) := by
  have h1 := ht.r1
  have h5 := ht.r5
  unfold jB
  have := hZ (S := S) (fun k r out => dQ y ⟨t, d, won⟩ t.Rounds k r out) t.Rounds.toNat (fun _ _ => some (f (dN t d must))) (fun r out => out = f ((List.range r).flatMap (mU t d must))) ?_ ?_ BIG (f []) (eG (by omega)) (by simp)
  · exact this
  · rintro k r out hr rfl ih
    have hfl := uW ht (d := d) (must := must) r
    have hpl := kW ht (r := (r : Int))
    have hlt : decide ((r : Int) < t.Rounds) = true := decide_eq_true (by omega)
    have hch : chk (decide (0 ≤ w64 ((r : Int) + 1))) = some () := by
      rw [dI (by omega)]; unfold chk; rw [decide_eq_true (by omega)]; rfl
    have hin : eT y (dQ y ⟨t, d, won⟩ t.Rounds k) ⟨t, d, won⟩ r t.Rounds r (dA t r) BIG 0 (f ((List.range r).flatMap (mU t d must))) =
        iC y (dQ y ⟨t, d, won⟩ t.Rounds k) ⟨t, d, won⟩ t.Rounds r (f ((List.range r).flatMap (mU t d must) ++ mU t d must r)) := by
      refine hZ (S := S) (fun q p out => eT y (dQ y ⟨t, d, won⟩ t.Rounds k) ⟨t, d, won⟩ r t.Rounds r (dA t r) q p out) (dA t r) (fun _ _ => iC y (dQ y ⟨t, d, won⟩ t.Rounds k) ⟨t, d, won⟩ t.Rounds r (f ((List.range r).flatMap (mU t d must) ++ mU t d must r)))
        (fun p out => out = f ((List.range r).flatMap (mU t d must) ++ (List.range p).map fun p : Nat => (⟨r, p, lU d must r (2 * p), lU d must r (2 * p + 1)⟩ : bN))) ?_ ?_ BIG _ (eG (by omega)) (by simp)
      · rintro q p out hp rfl ih2
        have e0 := aHq ht hD hM hW hr hp (s := 0) (by omega)
        have e1 := aHq ht hD hM hW hr hp (s := 1) (by omega)
        simp only [Int.natCast_zero, Int.natCast_one, Nat.add_zero] at e0 e1
        simp only [eT, Int.ofNat_lt, hp, decide_true, cond_true, dI (show p < 9223372036854775807 by omega), e0, e1, Option.bind_some]
        rw [hy _ r p hr hp (by simp only [List.length_append, List.length_map, List.length_range, List.length_cons, List.length_nil]; omega), Option.bind_some]
        refine ih2 _ ?_
        rw [List.range_succ, List.map_append, List.append_assoc]; rfl
      · rintro q out rfl
        have hlt : decide ((dA t r : Int) < (dA t r : Int)) = false := decide_eq_false (by omega)
        simp only [eT, hlt, cond_false, mU]
    simp only [dQ, hlt, cond_true, hch, Option.bind_some, aHp ht (r := (r : Int)) (by omega) (by omega), hin, iC, lW]
    rw [dI (show r < 9223372036854775807 by omega)]
    exact ih _ (congrArg f (tG _ _)).symm
  · rintro k out rfl
    have hlt : decide (((t.Rounds.toNat : Nat) : Int) < t.Rounds) = false := decide_eq_false (by omega)
    simp only [dQ, hlt, cond_false, lV]
    rfl
end

theorem aIz (t : aV) (l : List aJ) {r : Int} (h : gA t l = some r) (Q : Int → Prop) (hq : Q r) : nQ t l Q := by
  unfold nQ
  rcases rA t l with ⟨d, hg⟩ | ⟨e, he⟩
  · rw [tD hg] at h; cases h
    exact zO hg fun won _ => hq
  · rw [yH he] at h; cases h
    exact aBn he hq
theorem aBt {t : aV} {l : List aJ} {d : List Int} (h : Good t l d) {must : List (List Int)} (hd : eK t l = some (⟨d, must⟩, true)) (hM : MustIs t must (iY d (Res l))) : jY t l = some (dN t d must, 0) := by
  unfold jY
  rw [tD h, Option.bind_some]
  simp only [decide_true, Bool.not_true, cond_false, hd, Option.bind_some, aJd h.ht h.dok hM]
theorem aDt {t : aV} {l : List aJ} {e : Int} (h : Stat t l e) : jY t l = some ([], e) := by
  unfold jY
  rw [yH h, Option.bind_some]
  simp only [h.ne, Bool.not_false, cond_true]
theorem aIy (t : aV) (l : List aJ) {r : List bN × Int} (h : jY t l = some r) (Q : List bN × Int → Prop) (hq : Q r) : nP t l Q := by
  unfold nP
  rcases rA t l with ⟨d, hg⟩ | ⟨e, he⟩
  · obtain ⟨must, hd, hM⟩ := sJ hg
    rw [aBt hg hd hM] at h; cases h
    refine zO hg fun won hW => ?_
    simp only [decide_true, Bool.not_true, cond_false]
    refine ⟨_, rfl, _, ?_, hq⟩
    refine aIo hg.ht hg.dok hM hW _ (fun x => x) (fun _ => True) fun out r p hr hp hl => ?_
    rw [kD (by simp; omega)]; rfl
  · rw [aDt he] at h; cases h
    refine aBn he ?_
    simp only [he.ne, Bool.not_false, cond_true]
    exact hq

theorem aNi {t : aV} {l : List aJ} {e : Int} (h : Stat t l e) {r p : Int} {Q : (Option bX × aG × Int) → Prop} (hq : Q (none, ⟨r, p⟩, e)) : nK t l r p Q := by
  unfold nK
  refine aBn h ?_
  simp only [h.ne, cond_false]
  exact ⟨_, rfl, hq⟩
theorem aMf {t : aV} {l : List aJ} {d : List Int} (h : Good t l d) {r p : Int} {Q : (Option bX × aG × Int) → Prop} (hq : ∀ won, WonIs won (iY d (Res l)) → Q (some ⟨t, d, won⟩, ⟨r, p⟩, bif gU t r p then 0 else 1)) : nK t l r p Q := by
  unfold nK
  refine zO h fun won hW => ?_
  have := hq won hW
  simp only [decide_true, cond_true, aLw h.ht, Option.bind_some]
  refine ⟨_, rfl, ?_⟩
  cases hm : gU t r p with
  | true => rw [hm] at this; exact this
  | false => rw [hm] at this; exact this
theorem aDi {t : aV} {l : List aJ} {e : Int} (h : Stat t l e) (r p : Int) : iT t l r p = some e := by
  unfold iT
  rw [yH h, Option.bind_some]
  simp only [h.ne, Bool.not_false, cond_true]
theorem uX {t : aV} {l : List aJ} {d : List Int} (h : Good t l d) (r p : Int) : iT t l r p = some (bif gU t r p then 0 else 1) := by
  unfold iT
  rw [tD h, Option.bind_some]
  simp only [decide_true, Bool.not_true, cond_false, aBu h.ht, Option.bind_some]
  cases gU t r p <;> rfl
theorem aCm {t : aV} {r p : Int} (h : gU t r p = true) : ∃ r' p' : Nat, r = r' ∧ p = p' ∧ r' < t.Rounds.toNat ∧ p' < dA t r' := by
  simp only [gU, Bool.and_eq_true, jV] at h
  refine ⟨r.toNat, p.toNat, by omega, by omega, by omega, ?_⟩
  have e : ((r.toNat : Nat) : Int) = r := by omega
  rw [e]; omega
theorem aHx {t : aV} {l : List aJ} {e : Int} (h : Stat t l e) (r p : Int) : fQ t l r p = some (0, e) := by
  unfold fQ
  rw [aDi h, Option.bind_some]
  simp only [h.ne, Bool.not_false, cond_true]
theorem aHw {t : aV} {l : List aJ} {d : List Int} (h : Good t l d) {r p : Int} (hm : gU t r p = false) : fQ t l r p = some (0, 1) := by
  unfold fQ
  rw [uX h, hm, Option.bind_some]
  rfl
theorem aAp {t : aV} {l : List aJ} {d : List Int} (h : Good t l d) {must : List (List Int)} (hd : eK t l = some (⟨d, must⟩, true)) (hM : MustIs t must (iY d (Res l))) {r p : Nat} (hm : gU t r p = true) :
    fQ t l r p = some (if mat must r p = -2 then (0, 3) else (mat must r p, 0)) := by
  obtain ⟨r', p', e1, e2, hr, hp⟩ := aCm hm
  have e1 : r = r' := by omega
  have e2 : p = p' := by omega
  subst e1; subst e2
  have hi := aHh hM hr hp
  unfold fQ
  rw [uX h, hm, Option.bind_some]
  simp only [cond_true, decide_true, Bool.not_true, cond_false, hd, Option.bind_some]
  rw [← Option.bind_assoc, hi, Option.bind_some]
  by_cases h2 : mat must r p = -2
  · simp only [h2, decide_true, cond_true, if_true]
  · simp only [h2, decide_false, cond_false, if_false]
    rw [← Option.bind_assoc, hi, Option.bind_some]
theorem aHy (t : aV) (l : List aJ) (r p : Int) {o : Int × Int} (h : fQ t l r p = some o) (Q : Int × Int → Prop) (hq : Q o) : mX t l r p Q := by
  unfold mX
  rcases rA t l with ⟨d, hg⟩ | ⟨e, he⟩
  · refine aMf hg fun won hW => ?_
    cases hm : gU t r p with
    | false =>
      rw [aHw hg hm] at h; cases h
      exact hq
    | true =>
      obtain ⟨r', p', rfl, rfl, hr, hp⟩ := aCm hm
      obtain ⟨must, hd, hM⟩ := sJ hg
      rw [aAp hg hd hM hm] at h; cases h
      simp only [cond_true, decide_true, Bool.not_true, cond_false]
      refine ⟨_, rfl, ?_⟩
      simp only [aFr hW hM hr hp]
      by_cases h2 : mat must r' p' = -2
      · rw [if_pos h2] at hq
        simp only [h2, decide_true, Bool.not_true, Bool.not_false, cond_true]; exact hq
      · rw [if_neg h2] at hq
        simp only [h2, decide_false, Bool.not_true, Bool.not_false, cond_false, aFq hW hM hr hp h2]; exact hq
  · rw [aHx he] at h; cases h
    refine aNi he ?_
    simp only [he.ne, Bool.not_false, cond_true]
    exact hq
end Go.Am
