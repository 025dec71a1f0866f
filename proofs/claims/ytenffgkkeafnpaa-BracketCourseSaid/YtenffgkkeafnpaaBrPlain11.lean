/- Layer 7, plain: Check, Bouts and Winner are those of the reference. -/
import Derived.Test.YtenffgkkeafnpaaBrPlain10
namespace Go.Am

/-- A valid tree with valid slips that agree. -/
structure Good (t : aT) (l : List aI) (d : List Int) : Prop where
  tree : sF t = true
  len : l.length ≤ 60
  slips : ∀ s ∈ l, fD t s = true
  agr : AGR t l d
/-- The error of a tree and slips. -/
inductive Stat (t : aT) (l : List aI) : Int → Prop
  | s70 : sF t = false → Stat t l 70
  | s71 : sF t = true → (60 < l.length ∨ ∃ s ∈ l, fD t s = false) → Stat t l 71
  | s72 : sF t = true → l.length ≤ 60 → (∀ s ∈ l, fD t s = true) → (∀ d, ¬ AGR t l d) → Stat t l 72
theorem Stat.ne {t : aT} {l : List aI} {e : Int} (h : Stat t l e) : decide (e = 0) = false := by cases h <;> rfl
theorem pI (t : aT) (l : List aI) : (∃ d, Good t l d) ∨ ∃ e, Stat t l e := by
  cases ht : sF t with
  | false => exact .inr ⟨70, .s70 ht⟩
  | true =>
    by_cases hl : 60 < l.length
    · exact .inr ⟨71, .s71 ht (.inl hl)⟩
    · by_cases hs : ∃ s ∈ l, fD t s = false
      · exact .inr ⟨71, .s71 ht (.inr hs)⟩
      · have hs' : ∀ s ∈ l, fD t s = true := fun s hm => by
          cases h : fD t s with
          | true => rfl
          | false => exact absurd ⟨s, hm, h⟩ hs
        by_cases hd : ∃ d, AGR t l d
        · obtain ⟨d, hd⟩ := hd
          exact .inl ⟨d, ht, by omega, hs', hd⟩
        · exact .inr ⟨72, .s72 ht (by omega) hs' fun d h => hd ⟨d, h⟩⟩
theorem Good.ht {t : aT} {l : List aI} {d : List Int} (h : Good t l d) : TreeOK t := oJ h.tree
theorem Good.dok {t : aT} {l : List aI} {d : List Int} (h : Good t l d) : DOK t d := wR h.ht h.slips h.agr.1
theorem Good.uniq {t : aT} {l : List aI} {d d' : List Int} (h : Good t l d) (h' : Good t l d') : d = d' := by
  have := h.agr.1
  rw [h'.agr.1] at this
  exact (Option.some.inj this).symm

theorem wP {t : aT} {l : List aI} {e : Int} (h : Stat t l e) {Q : (Option bI × Int) → Prop} (hq : Q (none, e)) : iQ t l Q := by
  unfold iQ
  refine ⟨_, aCo t, ?_⟩
  cases h with
  | s70 ht => simp only [ht, Bool.not_false, cond_true]; exact hq
  | s71 ht hs =>
    simp only [ht, Bool.not_true, cond_false]
    by_cases hl : 60 < l.length
    · have : decide (60 < (l.length : Int)) = true := decide_eq_true (by omega)
      simp only [this, cond_true]
      exact ⟨_, rfl, hq⟩
    · have : decide (60 < (l.length : Int)) = false := decide_eq_false (by omega)
      simp only [this, cond_false]
      rw [nI l (by omega) _ (fun s => !fD t s) fun x _ => by simp [lO, xY (oJ ht)]]
      refine ⟨_, rfl, ?_⟩
      have : (l.any fun s => !fD t s) = true := by
        rcases hs with h | ⟨s, h1, h2⟩
        · exact absurd h hl
        · rw [List.any_eq_true]; exact ⟨s, h1, by rw [h2]; rfl⟩
      simp only [this, cond_true]; exact hq
  | s72 ht hl hs hno =>
    have : decide (60 < (l.length : Int)) = false := decide_eq_false (by omega)
    simp only [ht, Bool.not_true, cond_false, this]
    rw [nI l (by omega) _ (fun s => !fD t s) fun x _ => by simp [lO, xY (oJ ht)]]
    refine ⟨_, rfl, ?_⟩
    have : (l.any fun s => !fD t s) = false := by
      rw [List.any_eq_false]; intro s hm; rw [hs s hm]; simp
    simp only [this, cond_false]
    exact aAp (oJ ht) hs (by omega) (fun d hd => absurd hd (hno d)) fun _ => hq
theorem uO {t : aT} {l : List aI} {d : List Int} (h : Good t l d) {Q : (Option bI × Int) → Prop} (hq : ∀ won, WonIs won (eR d (Res l)) → Q (some ⟨t, d, won⟩, 0)) : iQ t l Q := by
  unfold iQ
  have hl := h.len
  have : decide (60 < (l.length : Int)) = false := decide_eq_false (by omega)
  refine ⟨_, aCo t, ?_⟩
  simp only [h.tree, Bool.not_true, cond_false, this]
  rw [nI l (by omega) _ (fun s => !fD t s) fun x _ => by simp [lO, xY h.ht]]
  refine ⟨_, rfl, ?_⟩
  have : (l.any fun s => !fD t s) = false := by
    rw [List.any_eq_false]; intro s hm; rw [h.slips s hm]; simp
  simp only [this, cond_false]
  refine aAp h.ht h.slips (by omega) (fun d' hd won hW => ?_) fun hno => absurd h.agr (hno d)
  have := h.uniq ⟨h.tree, h.len, h.slips, hd⟩
  subst this
  exact hq won hW

theorem uV {t : aT} (ht : TreeOK t) {l : List aI} (hl : l.length ≤ 60) : fP l t BIG 0 = bif l.all (fD t) then iO l t else some 71 := by
  have := wK (fun k i => fP l t k i) l.length (fun i => l[i]?.any (fD t)) (some 71) (iO l t) ?_ ?_ BIG (dD (by omega))
  · rw [this]
    have e : (List.range l.length).all (fun i => l[i]?.any (fD t)) = l.all (fD t) := by
      rw [Bool.eq_iff_iff, qM, List.all_eq_true]
      constructor
      · intro h x hx
        obtain ⟨i, hi, rfl⟩ := List.mem_iff_getElem.1 hx
        have := h i hi
        rwa [List.getElem?_eq_getElem hi] at this
      · intro h i hi
        rw [List.getElem?_eq_getElem hi]
        exact h _ (List.getElem_mem hi)
    rw [e]
  · intro k i hi
    simp only [fP, Int.ofNat_lt, hi, decide_true, cond_true, cH hi, Option.bind_some, aHb ht, cJ (show i < 9223372036854775807 by omega), List.getElem?_eq_getElem hi, Option.any_some]
    cases fD t l[i] <;> rfl
  · intro k
    have hlt : decide ((l.length : Int) < (l.length : Int)) = false := decide_eq_false (by omega)
    simp only [fP, hlt, cond_false]
theorem sG {t : aT} {l : List aI} {e : Int} (h : Stat t l e) : eT t l = some e := by
  unfold eT
  rw [aCe, Option.bind_some]
  cases h with
  | s70 ht => simp only [ht, Bool.not_false, cond_true]
  | s71 ht hs =>
    simp only [ht, Bool.not_true, cond_false]
    by_cases hl : 60 < l.length
    · have : decide (60 < (l.length : Int)) = true := decide_eq_true (by omega)
      simp only [this, cond_true]
    · have : decide (60 < (l.length : Int)) = false := decide_eq_false (by omega)
      have h2 : l.all (fD t) = false := by
        rcases hs with h | ⟨s, h1, h2⟩
        · exact absurd h hl
        · rw [List.all_eq_false]; exact ⟨s, h1, by simp [h2]⟩
      simp only [this, cond_false, uV (oJ ht) (show l.length ≤ 60 by omega), h2]
  | s72 ht hl hs hno =>
    have : decide (60 < (l.length : Int)) = false := decide_eq_false (by omega)
    have h2 : l.all (fD t) = true := by rw [List.all_eq_true]; exact hs
    simp only [ht, Bool.not_true, cond_false, this, uV (oJ ht) hl, h2, cond_true, iO, (aCh (oJ ht) hs (by omega)).2 hno, Option.bind_some, Bool.not_false]
theorem oT {t : aT} {l : List aI} {d : List Int} (h : Good t l d) : ∃ must, dA t l = some (⟨d, must⟩, true) ∧ MustIs t must (eR d (Res l)) :=
  (aCh h.ht h.slips (by have := h.len; omega)).1 d h.agr
theorem qO {t : aT} {l : List aI} {d : List Int} (h : Good t l d) : eT t l = some 0 := by
  have hl := h.len
  have : decide (60 < (l.length : Int)) = false := decide_eq_false (by omega)
  have h2 : l.all (fD t) = true := by rw [List.all_eq_true]; exact h.slips
  obtain ⟨must, hd, _⟩ := oT h
  unfold eT
  rw [aCe, Option.bind_some]
  simp only [h.tree, Bool.not_true, cond_false, this, uV h.ht hl, h2, cond_true, iO, hd, Option.bind_some]

/-! What is known of a match. -/
theorem wJ {t : aT} {won : List (aF × Int)} {must : List (List Int)} {P : lC} (hW : WonIs won P) (hM : MustIs t must P) {r p : Nat} (hr : r < t.Rounds.toNat) (hp : p < bZ t r) :
    cY (⟨r, p⟩ : aF) won = !decide (mat must r p = -2) := by
  rw [Bool.eq_iff_iff, hW.has, Bool.not_eq_true', decide_eq_false_iff_not]
  constructor
  · rintro ⟨v, hv⟩
    have := (hM.mem r p v hr hp).2 hv
    rw [this.1]; exact this.2
  · exact fun h => ⟨_, (hM.mem r p _ hr hp).1 ⟨rfl, h⟩⟩
theorem wI {t : aT} {won : List (aF × Int)} {must : List (List Int)} {P : lC} (hW : WonIs won P) (hM : MustIs t must P) {r p : Nat} (hr : r < t.Rounds.toNat) (hp : p < bZ t r) (h : mat must r p ≠ -2) (z : Int) :
    cN (⟨r, p⟩ : aF) z won = mat must r p := hW.get ((hM.mem r p _ hr hp).1 ⟨rfl, h⟩)
theorem aBz {t : aT} {must : List (List Int)} {P : lC} (hM : MustIs t must P) {r p : Nat} (hr : r < t.Rounds.toNat) (hp : p < bZ t r) : ((idx must (r : Int)).bind fun x => idx x (p : Int)) = some (mat must r p) := by
  have hl := hM.len
  have hrow := hM.row r hr
  have hrl : r < must.length := by omega
  rw [cH hrl, Option.bind_some]
  unfold mat
  rw [bT hrl] at hrow ⊢
  have hp' : p < must[r].length := by omega
  rw [cH hp', bT hp']
theorem pP {t : aT} {r : Nat} (hr : r + 1 < t.Rounds.toNat) : bZ t r = 2 * bZ t ((r + 1 : Nat) : Int) := by
  unfold bZ
  have e : t.Rounds.toNat - 1 - ((r : Nat) : Int).toNat = (t.Rounds.toNat - 1 - ((r + 1 : Nat) : Int).toNat) + 1 := by omega
  rw [e, Nat.pow_succ]; omega
/-- A side of a match. -/
def eI (d : List Int) (must : List (List Int)) (r at' : Nat) : Int := if r = 0 then d.getD at' 0 else mat must (r - 1) at'

section
variable {t : aT} (ht : TreeOK t) {d : List Int} (hD : DOK t d) {must : List (List Int)} {P : lC} (hM : MustIs t must P) {won : List (aF × Int)} (hW : WonIs won P)
include ht hD hM
theorem aIv {r p s : Nat} (hr : r < t.Rounds.toNat) (hp : p < bZ t r) (hs : s < 2) : pT ⟨d, must⟩ r p s = some (eI d must r (2 * p + s)) := by
  have hpl := jX ht (r := (r : Int))
  have h5 := ht.r5
  have w1 : w64 (2 * (p : Int)) = ((2 * p : Nat) : Int) := by rw [eU (by omega) (by omega)]; omega
  have w2 : w64 (((2 * p : Nat) : Int) + (s : Int)) = ((2 * p + s : Nat) : Int) := by rw [eU (by omega) (by omega)]; omega
  unfold pT eI
  simp only [w1, w2]
  by_cases h0 : r = 0
  · subst h0
    have hp0 := sA ht
    have hlen := hD.len
    have hpl2 : p < bZ t 0 := hp
    have hi : 2 * p + s < d.length := by omega
    simp only [Int.natCast_zero, decide_true, cond_true, cH hi, Option.bind_some, if_true, bT hi]
  · have hr0 : decide ((r : Int) = 0) = false := decide_eq_false (by omega)
    have hw : w64 ((r : Int) - 1) = ((r - 1 : Nat) : Int) := wZ (by omega) (by omega)
    have hph := pP (t := t) (r := r - 1) (by omega)
    have e : r - 1 + 1 = r := by omega
    rw [e] at hph
    have := aBz hM (r := r - 1) (p := 2 * p + s) (by omega) (by omega)
    simp only [hr0, cond_false, hw, if_neg h0]
    rw [← this]
    congr 1
    funext x
    cases idx x ((2 * p + s : Nat) : Int) <;> rfl
include hW
theorem aGk {r p s : Nat} (hr : r < t.Rounds.toNat) (hp : p < bZ t r) (hs : s < 2) : jR ⟨t, d, won⟩ ⟨r, p⟩ s = some (eI d must r (2 * p + s)) := by
  have hpl := jX ht (r := (r : Int))
  have h5 := ht.r5
  have w1 : w64 (2 * (p : Int)) = ((2 * p : Nat) : Int) := by rw [eU (by omega) (by omega)]; omega
  have w2 : w64 (((2 * p : Nat) : Int) + (s : Int)) = ((2 * p + s : Nat) : Int) := by rw [eU (by omega) (by omega)]; omega
  unfold jR eI
  simp only [w1, w2]
  by_cases h0 : r = 0
  · subst h0
    have hp0 := sA ht
    have hlen := hD.len
    have hpl2 : p < bZ t 0 := hp
    have hi : 2 * p + s < d.length := by omega
    simp only [Int.natCast_zero, decide_true, cond_true, cH hi, Option.bind_some, if_true, bT hi]
  · have hr0 : decide ((r : Int) = 0) = false := decide_eq_false (by omega)
    have hw : w64 ((r : Int) - 1) = ((r - 1 : Nat) : Int) := wZ (by omega) (by omega)
    have hph := pP (t := t) (r := r - 1) (by omega)
    have e : r - 1 + 1 = r := by omega
    rw [e] at hph
    simp only [hr0, cond_false, hw, if_neg h0]
    have h1 : r - 1 < t.Rounds.toNat := by omega
    have h2 : 2 * p + s < bZ t ((r - 1 : Nat) : Int) := by omega
    rw [wJ hW hM h1 h2]
    by_cases hm : mat must (r - 1) (2 * p + s) = -2
    · simp only [hm, decide_true, Bool.not_true, cond_false]
    · simp only [hm, decide_false, Bool.not_false, cond_true, wI hW hM h1 h2 hm]
omit ht hD hM hW
/-- The matches of a round, with their players. -/
def nD (t : aT) (d : List Int) (must : List (List Int)) (r : Nat) : List bS := (List.range (bZ t r)).map fun p : Nat => ⟨r, p, eI d must r (2 * p), eI d must r (2 * p + 1)⟩
def fC (t : aT) (d : List Int) (must : List (List Int)) : List bS := (List.range t.Rounds.toNat).flatMap (nD t d must)
theorem qS {α : Type} (f : Nat → List α) (n : Nat) : (List.range (n + 1)).flatMap f = (List.range n).flatMap f ++ f n := by
  rw [List.range_succ, List.flatMap_append]; simp
include ht
theorem aJp (r : Nat) : (nD t d must r).length ≤ 16 := by
  have := jX ht (r := (r : Int))
  simpa [nD] using this
theorem xL : ∀ r, ((List.range r).flatMap (nD t d must)).length ≤ 16 * r
  | 0 => by simp
  | r + 1 => by
    have h1 := xL r
    have h2 := aJp ht (d := d) (must := must) r
    rw [qS, List.length_append]; omega
include hD hM
theorem aIe : qA t ⟨d, must⟩ = some (fC t d must) := by
  have h1 := ht.r1
  have h5 := ht.r5
  unfold qA
  have := fM (S := List bS) (fun k r out => eV t ⟨d, must⟩ k r out) t.Rounds.toNat (fun _ _ => some (fC t d must)) (fun r out => out = (List.range r).flatMap (nD t d must)) ?_ ?_ BIG [] (dD (by omega)) (by simp)
  · exact this
  · rintro k r out hr rfl ih
    have hfl := xL ht (d := d) (must := must) r
    have hpl := jX ht (r := (r : Int))
    have hlt : decide ((r : Int) < t.Rounds) = true := decide_eq_true (by omega)
    have hin : iP (eV t ⟨d, must⟩ k) r t ⟨d, must⟩ BIG 0 ((List.range r).flatMap (nD t d must)) = lY (eV t ⟨d, must⟩ k) r t ⟨d, must⟩ ((List.range r).flatMap (nD t d must) ++ nD t d must r) := by
      have hP := sH ht (r := (r : Int)) (by omega) (by omega)
      refine fM (S := List bS) (fun q p out => iP (eV t ⟨d, must⟩ k) r t ⟨d, must⟩ q p out) (bZ t r) (fun _ _ => lY (eV t ⟨d, must⟩ k) r t ⟨d, must⟩ ((List.range r).flatMap (nD t d must) ++ nD t d must r))
        (fun p out => out = (List.range r).flatMap (nD t d must) ++ (List.range p).map fun p : Nat => (⟨r, p, eI d must r (2 * p), eI d must r (2 * p + 1)⟩ : bS)) ?_ ?_ BIG _ (dD (by omega)) (by simp)
      · rintro q p out hp rfl ih2
        simp only [iP, hP, Option.bind_some, Int.ofNat_lt, hp, decide_true, cond_true, cJ (show p < 9223372036854775807 by omega)]
        have e0 := aIv ht hD hM hr hp (s := 0) (by omega)
        have e1 := aIv ht hD hM hr hp (s := 1) (by omega)
        simp only [Int.natCast_zero, Int.natCast_one, Nat.add_zero] at e0 e1
        rw [e0, Option.bind_some, e1, Option.bind_some, iU (by simp only [List.length_append, List.length_map, List.length_range, List.length_cons, List.length_nil]; omega), Option.bind_some]
        refine ih2 _ ?_
        rw [List.range_succ, List.map_append, List.append_assoc]; rfl
      · rintro q out rfl
        have hlt : decide ((bZ t r : Int) < (bZ t r : Int)) = false := decide_eq_false (by omega)
        simp only [iP, hP, Option.bind_some, hlt, cond_false, nD]
    simp only [eV, hlt, cond_true, hin, lY, rQ, cJ (show r < 9223372036854775807 by omega)]
    exact ih _ (qS _ _).symm
  · rintro k out rfl
    have hlt : decide (((t.Rounds.toNat : Nat) : Int) < t.Rounds) = false := decide_eq_false (by omega)
    simp only [eV, hlt, cond_false, rP]
    rfl
include hW
/-- What a loop over the matches does. -/
theorem aHe {S : Type} (y : S → aF → bS → Option S) (f : List bS → S) (good : List bS → Prop)
    (hy : ∀ (out : List bS) (r p : Nat), r < t.Rounds.toNat → p < bZ t r → out.length ≤ 200 → y (f out) ⟨r, p⟩ ⟨r, p, eI d must r (2 * p), eI d must r (2 * p + 1)⟩ = some (f (out ++ [⟨r, p, eI d must r (2 * p), eI d must r (2 * p + 1)⟩]))) :
    jK ⟨t, d, won⟩ y (f []) = some (f (fC t d must)) := by
  have h1 := ht.r1
  have h5 := ht.r5
  unfold jK
  have := fM (S := S) (fun k r out => dF y ⟨t, d, won⟩ t.Rounds k r out) t.Rounds.toNat (fun _ _ => some (f (fC t d must))) (fun r out => out = f ((List.range r).flatMap (nD t d must))) ?_ ?_ BIG (f []) (dD (by omega)) (by simp)
  · exact this
  · rintro k r out hr rfl ih
    have hfl := xL ht (d := d) (must := must) r
    have hpl := jX ht (r := (r : Int))
    have hlt : decide ((r : Int) < t.Rounds) = true := decide_eq_true (by omega)
    have hch : chk (decide (0 ≤ w64 ((r : Int) + 1))) = some () := by
      rw [cJ (by omega)]; unfold chk; rw [decide_eq_true (by omega)]; rfl
    have hin : eL y (dF y ⟨t, d, won⟩ t.Rounds k) ⟨t, d, won⟩ r t.Rounds r (bZ t r) BIG 0 (f ((List.range r).flatMap (nD t d must))) =
        iG y (dF y ⟨t, d, won⟩ t.Rounds k) ⟨t, d, won⟩ t.Rounds r (f ((List.range r).flatMap (nD t d must) ++ nD t d must r)) := by
      refine fM (S := S) (fun q p out => eL y (dF y ⟨t, d, won⟩ t.Rounds k) ⟨t, d, won⟩ r t.Rounds r (bZ t r) q p out) (bZ t r) (fun _ _ => iG y (dF y ⟨t, d, won⟩ t.Rounds k) ⟨t, d, won⟩ t.Rounds r (f ((List.range r).flatMap (nD t d must) ++ nD t d must r)))
        (fun p out => out = f ((List.range r).flatMap (nD t d must) ++ (List.range p).map fun p : Nat => (⟨r, p, eI d must r (2 * p), eI d must r (2 * p + 1)⟩ : bS))) ?_ ?_ BIG _ (dD (by omega)) (by simp)
      · rintro q p out hp rfl ih2
        have e0 := aGk ht hD hM hW hr hp (s := 0) (by omega)
        have e1 := aGk ht hD hM hW hr hp (s := 1) (by omega)
        simp only [Int.natCast_zero, Int.natCast_one, Nat.add_zero] at e0 e1
        simp only [eL, Int.ofNat_lt, hp, decide_true, cond_true, cJ (show p < 9223372036854775807 by omega), e0, e1, Option.bind_some]
        rw [hy _ r p hr hp (by simp only [List.length_append, List.length_map, List.length_range, List.length_cons, List.length_nil]; omega), Option.bind_some]
        refine ih2 _ ?_
        rw [List.range_succ, List.map_append, List.append_assoc]; rfl
      · rintro q out rfl
        have hlt : decide ((bZ t r : Int) < (bZ t r : Int)) = false := decide_eq_false (by omega)
        simp only [eL, hlt, cond_false, nD]
    simp only [dF, hlt, cond_true, hch, Option.bind_some, aGj ht (r := (r : Int)) (by omega) (by omega), hin, iG, mB]
    rw [cJ (show r < 9223372036854775807 by omega)]
    exact ih _ (congrArg f (qS _ _)).symm
  · rintro k out rfl
    have hlt : decide (((t.Rounds.toNat : Nat) : Int) < t.Rounds) = false := decide_eq_false (by omega)
    simp only [dF, hlt, cond_false, mA]
    rfl
end

theorem aAj {t : aT} {l : List aI} {d : List Int} (h : Good t l d) {must : List (List Int)} (hd : dA t l = some (⟨d, must⟩, true)) (hM : MustIs t must (eR d (Res l))) : kK t l = some (fC t d must, 0) := by
  unfold kK
  rw [qO h, Option.bind_some]
  simp only [decide_true, Bool.not_true, cond_false, hd, Option.bind_some, aIe h.ht h.dok hM]
theorem aHy {t : aT} {l : List aI} {e : Int} (h : Stat t l e) : kK t l = some ([], e) := by
  unfold kK
  rw [sG h, Option.bind_some]
  simp only [h.ne, Bool.not_false, cond_true]
theorem aHz (t : aT) (l : List aI) {r : List bS × Int} (h : kK t l = some r) (Q : List bS × Int → Prop) (hq : Q r) : nT t l Q := by
  unfold nT
  rcases pI t l with ⟨d, hg⟩ | ⟨e, he⟩
  · obtain ⟨must, hd, hM⟩ := oT hg
    rw [aAj hg hd hM] at h; cases h
    refine uO hg fun won hW => ?_
    simp only [decide_true, Bool.not_true, cond_false]
    refine ⟨_, rfl, _, ?_, hq⟩
    refine aHe hg.ht hg.dok hM hW _ (fun x => x) (fun _ => True) fun out r p hr hp hl => ?_
    rw [iU (by simp; omega)]; rfl
  · rw [aHy he] at h; cases h
    refine wP he ?_
    simp only [he.ne, Bool.not_false, cond_true]
    exact hq

theorem aIc {t : aT} {l : List aI} {e : Int} (h : Stat t l e) {r p : Int} {Q : (Option bI × aF × Int) → Prop} (hq : Q (none, ⟨r, p⟩, e)) : mE t l r p Q := by
  unfold mE
  refine wP h ?_
  simp only [h.ne, cond_false]
  exact ⟨_, rfl, hq⟩
theorem aFx {t : aT} {l : List aI} {d : List Int} (h : Good t l d) {r p : Int} {Q : (Option bI × aF × Int) → Prop} (hq : ∀ won, WonIs won (eR d (Res l)) → Q (some ⟨t, d, won⟩, ⟨r, p⟩, bif gB t r p then 0 else 1)) : mE t l r p Q := by
  unfold mE
  refine uO h fun won hW => ?_
  have := hq won hW
  simp only [decide_true, cond_true, aLb h.ht, Option.bind_some]
  refine ⟨_, rfl, ?_⟩
  cases hm : gB t r p with
  | true => rw [hm] at this; exact this
  | false => rw [hm] at this; exact this
theorem vI {t : aT} {l : List aI} {e : Int} (h : Stat t l e) (r p : Int) : iB t l r p = some e := by
  unfold iB
  rw [sG h, Option.bind_some]
  simp only [h.ne, Bool.not_false, cond_true]
theorem oG {t : aT} {l : List aI} {d : List Int} (h : Good t l d) (r p : Int) : iB t l r p = some (bif gB t r p then 0 else 1) := by
  unfold iB
  rw [qO h, Option.bind_some]
  simp only [decide_true, Bool.not_true, cond_false, aAk h.ht, Option.bind_some]
  cases gB t r p <;> rfl
theorem rC {t : aT} {r p : Int} (h : gB t r p = true) : ∃ r' p' : Nat, r = r' ∧ p = p' ∧ r' < t.Rounds.toNat ∧ p' < bZ t r' := by
  simp only [gB, Bool.and_eq_true, jF] at h
  refine ⟨r.toNat, p.toNat, by omega, by omega, by omega, ?_⟩
  have e : ((r.toNat : Nat) : Int) = r := by omega
  rw [e]; omega
theorem aGp {t : aT} {l : List aI} {e : Int} (h : Stat t l e) (r p : Int) : gR t l r p = some (0, e) := by
  unfold gR
  rw [vI h, Option.bind_some]
  simp only [h.ne, Bool.not_false, cond_true]
theorem aGo {t : aT} {l : List aI} {d : List Int} (h : Good t l d) {r p : Int} (hm : gB t r p = false) : gR t l r p = some (0, 1) := by
  unfold gR
  rw [oG h, hm, Option.bind_some]
  rfl
theorem zG {t : aT} {l : List aI} {d : List Int} (h : Good t l d) {must : List (List Int)} (hd : dA t l = some (⟨d, must⟩, true)) (hM : MustIs t must (eR d (Res l))) {r p : Nat} (hm : gB t r p = true) :
    gR t l r p = some (if mat must r p = -2 then (0, 3) else (mat must r p, 0)) := by
  obtain ⟨r', p', e1, e2, hr, hp⟩ := rC hm
  have e1 : r = r' := by omega
  have e2 : p = p' := by omega
  subst e1; subst e2
  have hi := aBz hM hr hp
  unfold gR
  rw [oG h, hm, Option.bind_some]
  simp only [cond_true, decide_true, Bool.not_true, cond_false, hd, Option.bind_some]
  rw [← Option.bind_assoc, hi, Option.bind_some]
  by_cases h2 : mat must r p = -2
  · simp only [h2, decide_true, cond_true, if_true]
  · simp only [h2, decide_false, cond_false, if_false]
    rw [← Option.bind_assoc, hi, Option.bind_some]
theorem aGq (t : aT) (l : List aI) (r p : Int) {o : Int × Int} (h : gR t l r p = some o) (Q : Int × Int → Prop) (hq : Q o) : mW t l r p Q := by
  unfold mW
  rcases pI t l with ⟨d, hg⟩ | ⟨e, he⟩
  · refine aFx hg fun won hW => ?_
    cases hm : gB t r p with
    | false =>
      rw [aGo hg hm] at h; cases h
      exact hq
    | true =>
      obtain ⟨r', p', rfl, rfl, hr, hp⟩ := rC hm
      obtain ⟨must, hd, hM⟩ := oT hg
      rw [zG hg hd hM hm] at h; cases h
      simp only [cond_true, decide_true, Bool.not_true, cond_false]
      refine ⟨_, rfl, ?_⟩
      simp only [wJ hW hM hr hp]
      by_cases h2 : mat must r' p' = -2
      · rw [if_pos h2] at hq
        simp only [h2, decide_true, Bool.not_true, Bool.not_false, cond_true]; exact hq
      · rw [if_neg h2] at hq
        simp only [h2, decide_false, Bool.not_true, Bool.not_false, cond_false, wI hW hM hr hp h2]; exact hq
  · rw [aGp he] at h; cases h
    refine aIc he ?_
    simp only [he.ne, Bool.not_false, cond_true]
    exact hq
end Go.Am
