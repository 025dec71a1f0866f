/- Layer 7, plain: Check, Bouts and Winner are those of the reference. -/
import Derived.Test.YtenffgkkeafnpaaBrPlain10
namespace Go.Am

/-- A valid tree with valid slips that agree. -/
structure Good (t : aO) (l : List aG) (d : List Int) : Prop where
  tree : rW t = true
  len : l.length ≤ 60
  slips : ∀ s ∈ l, fJ t s = true
  agr : AGR t l d
/-- The error of a tree and slips. -/
inductive Stat (t : aO) (l : List aG) : Int → Prop
  | s70 : rW t = false → Stat t l 70
  | s71 : rW t = true → (60 < l.length ∨ ∃ s ∈ l, fJ t s = false) → Stat t l 71
  | s72 : rW t = true → l.length ≤ 60 → (∀ s ∈ l, fJ t s = true) → (∀ d, ¬ AGR t l d) → Stat t l 72
theorem Stat.ne {t : aO} {l : List aG} {e : Int} (h : Stat t l e) : decide (e = 0) = false := by cases h <;> rfl
theorem jY (t : aO) (l : List aG) : (∃ d, Good t l d) ∨ ∃ e, Stat t l e := by
  cases ht : rW t with
  | false => exact .inr ⟨70, .s70 ht⟩
  | true =>
    by_cases hl : 60 < l.length
    · exact .inr ⟨71, .s71 ht (.inl hl)⟩
    · by_cases hs : ∃ s ∈ l, fJ t s = false
      · exact .inr ⟨71, .s71 ht (.inr hs)⟩
      · have hs' : ∀ s ∈ l, fJ t s = true := fun s hm => by
          cases h : fJ t s with
          | true => rfl
          | false => exact absurd ⟨s, hm, h⟩ hs
        by_cases hd : ∃ d, AGR t l d
        · obtain ⟨d, hd⟩ := hd
          exact .inl ⟨d, ht, by omega, hs', hd⟩
        · exact .inr ⟨72, .s72 ht (by omega) hs' fun d h => hd ⟨d, h⟩⟩
theorem Good.ht {t : aO} {l : List aG} {d : List Int} (h : Good t l d) : TreeOK t := oH h.tree
theorem Good.dok {t : aO} {l : List aG} {d : List Int} (h : Good t l d) : DOK t d := wB h.ht h.slips h.agr.1
theorem Good.uniq {t : aO} {l : List aG} {d d' : List Int} (h : Good t l d) (h' : Good t l d') : d = d' := by
  have := h.agr.1
  rw [h'.agr.1] at this
  exact (Option.some.inj this).symm

theorem vZ {t : aO} {l : List aG} {e : Int} (h : Stat t l e) {Q : (Option bA × Int) → Prop} (hq : Q (none, e)) : iM t l Q := by
  unfold iM
  refine ⟨_, aCh t, ?_⟩
  cases h with
  | s70 ht => simp only [ht, Bool.not_false, cond_true]; exact hq
  | s71 ht hs =>
    simp only [ht, Bool.not_true, cond_false]
    by_cases hl : 60 < l.length
    · have : decide (60 < (l.length : Int)) = true := decide_eq_true (by omega)
      simp only [this, cond_true]
      exact ⟨_, rfl, hq⟩
    · have : decide (60 < (l.length : Int)) = false := decide_eq_false (by omega)
      simp only [this, cond_false]
      rw [nA l (by omega) _ (fun s => !fJ t s) fun x _ => by simp [lC, xH (oH ht)]]
      refine ⟨_, rfl, ?_⟩
      have : (l.any fun s => !fJ t s) = true := by
        rcases hs with h | ⟨s, h1, h2⟩
        · exact absurd h hl
        · rw [List.any_eq_true]; exact ⟨s, h1, by rw [h2]; rfl⟩
      simp only [this, cond_true]; exact hq
  | s72 ht hl hs hno =>
    have : decide (60 < (l.length : Int)) = false := decide_eq_false (by omega)
    simp only [ht, Bool.not_true, cond_false, this]
    rw [nA l (by omega) _ (fun s => !fJ t s) fun x _ => by simp [lC, xH (oH ht)]]
    refine ⟨_, rfl, ?_⟩
    have : (l.any fun s => !fJ t s) = false := by
      rw [List.any_eq_false]; intro s hm; rw [hs s hm]; simp
    simp only [this, cond_false]
    exact aAd (oH ht) hs (by omega) (fun d hd => absurd hd (hno d)) fun _ => hq
theorem uA {t : aO} {l : List aG} {d : List Int} (h : Good t l d) {Q : (Option bA × Int) → Prop} (hq : ∀ won, WonIs won (fO d (Res l)) → Q (some ⟨t, d, won⟩, 0)) : iM t l Q := by
  unfold iM
  have hl := h.len
  have : decide (60 < (l.length : Int)) = false := decide_eq_false (by omega)
  refine ⟨_, aCh t, ?_⟩
  simp only [h.tree, Bool.not_true, cond_false, this]
  rw [nA l (by omega) _ (fun s => !fJ t s) fun x _ => by simp [lC, xH h.ht]]
  refine ⟨_, rfl, ?_⟩
  have : (l.any fun s => !fJ t s) = false := by
    rw [List.any_eq_false]; intro s hm; rw [h.slips s hm]; simp
  simp only [this, cond_false]
  refine aAd h.ht h.slips (by omega) (fun d' hd won hW => ?_) fun hno => absurd h.agr (hno d)
  have := h.uniq ⟨h.tree, h.len, h.slips, hd⟩
  subst this
  exact hq won hW

theorem uG {t : aO} (ht : TreeOK t) {l : List aG} (hl : l.length ≤ 60) : fM l t BIG 0 = bif l.all (fJ t) then iJ l t else some 71 := by
  have := tJ (fun k i => fM l t k i) l.length (fun i => l[i]?.any (fJ t)) (some 71) (iJ l t) ?_ ?_ BIG (dD (by omega))
  · rw [this]
    have e : (List.range l.length).all (fun i => l[i]?.any (fJ t)) = l.all (fJ t) := by
      rw [Bool.eq_iff_iff, qI, List.all_eq_true]
      constructor
      · intro h x hx
        obtain ⟨i, hi, rfl⟩ := List.mem_iff_getElem.1 hx
        have := h i hi
        rwa [List.getElem?_eq_getElem hi] at this
      · intro h i hi
        rw [List.getElem?_eq_getElem hi]
        exact h _ (List.getElem_mem hi)
    rw [e]
  · intro k i hi
    simp only [fM, Int.ofNat_lt, hi, decide_true, cond_true, cP hi, Option.bind_some, aGt ht, cN (show i < 9223372036854775807 by omega), List.getElem?_eq_getElem hi, Option.any_some]
    cases fJ t l[i] <;> rfl
  · intro k
    have hlt : decide ((l.length : Int) < (l.length : Int)) = false := decide_eq_false (by omega)
    simp only [fM, hlt, cond_false]
theorem rX {t : aO} {l : List aG} {e : Int} (h : Stat t l e) : eQ t l = some e := by
  unfold eQ
  rw [aBw, Option.bind_some]
  cases h with
  | s70 ht => simp only [ht, Bool.not_false, cond_true]
  | s71 ht hs =>
    simp only [ht, Bool.not_true, cond_false]
    by_cases hl : 60 < l.length
    · have : decide (60 < (l.length : Int)) = true := decide_eq_true (by omega)
      simp only [this, cond_true]
    · have : decide (60 < (l.length : Int)) = false := decide_eq_false (by omega)
      have h2 : l.all (fJ t) = false := by
        rcases hs with h | ⟨s, h1, h2⟩
        · exact absurd h hl
        · rw [List.all_eq_false]; exact ⟨s, h1, by simp [h2]⟩
      simp only [this, cond_false, uG (oH ht) (show l.length ≤ 60 by omega), h2]
  | s72 ht hl hs hno =>
    have : decide (60 < (l.length : Int)) = false := decide_eq_false (by omega)
    have h2 : l.all (fJ t) = true := by rw [List.all_eq_true]; exact hs
    simp only [ht, Bool.not_true, cond_false, this, uG (oH ht) hl, h2, cond_true, iJ, (aCa (oH ht) hs (by omega)).2 hno, Option.bind_some, Bool.not_false]
theorem kC {t : aO} {l : List aG} {d : List Int} (h : Good t l d) : ∃ must, dA t l = some (⟨d, must⟩, true) ∧ MustIs t must (fO d (Res l)) :=
  (aCa h.ht h.slips (by have := h.len; omega)).1 d h.agr
theorem qL {t : aO} {l : List aG} {d : List Int} (h : Good t l d) : eQ t l = some 0 := by
  have hl := h.len
  have : decide (60 < (l.length : Int)) = false := decide_eq_false (by omega)
  have h2 : l.all (fJ t) = true := by rw [List.all_eq_true]; exact h.slips
  obtain ⟨must, hd, _⟩ := kC h
  unfold eQ
  rw [aBw, Option.bind_some]
  simp only [h.tree, Bool.not_true, cond_false, this, uG h.ht hl, h2, cond_true, iJ, hd, Option.bind_some]

/-! What is known of a match. -/
theorem vT {t : aO} {won : List (aB × Int)} {must : List (List Int)} {P : kO} (hW : WonIs won P) (hM : MustIs t must P) {r p : Nat} (hr : r < t.Rounds.toNat) (hp : p < cJ t r) :
    cT (⟨r, p⟩ : aB) won = !decide (mat must r p = -2) := by
  rw [Bool.eq_iff_iff, hW.has, Bool.not_eq_true', decide_eq_false_iff_not]
  constructor
  · rintro ⟨v, hv⟩
    have := (hM.mem r p v hr hp).2 hv
    rw [this.1]; exact this.2
  · exact fun h => ⟨_, (hM.mem r p _ hr hp).1 ⟨rfl, h⟩⟩
theorem vS {t : aO} {won : List (aB × Int)} {must : List (List Int)} {P : kO} (hW : WonIs won P) (hM : MustIs t must P) {r p : Nat} (hr : r < t.Rounds.toNat) (hp : p < cJ t r) (h : mat must r p ≠ -2) (z : Int) :
    cI (⟨r, p⟩ : aB) z won = mat must r p := hW.get ((hM.mem r p _ hr hp).1 ⟨rfl, h⟩)
theorem aBp {t : aO} {must : List (List Int)} {P : kO} (hM : MustIs t must P) {r p : Nat} (hr : r < t.Rounds.toNat) (hp : p < cJ t r) : ((idx must (r : Int)).bind fun x => idx x (p : Int)) = some (mat must r p) := by
  have hl := hM.len
  have hrow := hM.row r hr
  have hrl : r < must.length := by omega
  rw [cP hrl, Option.bind_some]
  unfold mat
  rw [bY hrl] at hrow ⊢
  have hp' : p < must[r].length := by omega
  rw [cP hp', bY hp']
theorem yY {t : aO} {r : Nat} (hr : r + 1 < t.Rounds.toNat) : cJ t r = 2 * cJ t ((r + 1 : Nat) : Int) := by
  unfold cJ
  have e : t.Rounds.toNat - 1 - ((r : Nat) : Int).toNat = (t.Rounds.toNat - 1 - ((r + 1 : Nat) : Int).toNat) + 1 := by omega
  rw [e, Nat.pow_succ]; omega
/-- A side of a match. -/
def oE (d : List Int) (must : List (List Int)) (r at' : Nat) : Int := if r = 0 then d.getD at' 0 else mat must (r - 1) at'

section
variable {t : aO} (ht : TreeOK t) {d : List Int} (hD : DOK t d) {must : List (List Int)} {P : kO} (hM : MustIs t must P) {won : List (aB × Int)} (hW : WonIs won P)
include ht hD hM
theorem aIr {r p s : Nat} (hr : r < t.Rounds.toNat) (hp : p < cJ t r) (hs : s < 2) : pO ⟨d, must⟩ r p s = some (oE d must r (2 * p + s)) := by
  have hpl := lA ht (r := (r : Int))
  have h5 := ht.r5
  have w1 : w64 (2 * (p : Int)) = ((2 * p : Nat) : Int) := by rw [fK (by omega) (by omega)]; omega
  have w2 : w64 (((2 * p : Nat) : Int) + (s : Int)) = ((2 * p + s : Nat) : Int) := by rw [fK (by omega) (by omega)]; omega
  unfold pO oE
  simp only [w1, w2]
  by_cases h0 : r = 0
  · subst h0
    have hp0 := yI ht
    have hlen := hD.len
    have hpl2 : p < cJ t 0 := hp
    have hi : 2 * p + s < d.length := by omega
    simp only [Int.natCast_zero, decide_true, cond_true, cP hi, Option.bind_some, if_true, bY hi]
  · have hr0 : decide ((r : Int) = 0) = false := decide_eq_false (by omega)
    have hw : w64 ((r : Int) - 1) = ((r - 1 : Nat) : Int) := zX (by omega) (by omega)
    have hph := yY (t := t) (r := r - 1) (by omega)
    have e : r - 1 + 1 = r := by omega
    rw [e] at hph
    have := aBp hM (r := r - 1) (p := 2 * p + s) (by omega) (by omega)
    simp only [hr0, cond_false, hw, if_neg h0]
    rw [← this]
    congr 1
    funext x
    cases idx x ((2 * p + s : Nat) : Int) <;> rfl
include hW
theorem aGe {r p s : Nat} (hr : r < t.Rounds.toNat) (hp : p < cJ t r) (hs : s < 2) : jF ⟨t, d, won⟩ ⟨r, p⟩ s = some (oE d must r (2 * p + s)) := by
  have hpl := lA ht (r := (r : Int))
  have h5 := ht.r5
  have w1 : w64 (2 * (p : Int)) = ((2 * p : Nat) : Int) := by rw [fK (by omega) (by omega)]; omega
  have w2 : w64 (((2 * p : Nat) : Int) + (s : Int)) = ((2 * p + s : Nat) : Int) := by rw [fK (by omega) (by omega)]; omega
  unfold jF oE
  simp only [w1, w2]
  by_cases h0 : r = 0
  · subst h0
    have hp0 := yI ht
    have hlen := hD.len
    have hpl2 : p < cJ t 0 := hp
    have hi : 2 * p + s < d.length := by omega
    simp only [Int.natCast_zero, decide_true, cond_true, cP hi, Option.bind_some, if_true, bY hi]
  · have hr0 : decide ((r : Int) = 0) = false := decide_eq_false (by omega)
    have hw : w64 ((r : Int) - 1) = ((r - 1 : Nat) : Int) := zX (by omega) (by omega)
    have hph := yY (t := t) (r := r - 1) (by omega)
    have e : r - 1 + 1 = r := by omega
    rw [e] at hph
    simp only [hr0, cond_false, hw, if_neg h0]
    have h1 : r - 1 < t.Rounds.toNat := by omega
    have h2 : 2 * p + s < cJ t ((r - 1 : Nat) : Int) := by omega
    rw [vT hW hM h1 h2]
    by_cases hm : mat must (r - 1) (2 * p + s) = -2
    · simp only [hm, decide_true, Bool.not_true, cond_false]
    · simp only [hm, decide_false, Bool.not_false, cond_true, vS hW hM h1 h2 hm]
omit ht hD hM hW
/-- The matches of a round, with their players. -/
def mU (t : aO) (d : List Int) (must : List (List Int)) (r : Nat) : List cE := (List.range (cJ t r)).map fun p : Nat => ⟨r, p, oE d must r (2 * p), oE d must r (2 * p + 1)⟩
def wW (t : aO) (d : List Int) (must : List (List Int)) : List cE := (List.range t.Rounds.toNat).flatMap (mU t d must)
theorem qO {α : Type} (f : Nat → List α) (n : Nat) : (List.range (n + 1)).flatMap f = (List.range n).flatMap f ++ f n := by
  rw [List.range_succ, List.flatMap_append]; simp
include ht
theorem aJp (r : Nat) : (mU t d must r).length ≤ 16 := by
  have := lA ht (r := (r : Int))
  simpa [mU] using this
theorem wV : ∀ r, ((List.range r).flatMap (mU t d must)).length ≤ 16 * r
  | 0 => by simp
  | r + 1 => by
    have h1 := wV r
    have h2 := aJp ht (d := d) (must := must) r
    rw [qO, List.length_append]; omega
include hD hM
theorem aHx : pV t ⟨d, must⟩ = some (wW t d must) := by
  have h1 := ht.r1
  have h5 := ht.r5
  unfold pV
  have := fP (S := List cE) (fun k r out => eR t ⟨d, must⟩ k r out) t.Rounds.toNat (fun _ _ => some (wW t d must)) (fun r out => out = (List.range r).flatMap (mU t d must)) ?_ ?_ BIG [] (dD (by omega)) (by simp)
  · exact this
  · rintro k r out hr rfl ih
    have hfl := wV ht (d := d) (must := must) r
    have hpl := lA ht (r := (r : Int))
    have hlt : decide ((r : Int) < t.Rounds) = true := decide_eq_true (by omega)
    have hin : iK (eR t ⟨d, must⟩ k) r t ⟨d, must⟩ BIG 0 ((List.range r).flatMap (mU t d must)) = lN (eR t ⟨d, must⟩ k) r t ⟨d, must⟩ ((List.range r).flatMap (mU t d must) ++ mU t d must r) := by
      have hP := tU ht (r := (r : Int)) (by omega) (by omega)
      refine fP (S := List cE) (fun q p out => iK (eR t ⟨d, must⟩ k) r t ⟨d, must⟩ q p out) (cJ t r) (fun _ _ => lN (eR t ⟨d, must⟩ k) r t ⟨d, must⟩ ((List.range r).flatMap (mU t d must) ++ mU t d must r))
        (fun p out => out = (List.range r).flatMap (mU t d must) ++ (List.range p).map fun p : Nat => (⟨r, p, oE d must r (2 * p), oE d must r (2 * p + 1)⟩ : cE)) ?_ ?_ BIG _ (dD (by omega)) (by simp)
      · rintro q p out hp rfl ih2
        simp only [iK, hP, Option.bind_some, Int.ofNat_lt, hp, decide_true, cond_true, cN (show p < 9223372036854775807 by omega)]
        have e0 := aIr ht hD hM hr hp (s := 0) (by omega)
        have e1 := aIr ht hD hM hr hp (s := 1) (by omega)
        simp only [Int.natCast_zero, Int.natCast_one, Nat.add_zero] at e0 e1
        rw [e0, Option.bind_some, e1, Option.bind_some, iR (by simp only [List.length_append, List.length_map, List.length_range, List.length_cons, List.length_nil]; omega), Option.bind_some]
        refine ih2 _ ?_
        rw [List.range_succ, List.map_append, List.append_assoc]; rfl
      · rintro q out rfl
        have hlt : decide ((cJ t r : Int) < (cJ t r : Int)) = false := decide_eq_false (by omega)
        simp only [iK, hP, Option.bind_some, hlt, cond_false, mU]
    simp only [eR, hlt, cond_true, hin, lN, rF, cN (show r < 9223372036854775807 by omega)]
    exact ih _ (qO _ _).symm
  · rintro k out rfl
    have hlt : decide (((t.Rounds.toNat : Nat) : Int) < t.Rounds) = false := decide_eq_false (by omega)
    simp only [eR, hlt, cond_false, rE]
    rfl
include hW
/-- What a loop over the matches does. -/
theorem aGw {S : Type} (y : S → aB → cE → Option S) (f : List cE → S) (good : List cE → Prop)
    (hy : ∀ (out : List cE) (r p : Nat), r < t.Rounds.toNat → p < cJ t r → out.length ≤ 200 → y (f out) ⟨r, p⟩ ⟨r, p, oE d must r (2 * p), oE d must r (2 * p + 1)⟩ = some (f (out ++ [⟨r, p, oE d must r (2 * p), oE d must r (2 * p + 1)⟩]))) :
    jC ⟨t, d, won⟩ y (f []) = some (f (wW t d must)) := by
  have h1 := ht.r1
  have h5 := ht.r5
  unfold jC
  have := fP (S := S) (fun k r out => dC y ⟨t, d, won⟩ t.Rounds k r out) t.Rounds.toNat (fun _ _ => some (f (wW t d must))) (fun r out => out = f ((List.range r).flatMap (mU t d must))) ?_ ?_ BIG (f []) (dD (by omega)) (by simp)
  · exact this
  · rintro k r out hr rfl ih
    have hfl := wV ht (d := d) (must := must) r
    have hpl := lA ht (r := (r : Int))
    have hlt : decide ((r : Int) < t.Rounds) = true := decide_eq_true (by omega)
    have hch : chk (decide (0 ≤ w64 ((r : Int) + 1))) = some () := by
      rw [cN (by omega)]; unfold chk; rw [decide_eq_true (by omega)]; rfl
    have hin : eG y (dC y ⟨t, d, won⟩ t.Rounds k) ⟨t, d, won⟩ r t.Rounds r (cJ t r) BIG 0 (f ((List.range r).flatMap (mU t d must))) =
        iD y (dC y ⟨t, d, won⟩ t.Rounds k) ⟨t, d, won⟩ t.Rounds r (f ((List.range r).flatMap (mU t d must) ++ mU t d must r)) := by
      refine fP (S := S) (fun q p out => eG y (dC y ⟨t, d, won⟩ t.Rounds k) ⟨t, d, won⟩ r t.Rounds r (cJ t r) q p out) (cJ t r) (fun _ _ => iD y (dC y ⟨t, d, won⟩ t.Rounds k) ⟨t, d, won⟩ t.Rounds r (f ((List.range r).flatMap (mU t d must) ++ mU t d must r)))
        (fun p out => out = f ((List.range r).flatMap (mU t d must) ++ (List.range p).map fun p : Nat => (⟨r, p, oE d must r (2 * p), oE d must r (2 * p + 1)⟩ : cE))) ?_ ?_ BIG _ (dD (by omega)) (by simp)
      · rintro q p out hp rfl ih2
        have e0 := aGe ht hD hM hW hr hp (s := 0) (by omega)
        have e1 := aGe ht hD hM hW hr hp (s := 1) (by omega)
        simp only [Int.natCast_zero, Int.natCast_one, Nat.add_zero] at e0 e1
        simp only [eG, Int.ofNat_lt, hp, decide_true, cond_true, cN (show p < 9223372036854775807 by omega), e0, e1, Option.bind_some]
        rw [hy _ r p hr hp (by simp only [List.length_append, List.length_map, List.length_range, List.length_cons, List.length_nil]; omega), Option.bind_some]
        refine ih2 _ ?_
        rw [List.range_succ, List.map_append, List.append_assoc]; rfl
      · rintro q out rfl
        have hlt : decide ((cJ t r : Int) < (cJ t r : Int)) = false := decide_eq_false (by omega)
        simp only [eG, hlt, cond_false, mU]
    simp only [dC, hlt, cond_true, hch, Option.bind_some, aGd ht (r := (r : Int)) (by omega) (by omega), hin, iD, lR]
    rw [cN (show r < 9223372036854775807 by omega)]
    exact ih _ (congrArg f (qO _ _)).symm
  · rintro k out rfl
    have hlt : decide (((t.Rounds.toNat : Nat) : Int) < t.Rounds) = false := decide_eq_false (by omega)
    simp only [dC, hlt, cond_false, lQ]
    rfl
end

theorem aGi {t : aO} {l : List aG} {d : List Int} (h : Good t l d) {must : List (List Int)} (hd : dA t l = some (⟨d, must⟩, true)) (hM : MustIs t must (fO d (Res l))) : jS t l = some (wW t d must, 0) := by
  unfold jS
  rw [qL h, Option.bind_some]
  simp only [decide_true, Bool.not_true, cond_false, hd, Option.bind_some, aHx h.ht h.dok hM]
theorem aHr {t : aO} {l : List aG} {e : Int} (h : Stat t l e) : jS t l = some ([], e) := by
  unfold jS
  rw [rX h, Option.bind_some]
  simp only [h.ne, Bool.not_false, cond_true]
theorem aHs (t : aO) (l : List aG) {r : List cE × Int} (h : jS t l = some r) (Q : List cE × Int → Prop) (hq : Q r) : nR t l Q := by
  unfold nR
  rcases jY t l with ⟨d, hg⟩ | ⟨e, he⟩
  · obtain ⟨must, hd, hM⟩ := kC hg
    rw [aGi hg hd hM] at h; cases h
    refine uA hg fun won hW => ?_
    simp only [decide_true, Bool.not_true, cond_false]
    refine ⟨_, rfl, _, ?_, hq⟩
    refine aGw hg.ht hg.dok hM hW _ (fun x => x) (fun _ => True) fun out r p hr hp hl => ?_
    rw [iR (by simp; omega)]; rfl
  · rw [aHr he] at h; cases h
    refine vZ he ?_
    simp only [he.ne, Bool.not_false, cond_true]
    exact hq

theorem aHw {t : aO} {l : List aG} {e : Int} (h : Stat t l e) {r p : Int} {Q : (Option bA × aB × Int) → Prop} (hq : Q (none, ⟨r, p⟩, e)) : lW t l r p Q := by
  unfold lW
  refine vZ h ?_
  simp only [h.ne, cond_false]
  exact ⟨_, rfl, hq⟩
theorem aFt {t : aO} {l : List aG} {d : List Int} (h : Good t l d) {r p : Int} {Q : (Option bA × aB × Int) → Prop} (hq : ∀ won, WonIs won (fO d (Res l)) → Q (some ⟨t, d, won⟩, ⟨r, p⟩, bif fY t r p then 0 else 1)) : lW t l r p Q := by
  unfold lW
  refine uA h fun won hW => ?_
  have := hq won hW
  simp only [decide_true, cond_true, aKz h.ht, Option.bind_some]
  refine ⟨_, rfl, ?_⟩
  cases hm : fY t r p with
  | true => rw [hm] at this; exact this
  | false => rw [hm] at this; exact this
theorem uP {t : aO} {l : List aG} {e : Int} (h : Stat t l e) (r p : Int) : eU t l r p = some e := by
  unfold eU
  rw [rX h, Option.bind_some]
  simp only [h.ne, Bool.not_false, cond_true]
theorem oC {t : aO} {l : List aG} {d : List Int} (h : Good t l d) (r p : Int) : eU t l r p = some (bif fY t r p then 0 else 1) := by
  unfold eU
  rw [qL h, Option.bind_some]
  simp only [decide_true, Bool.not_true, cond_false, zY h.ht, Option.bind_some]
  cases fY t r p <;> rfl
theorem pD {t : aO} {r p : Int} (h : fY t r p = true) : ∃ r' p' : Nat, r = r' ∧ p = p' ∧ r' < t.Rounds.toNat ∧ p' < cJ t r' := by
  simp only [fY, Bool.and_eq_true, kH] at h
  refine ⟨r.toNat, p.toNat, by omega, by omega, by omega, ?_⟩
  have e : ((r.toNat : Nat) : Int) = r := by omega
  rw [e]; omega
theorem aAc {t : aO} {l : List aG} {e : Int} (h : Stat t l e) (r p : Int) : dZ t l r p = some (0, e) := by
  unfold dZ
  rw [uP h, Option.bind_some]
  simp only [h.ne, Bool.not_false, cond_true]
theorem aAb {t : aO} {l : List aG} {d : List Int} (h : Good t l d) {r p : Int} (hm : fY t r p = false) : dZ t l r p = some (0, 1) := by
  unfold dZ
  rw [oC h, hm, Option.bind_some]
  rfl
theorem yR {t : aO} {l : List aG} {d : List Int} (h : Good t l d) {must : List (List Int)} (hd : dA t l = some (⟨d, must⟩, true)) (hM : MustIs t must (fO d (Res l))) {r p : Nat} (hm : fY t r p = true) :
    dZ t l r p = some (if mat must r p = -2 then (0, 3) else (mat must r p, 0)) := by
  obtain ⟨r', p', e1, e2, hr, hp⟩ := pD hm
  have e1 : r = r' := by omega
  have e2 : p = p' := by omega
  subst e1; subst e2
  have hi := aBp hM hr hp
  unfold dZ
  rw [oC h, hm, Option.bind_some]
  simp only [cond_true, decide_true, Bool.not_true, cond_false, hd, Option.bind_some]
  rw [← Option.bind_assoc, hi, Option.bind_some]
  by_cases h2 : mat must r p = -2
  · simp only [h2, decide_true, cond_true, if_true]
  · simp only [h2, decide_false, cond_false, if_false]
    rw [← Option.bind_assoc, hi, Option.bind_some]
theorem aGl (t : aO) (l : List aG) (r p : Int) {o : Int × Int} (h : dZ t l r p = some o) (Q : Int × Int → Prop) (hq : Q o) : mO t l r p Q := by
  unfold mO
  rcases jY t l with ⟨d, hg⟩ | ⟨e, he⟩
  · refine aFt hg fun won hW => ?_
    cases hm : fY t r p with
    | false =>
      rw [aAb hg hm] at h; cases h
      exact hq
    | true =>
      obtain ⟨r', p', rfl, rfl, hr, hp⟩ := pD hm
      obtain ⟨must, hd, hM⟩ := kC hg
      rw [yR hg hd hM hm] at h; cases h
      simp only [cond_true, decide_true, Bool.not_true, cond_false]
      refine ⟨_, rfl, ?_⟩
      simp only [vT hW hM hr hp]
      by_cases h2 : mat must r' p' = -2
      · rw [if_pos h2] at hq
        simp only [h2, decide_true, Bool.not_true, Bool.not_false, cond_true]; exact hq
      · rw [if_neg h2] at hq
        simp only [h2, decide_false, Bool.not_true, Bool.not_false, cond_false, vS hW hM hr hp h2]; exact hq
  · rw [aAc he] at h; cases h
    refine aHw he ?_
    simp only [he.ne, Bool.not_false, cond_true]
    exact hq
end Go.Am
