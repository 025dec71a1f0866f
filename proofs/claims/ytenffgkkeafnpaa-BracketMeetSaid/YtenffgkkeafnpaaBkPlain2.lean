/- Layer 7, plain: Left, Reached and Meet of the program and of the reference. -/
import Derived.Test.YtenffgkkeafnpaaBkPlain1
namespace Go.Am

/-! Left. -/
theorem aBf {α : Type} (p : α → Bool) : ∀ l : List α, (l.filter p).length + (l.filter fun x => !p x).length = l.length
  | [] => rfl
  | x :: l => by
    have := aBf p l
    simp only [List.filter_cons]
    cases p x <;> simp <;> omega
def jV (must : List (List Int)) (x : Nat × Nat) : Bool := decide (mat must x.1 x.2 = -2)
def yR (t : aO) (must : List (List Int)) : Nat := ((lK t).filter (jV must)).length
def sR (t : aO) (n : Nat) : List (Nat × Nat) := (List.range n).flatMap fun r : Nat => (List.range (cK t r)).map fun p : Nat => (r, p)
theorem aCt (t : aO) (n : Nat) : sR t (n + 1) = sR t n ++ (List.range (cK t n)).map fun p : Nat => (n, p) := qS _ _
theorem zW (t : aO) : ∀ n, n ≤ t.Rounds.toNat → (sR t n).length + 2 ^ (t.Rounds.toNat - n) = 2 ^ t.Rounds.toNat
  | 0, _ => by simp [sR]
  | n + 1, h => by
    have ih := zW t n (by omega)
    rw [aCt, List.length_append, List.length_map, List.length_range]
    unfold cK
    have e : t.Rounds.toNat - 1 - ((n : Nat) : Int).toNat = t.Rounds.toNat - (n + 1) := by simp; omega
    have e2 : 2 ^ (t.Rounds.toNat - n) = 2 * 2 ^ (t.Rounds.toNat - (n + 1)) := by
      have : t.Rounds.toNat - n = (t.Rounds.toNat - (n + 1)) + 1 := by omega
      rw [this, Nat.pow_succ]; omega
    rw [e]
    omega
theorem zX {t : aO} (ht : TreeOK t) : (lK t).length + 1 = t.Slots.length := by
  have := zW t t.Rounds.toNat (Nat.le_refl _)
  rw [ht.len]
  simpa [sR, lK] using this
theorem Good.inn {t : aO} {l : List aE} {d : List Int} (hg : Good t l d) {m : aB} {v : Int} (h : dN d (Res l) m v) : ∃ r p : Nat, m = ⟨r, p⟩ ∧ r < t.Rounds.toNat ∧ p < cK t r := by
  have h1 := hg.ht.r1
  have hlen := hg.dok.len
  rcases h with ⟨j, hj, hb, rfl, _⟩ | ⟨x, hx, a, ha, he, _, q, hq, rfl⟩
  · exact ⟨0, sib j / 2 ^ (0 + 1), rfl, by omega, lS hg.ht (tZ hg.ht (by omega)) (by omega)⟩
  · have := (hg.rok hx).r1
    have := (hg.rok hx).r0
    exact ⟨q, a / 2 ^ (q + 1), rfl, by omega, lS hg.ht (by omega) (by omega)⟩
theorem aMq {t : aO} {l : List aE} {d : List Int} (hg : Good t l d) {must : List (List Int)} (hM : MustIs t must (dN d (Res l))) {won : List (aB × Int)} (hW : WonIs won (dN d (Res l))) : won.length + yR t must + 1 = t.Slots.length := by
  have hs := aBf (jV must) (lK t)
  have hl := zX hg.ht
  have hmem : ∀ m : aB, m ∈ won.map (·.1) ↔ m ∈ ((lK t).filter fun x => !jV must x).map fun x => (⟨x.1, x.2⟩ : aB) := by
    intro m
    rw [List.mem_map, List.mem_map]
    constructor
    · rintro ⟨⟨m', v⟩, hv, rfl⟩
      have hP := (hW.mem _ _).1 hv
      obtain ⟨r, p, rfl, hr, hp⟩ := hg.inn hP
      refine ⟨(r, p), ?_, rfl⟩
      rw [List.mem_filter, aAd]
      have := (hM.mem r p v hr hp).2 hP
      refine ⟨⟨hr, hp⟩, ?_⟩
      unfold jV
      rw [this.1]; simp [this.2]
    · rintro ⟨x, hx, rfl⟩
      rw [List.mem_filter, aAd] at hx
      obtain ⟨⟨hr, hp⟩, ho⟩ := hx
      have h2 : mat must x.1 x.2 ≠ -2 := by simpa [jV] using ho
      exact ⟨(⟨x.1, x.2⟩, mat must x.1 x.2), (hW.mem _ _).2 ((hM.mem x.1 x.2 _ hr hp).1 ⟨rfl, h2⟩), rfl⟩
  have hnd : (((lK t).filter fun x => !jV must x).map fun x => (⟨x.1, x.2⟩ : aB)).Nodup := by
    refine List.Pairwise.map _ (fun x y hxy e => hxy ?_) ((aHe t).filter _)
    simp only [aB.mk.injEq] at e
    exact Prod.ext (by omega) (by omega)
  have := aEl hW.nd hnd hmem
  rw [List.length_map, List.length_map] at this
  unfold yR
  omega
section
variable {t : aO} {l : List aE} {d : List Int} (hg : Good t l d) {must : List (List Int)} (hM : MustIs t must (dN d (Res l)))
include hg hM
theorem aKu : fD t ⟨d, must⟩ BIG 0 0 = some (((yR t must : Nat) : Int), 0) := by
  have ht := hg.ht
  have h1 := ht.r1
  have h5 := ht.r5
  have hil := zX ht
  have h32 := ht.len32
  have hlen : ∀ n, n ≤ t.Rounds.toNat → ((sR t n).filter (jV must)).length ≤ 40 := fun n hn => by
    have hA := List.length_filter_le (jV must) (sR t n)
    have hB := zW t n hn
    rw [← ht.len] at hB
    generalize 2 ^ (t.Rounds.toNat - n) = z at hB
    omega
  have := fJ (S := Int) (fun k r n => fD t ⟨d, must⟩ k n r) t.Rounds.toNat (fun _ _ => some (((yR t must : Nat) : Int), 0)) (fun r n => n = (((sR t r).filter (jV must)).length : Nat)) ?_ ?_ BIG 0 (cZ (by omega)) (by simp [sR])
  · exact this
  · rintro k r n hr rfl ih
    have hlt : decide ((r : Int) < t.Rounds) = true := decide_eq_true (by omega)
    have hP := uD ht (r := (r : Int)) (by omega) (by omega)
    have hpl := lP ht (r := (r : Int))
    have hl0 := hlen r (by omega)
    have hin := fJ (S := Int) (fun q p n => iV (fD t ⟨d, must⟩ k) r t ⟨d, must⟩ q n p) (cK t r)
      (fun _ _ => oZ (fD t ⟨d, must⟩ k) ((((sR t (r + 1)).filter (jV must)).length : Nat) : Int) r t ⟨d, must⟩)
      (fun p n => n = ((((sR t r).filter (jV must)).length + (((List.range p).map fun p : Nat => (r, p)).filter (jV must)).length : Nat) : Int)) ?_ ?_ BIG (((sR t r).filter (jV must)).length : Nat) (cZ (by omega)) (by simp)
    · simp only [fD, hlt, cond_true]
      refine hin.trans ?_
      unfold oZ sE
      rw [cJ (show r < 9223372036854775807 by omega)]
      exact ih _ rfl
    · rintro q p n hp rfl ih2
      have hle : (((List.range p).map fun p : Nat => (r, p)).filter (jV must)).length ≤ p := by
        have := List.length_filter_le (jV must) ((List.range p).map fun p : Nat => (r, p)); simpa using this
      have hi := aGk hM hr hp
      simp only [iV, hP, Option.bind_some, Int.ofNat_lt, hp, decide_true, cond_true, cJ (show p < 9223372036854775807 by omega)]
      rw [← Option.bind_assoc, hi, Option.bind_some]
      have hst : (((List.range (p + 1)).map fun p : Nat => (r, p)).filter (jV must)).length = (((List.range p).map fun p : Nat => (r, p)).filter (jV must)).length + (if jV must (r, p) = true then 1 else 0) := by
        rw [List.range_succ, List.map_append, List.filter_append, List.length_append]
        congr 1
        simp only [List.map_cons, List.map_nil, List.filter_cons, List.filter_nil]
        split <;> rfl
      by_cases ho : mat must r p = -2
      · have ho' : jV must (r, p) = true := by unfold jV; simp [ho]
        rw [ho', if_pos rfl] at hst
        simp only [ho, decide_true, cond_true]
        rw [cJ (by omega)]
        exact ih2 _ (by rw [hst]; omega)
      · have ho' : jV must (r, p) = false := by unfold jV; simp [ho]
        rw [ho'] at hst
        simp only [ho, decide_false, cond_false]
        exact ih2 _ (by rw [hst]; simp)
    · rintro q n rfl
      have hlt2 : decide ((cK t r : Int) < (cK t r : Int)) = false := decide_eq_false (by omega)
      simp only [iV, hP, Option.bind_some, hlt2, cond_false, aCt, List.filter_append, List.length_append]
  · rintro k n rfl
    have hlt : decide (((t.Rounds.toNat : Nat) : Int) < t.Rounds) = false := decide_eq_false (by omega)
    simp only [fD, hlt, cond_false, sD]
    rfl
end
theorem aJw {t : aO} {l : List aE} {e : Int} (h : Stat t l e) : kW t l = some (0, e) := by
  unfold kW
  rw [nI h, Option.bind_some]
  simp only [h.ne, Bool.not_false, cond_true]
theorem aIj {t : aO} {l : List aE} {d : List Int} (h : Good t l d) {must : List (List Int)} (hd : dH t l = some (⟨d, must⟩, true)) (hM : MustIs t must (dN d (Res l))) : kW t l = some (((yR t must : Nat) : Int), 0) := by
  unfold kW
  exact (aGn _ _ (fun dd => fD t dd BIG 0 0) (fun r2 => (0, r2)) (mI h) hd).trans (aKu h hM)
theorem aJx (t : aO) (l : List aE) {o : Int × Int} (h : kW t l = some o) (Q : Int × Int → Prop) (hq : Q o) : oW t l Q := by
  unfold oW
  rcases nZ t l with ⟨d, hg⟩ | ⟨e, he⟩
  · obtain ⟨must, hd, hM⟩ := nJ hg
    rw [aIj hg hd hM] at h; cases h
    refine sI hg fun won hW => ?_
    have hl := aMq hg hM hW
    have h32 := hg.ht.len32
    simp only [decide_true, Bool.not_true, cond_false]
    refine ⟨_, rfl, _, rfl, ?_⟩
    have e : w64 (w64 ((t.Slots.length : Int) - 1) - (((won.map fun p : aB × Int => ((fun a : aB => Value.agg ((aK a).map bK).toArray) p.1, aP p.2)).length : Nat) : Int)) = ((yR t must : Nat) : Int) := by
      rw [List.length_map, fG (show -9223372036854775808 ≤ (t.Slots.length : Int) - 1 by omega) (by omega), fG (by omega) (by omega)]
      omega
    show Q (w64 (w64 ((t.Slots.length : Int) - 1) - (((won.map fun p : aB × Int => ((fun a : aB => Value.agg ((aK a).map bK).toArray) p.1, aP p.2)).length : Nat) : Int)), 0)
    rw [e]
    exact hq
  · rw [aJw he] at h; cases h
    refine tU he ?_
    simp only [he.ne, Bool.not_false, cond_true]
    exact hq

/-! Reached and Meet. -/
def dL (d : List Int) (n : Int) : Int := match d.findIdx? (fun x => decide (n = x)) with | some i => (i : Int) | none => -1
theorem aGd {d : List Int} (hl : d.length ≤ 1000) (n : Int) : fH d n = some (dL d n) := qQ d (by omega) n
theorem eY (d : List Int) (n : Int) : (dL d n = -1 ∧ ∀ a, a < d.length → d.getD a 0 ≠ n) ∨ ∃ a : Nat, dL d n = (a : Int) ∧ a < d.length ∧ d.getD a 0 = n := by
  unfold dL
  cases h : d.findIdx? (fun x => decide (n = x)) with
  | none =>
    refine .inl ⟨rfl, fun a ha e => ?_⟩
    rw [List.findIdx?_eq_none_iff] at h
    have := h _ (List.getElem_mem ha)
    rw [bV ha] at e
    simp [e] at this
  | some a =>
    obtain ⟨h1, h2, _⟩ := List.findIdx?_eq_some_iff_getElem.1 h
    refine .inr ⟨a, rfl, h1, ?_⟩
    rw [bV h1]
    simpa using (of_decide_eq_true h2).symm
theorem aLh {t : aO} {d : List Int} (hD : DOK t d) {a : Nat} (ha : a < d.length) (hn : d.getD a 0 ≠ -1) : dL d (d.getD a 0) = (a : Int) := by
  rcases eY d (d.getD a 0) with ⟨_, h⟩ | ⟨b, h1, h2, h3⟩
  · exact absurd rfl (h a ha)
  · rw [h1, hD.uni ha h2 h3.symm hn]
theorem yH {d : List Int} {must : List (List Int)} (hl : d.length ≤ 1000) (n : Int) : jI ⟨d, must⟩ n = some (dL d n) := by
  unfold jI dL
  rw [fJ (S := Unit) (fun k i _ => kQ n ⟨d, must⟩ k i) d.length (fun i _ => some (match (d.drop i).findIdx? (fun x => decide (n = x)) with | some j => ((i + j : Nat) : Int) | none => -1)) (fun _ _ => True) ?_ ?_ BIG () (cZ (by omega)) trivial]
  · simp
  · intro k i _ hi _ ih
    have := ih () trivial
    simp only [kQ, cM hi, Option.bind_some, cJ (show i < 9223372036854775807 by omega), Int.ofNat_lt, hi, decide_true, cond_true, this]
    rw [List.drop_eq_getElem_cons hi, List.findIdx?_cons]
    by_cases h : d[i] = n
    · simp [h]
    · have h' : ¬ n = d[i] := fun e => h e.symm
      simp only [h, h', decide_false, cond_false, Bool.false_eq_true, if_false]
      cases List.findIdx? (fun x => decide (n = x)) (List.drop (i + 1) d) with
      | none => rfl
      | some j => simp; omega
  · intro k _ _
    simp [kQ, sF]

theorem aGu {t : aO} {l : List aE} {e : Int} (h : Stat t l e) (ps : List Int) {Q : (Option bB × List Int × Int) → Prop} (hq : Q (none, [], e)) : lM t l ps Q := by
  unfold lM
  refine tU h ?_
  simp only [h.ne, Bool.not_false, cond_true]
  exact hq
theorem aFh {t : aO} {l : List aE} {d : List Int} (hg : Good t l d) {ps : List Int} (hp : ps.length ≤ 1000) {Q : (Option bB × List Int × Int) → Prop}
    (h1 : (∃ n ∈ ps, wi n 0 999 = false) → Q (none, [], 1)) (h0 : (∀ n ∈ ps, wi n 0 999 = true) → ∀ won, WonIs won (dN d (Res l)) → Q (some ⟨t, d, won⟩, ps.map (dL d), 0)) : lM t l ps Q := by
  have hlen := hg.dok.len
  have h32 := hg.ht.len32
  unfold lM
  refine sI hg fun won hW => ?_
  simp only [decide_true, Bool.not_true, cond_false]
  refine mP (S := List Int) (fun k i slots => kD Q ps ps.length k (some ⟨t, d, won⟩) i slots) ps.length (fun x => x) (fun i slots => slots = (ps.take i).map (dL d) ∧ ∀ n ∈ ps.take i, wi n 0 999 = true) ?_ ?_ BIG 0 [] (cZ (by omega)) ⟨by simp, by simp⟩
  · rintro k i slots hi ⟨rfl, hall⟩ ih
    have ht1 : ps.take (i + 1) = ps.take i ++ [ps[i]] := List.take_succ_eq_append_getElem hi
    simp only [kD, Int.ofNat_lt, hi, decide_true, cond_true, cM hi, oV, cJ (show i < 9223372036854775807 by omega)]
    refine ⟨_, rfl, _, rfl, ?_⟩
    cases hw : wi ps[i] 0 999 with
    | false =>
      simp only [Bool.not_false, cond_true]
      exact h1 ⟨_, List.getElem_mem hi, hw⟩
    | true =>
      simp only [Bool.not_true, cond_false]
      refine ⟨_, rfl, _, aGd (show d.length ≤ 1000 by omega) _, _, iT (by simp; omega), ih _ ⟨by rw [ht1, List.map_append]; rfl, fun n hn => ?_⟩⟩
      rw [ht1, List.mem_append, List.mem_singleton] at hn
      rcases hn with hn | rfl
      · exact hall n hn
      · exact hw
  · rintro k i slots hi ⟨rfl, hall⟩
    have hlt : decide ((i : Int) < (ps.length : Int)) = false := decide_eq_false (by omega)
    have hta : ps.take i = ps := List.take_of_length_le (by omega)
    rw [hta] at hall
    simp only [kD, hlt, cond_false, rM, hta]
    exact h0 hall won hW

/-- The outcome of Reached. -/
def aAh (t : aO) (d : List Int) (must : List (List Int)) (n : Int) : dR × Int :=
  if wi n 0 999 = true then (if dL d n < 0 then (⟨0, 0⟩, 3) else (⟨leftFrom t d must (dL d n).toNat, mostFrom t d must (dL d n).toNat⟩, 0)) else (⟨0, 0⟩, 1)
where
  leftFrom (t : aO) (d : List Int) (must : List (List Int)) (a : Nat) : Int := aEj d must a t
  mostFrom (t : aO) (d : List Int) (must : List (List Int)) (a : Nat) : Int := fP d must a t
theorem aFj {t : aO} {l : List aE} {e : Int} (h : Stat t l e) (n : Int) : iY t l n = some (⟨0, 0⟩, e) := by
  unfold iY
  rw [nI h, Option.bind_some]
  simp only [h.ne, Bool.not_false, cond_true]
theorem aDq {t : aO} {l : List aE} {d : List Int} (hg : Good t l d) {must : List (List Int)} (hd : dH t l = some (⟨d, must⟩, true)) (hM : MustIs t must (dN d (Res l))) (n : Int) : iY t l n = some (aAh t d must n) := by
  have hlen := hg.dok.len
  have h32 := hg.ht.len32
  unfold iY
  rw [mI hg, Option.bind_some, mB]
  simp only [decide_true, Bool.not_true, cond_false, Option.bind_some]
  unfold aAh
  cases hw : wi n 0 999 with
  | false => simp
  | true =>
    simp only [Bool.not_true, cond_false, hd, Option.bind_some, yH (show d.length ≤ 1000 by omega), if_true]
    rcases eY d n with ⟨h1, _⟩ | ⟨a, h1, ha, he⟩
    · rw [h1]; rfl
    · have hneg : decide ((a : Int) < 0) = false := decide_eq_false (by omega)
      have hneg' : ¬ ((a : Int) < 0) := by omega
      simp only [h1, hneg, hneg', cond_false, if_false, aIw hg.ht hg.dok hM ha, wI hg.ht hg.dok hM ha, Option.bind_some, Int.toNat_natCast]
      rfl
theorem aFk (t : aO) (l : List aE) (n : Int) {o : dR × Int} (h : iY t l n = some o) (Q : dR × Int → Prop) (hq : Q o) : mK t l n Q := by
  unfold mK
  rcases nZ t l with ⟨d, hg⟩ | ⟨e, he⟩
  · obtain ⟨must, hd, hM⟩ := nJ hg
    rw [aDq hg hd hM] at h; cases h
    unfold aAh at hq
    refine aFh hg (by simp) (fun ⟨x, hx, hw⟩ => ?_) fun hall won hW => ?_
    · rw [List.mem_singleton] at hx
      subst hx
      rw [hw] at hq
      exact hq
    · have hw := hall n (by simp)
      rw [hw, if_pos rfl] at hq
      simp only [decide_true, Bool.not_true, cond_false, List.map_cons, List.map_nil, vZ]
      refine ⟨_, rfl, ?_⟩
      rcases eY d n with ⟨h1, _⟩ | ⟨a, h1, ha, he⟩
      · rw [h1] at hq ⊢
        exact hq
      · have hneg : decide ((a : Int) < 0) = false := decide_eq_false (by omega)
        have hneg' : ¬ ((a : Int) < 0) := by omega
        rw [h1, if_neg hneg'] at hq
        simp only [h1, hneg, cond_false]
        exact ⟨_, rfl, _, rfl, _, aNa hg.ht hg.dok hM hW ha, _, rfl, _, xG hg.ht hg.dok hM hW ha, hq⟩
  · rw [aFj he] at h; cases h
    refine aGu he _ ?_
    simp only [he.ne, Bool.not_false, cond_true]
    exact hq

/-- The round in which the ways of two slots meet. -/
def bZ (t : aO) (a b : Nat) : Nat := lD (fun r => decide (a / 2 ^ (r + 1) = b / 2 ^ (r + 1))) t.Rounds.toNat
theorem aFq {bad : Nat → Bool} {n i : Nat} (hi : i < n) (hb : bad i = true) (hno : ∀ q, q < i → bad q = false) : lD bad n = i := by
  refine Nat.le_antisymm (Nat.le_of_not_lt fun hlt => ?_) (Nat.le_of_not_lt fun hlt => ?_)
  · have := (rU hi).1 hlt i (Nat.le_refl _)
    rw [this] at hb; cases hb
  · have := xK (bad := bad) (n := n) (by omega)
    rw [hno _ hlt] at this; cases this
theorem pE {t : aO} (ht : TreeOK t) {a b : Nat} (ha : a < t.Slots.length) (hb : b < t.Slots.length) : bZ t a b < t.Rounds.toNat := by
  have h1 := ht.r1
  rw [ht.len] at ha hb
  refine Nat.lt_of_not_le fun hle => ?_
  have := (rU (bad := fun r => decide (a / 2 ^ (r + 1) = b / 2 ^ (r + 1))) (n := t.Rounds.toNat) (r := t.Rounds.toNat - 1) (by omega)).1 (by unfold bZ at hle; omega) (t.Rounds.toNat - 1) (Nat.le_refl _)
  have e : t.Rounds.toNat - 1 + 1 = t.Rounds.toNat := by omega
  rw [decide_eq_false_iff_not, e, Nat.div_eq_of_lt ha, Nat.div_eq_of_lt hb] at this
  exact this rfl
theorem wF {t : aO} (ht : TreeOK t) {a b : Nat} (ha : a < t.Slots.length) (hb : b < t.Slots.length) : a / 2 ^ (bZ t a b + 1) = b / 2 ^ (bZ t a b + 1) := by
  have := xK (bad := fun r => decide (a / 2 ^ (r + 1) = b / 2 ^ (r + 1))) (n := t.Rounds.toNat) (pE ht ha hb)
  exact of_decide_eq_true this
theorem wG {t : aO} (ht : TreeOK t) {a b : Nat} (ha : a < t.Slots.length) (hb : b < t.Slots.length) {q : Nat} (hq : q < bZ t a b) : a / 2 ^ (q + 1) ≠ b / 2 ^ (q + 1) := by
  have hlt := pE ht ha hb
  have := (rU (bad := fun r => decide (a / 2 ^ (r + 1) = b / 2 ^ (r + 1))) (n := t.Rounds.toNat) (r := q) (by omega)).1 hq q (Nat.le_refl _)
  exact of_decide_eq_false this
/-- The outcome of Meet. -/
def oS (t : aO) (d : List Int) (must : List (List Int)) (x y : Int) : Int × Int :=
  if wi x 0 999 = true ∧ wi y 0 999 = true ∧ x ≠ y then (if dL d x < 0 ∨ dL d y < 0 then (0, 3) else
    (if fP d must (dL d x).toNat t < bZ t (dL d x).toNat (dL d y).toNat ∨ fP d must (dL d y).toNat t < bZ t (dL d x).toNat (dL d y).toNat then (0, 3) else ((bZ t (dL d x).toNat (dL d y).toNat : Int), 0))) else (0, 1)
section
variable {t : aO} {l : List aE} {d : List Int} (hg : Good t l d) {must : List (List Int)} (hM : MustIs t must (dN d (Res l)))
include hg hM
theorem aKx {a b : Nat} (ha : a < d.length) (hb : b < d.length) : fU a b t ⟨d, must⟩ BIG 0 = some (if fP d must a t < bZ t a b ∨ fP d must b t < bZ t a b then (0, 3) else ((bZ t a b : Int), 0)) := by
  have ht := hg.ht
  have hD := hg.dok
  have hlen := hD.len
  have h5 := ht.r5
  have hm := pE ht (show a < t.Slots.length by omega) (show b < t.Slots.length by omega)
  have hme := wF ht (show a < t.Slots.length by omega) (show b < t.Slots.length by omega)
  have hmn := fun q hq => wG ht (show a < t.Slots.length by omega) (show b < t.Slots.length by omega) (q := q) hq
  have hsh : ∀ (i k : Nat), i < 6 → fU a b t ⟨d, must⟩ (k + 1) i = bif !decide (a / 2 ^ (i + 1) = b / 2 ^ (i + 1)) then fU a b t ⟨d, must⟩ k ((i + 1 : Nat) : Int) else mN a b i t ⟨d, must⟩ := by
    intro i k hi
    have hw : w64 ((i : Int) + 1) = ((i + 1 : Nat) : Int) := cJ (by omega)
    have hu : IntKind.u64.wrap ((i + 1 : Nat) : Int) = ((i + 1 : Nat) : Int) := kU (by omega) (by omega)
    have hch : chk (decide (0 ≤ ((i + 1 : Nat) : Int))) = some () := by unfold chk; rw [decide_eq_true (by omega)]; rfl
    have hmin : min ((i + 1 : Nat) : Int).toNat 64 = i + 1 := by omega
    have hdp : decide (((a / 2 ^ (i + 1) : Nat) : Int) = ((b / 2 ^ (i + 1) : Nat) : Int)) = decide (a / 2 ^ (i + 1) = b / 2 ^ (i + 1)) := by rw [Bool.eq_iff_iff]; simp only [decide_eq_true_eq]; omega
    simp only [fU, hw, hu, hch, hmin, mS, Option.bind_some, hdp]
  have key : ∀ n i k, i + n = bZ t a b → n < k → fU a b t ⟨d, must⟩ k i = mN a b (bZ t a b) t ⟨d, must⟩ := by
    intro n
    induction n with
    | zero =>
      intro i k hi hk
      have : i = bZ t a b := by omega
      subst this
      cases k with
      | zero => omega
      | succ k =>
        rw [hsh _ k (by omega), decide_eq_true hme]
        rfl
    | succ n ih =>
      intro i k hi hk
      cases k with
      | zero => omega
      | succ k =>
        rw [hsh _ k (by omega), decide_eq_false (hmn i (by omega))]
        exact ih (i + 1) k (by omega) (by omega)
  rw [show (0 : Int) = ((0 : Nat) : Int) from rfl, key (bZ t a b) 0 BIG (by omega) (cZ (by omega))]
  unfold mN
  have d1 : decide ((fP d must a t : Int) < (bZ t a b : Int)) = decide (fP d must a t < bZ t a b) := by rw [Bool.eq_iff_iff]; simp only [decide_eq_true_eq]; omega
  have d2 : decide ((fP d must b t : Int) < (bZ t a b : Int)) = decide (fP d must b t < bZ t a b) := by rw [Bool.eq_iff_iff]; simp only [decide_eq_true_eq]; omega
  simp only [wI ht hD hM ha, wI ht hD hM hb, Option.bind_some, d1, d2, lC]
  by_cases h : fP d must a t < bZ t a b ∨ fP d must b t < bZ t a b
  · have : (decide (fP d must a t < bZ t a b) || decide (fP d must b t < bZ t a b)) = true := by simpa using h
    rw [if_pos h, this]; rfl
  · have : (decide (fP d must a t < bZ t a b) || decide (fP d must b t < bZ t a b)) = false := by simpa using h
    rw [if_neg h, this]; rfl
theorem aJa {won : List (aB × Int)} (hW : WonIs won (dN d (Res l))) {a b : Nat} (ha : a < d.length) (hb : b < d.length) {Q : Int × Int → Prop} (hq : Q (if fP d must a t < bZ t a b ∨ fP d must b t < bZ t a b then (0, 3) else ((bZ t a b : Int), 0))) :
    jE Q (some ⟨t, d, won⟩) [(a : Int), (b : Int)] t.Rounds BIG 0 := by
  have ht := hg.ht
  have hD := hg.dok
  have hlen := hD.len
  have h1 := ht.r1
  have h5 := ht.r5
  have hm := pE ht (show a < t.Slots.length by omega) (show b < t.Slots.length by omega)
  refine mP (S := Unit) (fun k i _ => jE Q (some ⟨t, d, won⟩) [(a : Int), (b : Int)] t.Rounds k i) t.Rounds.toNat (fun x => x) (fun i _ => ∀ q, q < i → decide (a / 2 ^ (q + 1) = b / 2 ^ (q + 1)) = false) ?_ ?_ BIG 0 () (cZ (by omega)) (by simp)
  · rintro k i _ hi hno ih
    have hlt : decide ((i : Int) < t.Rounds) = true := decide_eq_true (by omega)
    have i1 : idx [(a : Int), (b : Int)] 1 = some (b : Int) := rfl
    have hdc : decide (cell a i = cell b i) = decide (a / 2 ^ (i + 1) = b / 2 ^ (i + 1)) := by
      rw [Bool.eq_iff_iff]; simp only [decide_eq_true_eq, cell, aB.mk.injEq, true_and]; omega
    simp only [jE, hlt, cond_true, vZ, i1, uK (show i ≤ 5 by omega), cJ (show i < 9223372036854775807 by omega)]
    refine ⟨_, rfl, _, uK (by omega), _, rfl, _, uK (by omega), ?_⟩
    simp only [hdc]
    cases he : decide (a / 2 ^ (i + 1) = b / 2 ^ (i + 1)) with
    | true =>
      have hmi : bZ t a b = i := aFq hi he hno
      rw [hmi] at hq
      simp only [cond_true]
      refine ⟨_, rfl, _, rfl, _, xG ht hD hM hW ha, _, rfl, _, xG ht hD hM hW hb, ?_⟩
      by_cases h : fP d must a t < i ∨ fP d must b t < i
      · rw [if_pos h] at hq
        rw [decide_eq_true (by omega)]
        exact hq
      · rw [if_neg h] at hq
        rw [decide_eq_false (by omega)]
        exact hq
    | false =>
      simp only [cond_false]
      refine ih () fun q hq' => ?_
      by_cases hqi : q = i
      · subst hqi; exact he
      · exact hno q (by omega)
  · rintro k i _ hi hno
    exact absurd (hno _ (show bZ t a b < i by omega)) (by rw [decide_eq_true (wF ht (show a < t.Slots.length by omega) (show b < t.Slots.length by omega))]; simp)
end
theorem aJz {t : aO} {l : List aE} {e : Int} (h : Stat t l e) (x y : Int) : kX t l x y = some (0, e) := by
  unfold kX
  rw [nI h, Option.bind_some]
  simp only [h.ne, Bool.not_false, cond_true]
theorem aKy (A : Option Int) (B : Option (aQ × Bool)) (w1 w2 e : Bool) (S : aQ → Option Int) (T : aQ → Option Int) (F : Int → Int → aQ → Option (Int × Int)) {d : aQ} {a b : Int} (hA : A = some 0) (hB : B = some (d, true)) (hS : S d = some a) (hT : T d = some b) :
    (A.bind fun r2 => bif !decide (r2 = 0) then (some (0, r2))
    else ((some w1).bind fun r3 =>
    (bif !r3 then (some true) else ((some w2).bind fun r4 => some (!r4))).bind fun b5 =>
    (bif b5 then (some true) else (some e)).bind fun b6 =>
    bif b6 then (some (0, 1))
    else (B.bind fun r7 =>
    (S r7.1).bind fun r9 =>
    (T r7.1).bind fun r10 =>
    (bif decide (r9 < 0) then (some true) else (some (decide (r10 < 0)))).bind fun b11 =>
    bif b11 then (some (0, 3))
    else (F r9 r10 r7.1)))) = bif (w1 && w2 && !e) then (bif decide (a < 0) || decide (b < 0) then some (0, 3) else F a b d) else some (0, 1) := by
  subst hA; subst hB
  simp only [Option.bind_some, decide_true, Bool.not_true, cond_false, hS, hT, lC]
  cases w1 <;> cases w2 <;> cases e <;> rfl
theorem xB {t : aO} {l : List aE} {d : List Int} (hg : Good t l d) {must : List (List Int)} (hd : dH t l = some (⟨d, must⟩, true)) (hM : MustIs t must (dN d (Res l))) (x y : Int) : kX t l x y = some (oS t d must x y) := by
  have hlen := hg.dok.len
  have h32 := hg.ht.len32
  unfold kX
  rw [mB, mB]
  refine (aKy _ _ (wi x 0 999) (wi y 0 999) (decide (x = y)) (fun dd => jI dd x) (fun dd => jI dd y) (fun a b dd => fU a b t dd BIG 0) (mI hg) hd (yH (by omega) x) (yH (by omega) y)).trans ?_
  unfold oS
  by_cases hc : wi x 0 999 = true ∧ wi y 0 999 = true ∧ x ≠ y
  · rw [if_pos hc, hc.1, hc.2.1, decide_eq_false hc.2.2]
    simp only [Bool.not_false, Bool.and_self, cond_true]
    by_cases hn : dL d x < 0 ∨ dL d y < 0
    · have : (decide (dL d x < 0) || decide (dL d y < 0)) = true := by simpa using hn
      rw [if_pos hn, this]; rfl
    · have : (decide (dL d x < 0) || decide (dL d y < 0)) = false := by simpa using hn
      rw [if_neg hn, this, cond_false]
      rcases eY d x with ⟨h1, _⟩ | ⟨a, h1, ha, _⟩
      · omega
      · rcases eY d y with ⟨h2, _⟩ | ⟨b, h2, hb, _⟩
        · omega
        · rw [h1, h2, aKx hg hM ha hb]; rfl
  · rw [if_neg hc]
    have : (wi x 0 999 && wi y 0 999 && !decide (x = y)) = false := by
      rw [Bool.eq_false_iff]
      intro h
      simp only [Bool.and_eq_true, Bool.not_eq_true', decide_eq_false_iff_not] at h
      exact hc ⟨h.1.1, h.1.2, h.2⟩
    rw [this]; rfl
theorem min2 (a b : Int) : nH [a, b] = some (min a b) := by
  have key := fJ (S := Int) (fun k i m => iJ [a, b] k m ((i : Int) + 1)) 1 (fun i m => some (if i = 0 then min m b else m)) (fun _ _ => True) ?_ ?_ BIG a (cZ (by omega)) trivial
  · unfold nH
    have h1 : decide ((([a, b] : List Int).length : Int) < 1) = false := decide_eq_false (by simp)
    rw [h1, cond_false, vZ, Option.bind_some]
    simpa using key
  · intro k i m hi _ ih
    have : i = 0 := by omega
    subst this
    have h1 : decide (((0 : Nat) : Int) + 1 < (([a, b] : List Int).length : Int)) = true := decide_eq_true (by simp)
    have i1 : idx [a, b] (((0 : Nat) : Int) + 1) = some b := rfl
    have w2 : w64 (((0 : Nat) : Int) + 1 + 1) = ((0 + 1 : Nat) : Int) + 1 := by decide +kernel
    simp only [iJ, h1, cond_true, i1, Option.bind_some, w2, ih _ trivial]
    rfl
  · intro k m _
    have h1 : decide (((1 : Nat) : Int) + 1 < (([a, b] : List Int).length : Int)) = false := decide_eq_false (by simp)
    simp only [iJ, h1, cond_false, pP]
    rfl
theorem aKa (t : aO) (l : List aE) (x y : Int) {o : Int × Int} (h : kX t l x y = some o) (Q : Int × Int → Prop) (hq : Q o) : oX t l x y Q := by
  unfold oX
  rcases nZ t l with ⟨d, hg⟩ | ⟨e, he⟩
  · obtain ⟨must, hd, hM⟩ := nJ hg
    rw [xB hg hd hM] at h; cases h
    unfold oS at hq
    refine aFh hg (by simp) (fun ⟨z, hz, hw⟩ => ?_) fun hall won hW => ?_
    · have hc : ¬ (wi x 0 999 = true ∧ wi y 0 999 = true ∧ x ≠ y) := by
        rintro ⟨h1, h2, _⟩
        simp only [List.mem_cons, List.not_mem_nil, or_false] at hz
        rcases hz with rfl | rfl
        · rw [h1] at hw; cases hw
        · rw [h2] at hw; cases hw
      rw [if_neg hc] at hq
      exact hq
    · have h1 := hall x (by simp)
      have h2 := hall y (by simp)
      simp only [decide_true, Bool.not_true, cond_false, List.map_cons, List.map_nil]
      by_cases he : x = y
      · rw [if_neg (fun hc => hc.2.2 he)] at hq
        rw [decide_eq_true he]
        exact hq
      · rw [if_pos ⟨h1, h2, he⟩] at hq
        rw [decide_eq_false he]
        simp only [cond_false]
        refine ⟨_, min2 _ _, ?_⟩
        by_cases hn : dL d x < 0 ∨ dL d y < 0
        · rw [if_pos hn] at hq
          rw [decide_eq_true (by omega)]
          exact hq
        · rw [if_neg hn] at hq
          rw [decide_eq_false (by omega)]
          rcases eY d x with ⟨g1, _⟩ | ⟨a, g1, ha, _⟩
          · omega
          · rcases eY d y with ⟨g2, _⟩ | ⟨b, g2, hb, _⟩
            · omega
            · rw [g1, g2] at hq ⊢
              exact ⟨_, rfl, aJa hg hM hW ha hb hq⟩
  · rw [aJz he] at h; cases h
    refine aGu he _ ?_
    simp only [he.ne, Bool.not_false, cond_true]
    exact hq
end Go.Am
