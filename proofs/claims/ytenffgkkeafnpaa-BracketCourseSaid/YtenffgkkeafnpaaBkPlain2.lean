/- Layer 7, plain: Left, Reached and Meet of the program and of the reference. -/
import Derived.Test.YtenffgkkeafnpaaBkPlain1
namespace Go.Am

/-! Left. -/
theorem aAz {α : Type} (p : α → Bool) : ∀ l : List α, (l.filter p).length + (l.filter fun x => !p x).length = l.length
  | [] => rfl
  | x :: l => by
    have := aAz p l
    simp only [List.filter_cons]
    cases p x <;> simp <;> omega
def kB (must : List (List Int)) (x : Nat × Nat) : Bool := decide (mat must x.1 x.2 = -2)
def yV (t : aT) (must : List (List Int)) : Nat := ((iI t).filter (kB must)).length
def tB (t : aT) (n : Nat) : List (Nat × Nat) := (List.range n).flatMap fun r : Nat => (List.range (bZ t r)).map fun p : Nat => (r, p)
theorem aCn (t : aT) (n : Nat) : tB t (n + 1) = tB t n ++ (List.range (bZ t n)).map fun p : Nat => (n, p) := qS _ _
theorem aAb (t : aT) : ∀ n, n ≤ t.Rounds.toNat → (tB t n).length + 2 ^ (t.Rounds.toNat - n) = 2 ^ t.Rounds.toNat
  | 0, _ => by simp [tB]
  | n + 1, h => by
    have ih := aAb t n (by omega)
    rw [aCn, List.length_append, List.length_map, List.length_range]
    unfold bZ
    have e : t.Rounds.toNat - 1 - ((n : Nat) : Int).toNat = t.Rounds.toNat - (n + 1) := by simp; omega
    have e2 : 2 ^ (t.Rounds.toNat - n) = 2 * 2 ^ (t.Rounds.toNat - (n + 1)) := by
      have : t.Rounds.toNat - n = (t.Rounds.toNat - (n + 1)) + 1 := by omega
      rw [this, Nat.pow_succ]; omega
    rw [e]
    omega
theorem tW {t : aT} (ht : TreeOK t) : (iI t).length + 1 = t.Slots.length := by
  have := aAb t t.Rounds.toNat (Nat.le_refl _)
  rw [ht.len]
  simpa [tB, iI] using this
theorem Good.inn {t : aT} {l : List aI} {d : List Int} (hg : Good t l d) {m : aF} {v : Int} (h : eR d (Res l) m v) : ∃ r p : Nat, m = ⟨r, p⟩ ∧ r < t.Rounds.toNat ∧ p < bZ t r := by
  have h1 := hg.ht.r1
  have hlen := hg.dok.len
  rcases h with ⟨j, hj, hb, rfl, _⟩ | ⟨x, hx, a, ha, he, _, q, hq, rfl⟩
  · exact ⟨0, sib j / 2 ^ (0 + 1), rfl, by omega, kX hg.ht (vS hg.ht (by omega)) (by omega)⟩
  · have := (hg.rok hx).r1
    have := (hg.rok hx).r0
    exact ⟨q, a / 2 ^ (q + 1), rfl, by omega, kX hg.ht (by omega) (by omega)⟩
theorem aMc {t : aT} {l : List aI} {d : List Int} (hg : Good t l d) {must : List (List Int)} (hM : MustIs t must (eR d (Res l))) {won : List (aF × Int)} (hW : WonIs won (eR d (Res l))) : won.length + yV t must + 1 = t.Slots.length := by
  have hs := aAz (kB must) (iI t)
  have hl := tW hg.ht
  have hmem : ∀ m : aF, m ∈ won.map (·.1) ↔ m ∈ ((iI t).filter fun x => !kB must x).map fun x => (⟨x.1, x.2⟩ : aF) := by
    intro m
    rw [List.mem_map, List.mem_map]
    constructor
    · rintro ⟨⟨m', v⟩, hv, rfl⟩
      have hP := (hW.mem _ _).1 hv
      obtain ⟨r, p, rfl, hr, hp⟩ := hg.inn hP
      refine ⟨(r, p), ?_, rfl⟩
      rw [List.mem_filter, rY]
      have := (hM.mem r p v hr hp).2 hP
      refine ⟨⟨hr, hp⟩, ?_⟩
      unfold kB
      rw [this.1]; simp [this.2]
    · rintro ⟨x, hx, rfl⟩
      rw [List.mem_filter, rY] at hx
      obtain ⟨⟨hr, hp⟩, ho⟩ := hx
      have h2 : mat must x.1 x.2 ≠ -2 := by simpa [kB] using ho
      exact ⟨(⟨x.1, x.2⟩, mat must x.1 x.2), (hW.mem _ _).2 ((hM.mem x.1 x.2 _ hr hp).1 ⟨rfl, h2⟩), rfl⟩
  have hnd : (((iI t).filter fun x => !kB must x).map fun x => (⟨x.1, x.2⟩ : aF)).Nodup := by
    refine List.Pairwise.map _ (fun x y hxy e => hxy ?_) ((aGz t).filter _)
    simp only [aF.mk.injEq] at e
    exact Prod.ext (by omega) (by omega)
  have := aEf hW.nd hnd hmem
  rw [List.length_map, List.length_map] at this
  unfold yV
  omega
section
variable {t : aT} {l : List aI} {d : List Int} (hg : Good t l d) {must : List (List Int)} (hM : MustIs t must (eR d (Res l)))
include hg hM
theorem aKh : fH t ⟨d, must⟩ BIG 0 0 = some (((yV t must : Nat) : Int), 0) := by
  have ht := hg.ht
  have h1 := ht.r1
  have h5 := ht.r5
  have hil := tW ht
  have h32 := ht.len32
  have hlen : ∀ n, n ≤ t.Rounds.toNat → ((tB t n).filter (kB must)).length ≤ 40 := fun n hn => by
    have hA := List.length_filter_le (kB must) (tB t n)
    have hB := aAb t n hn
    rw [← ht.len] at hB
    generalize 2 ^ (t.Rounds.toNat - n) = z at hB
    omega
  have := fM (S := Int) (fun k r n => fH t ⟨d, must⟩ k n r) t.Rounds.toNat (fun _ _ => some (((yV t must : Nat) : Int), 0)) (fun r n => n = (((tB t r).filter (kB must)).length : Nat)) ?_ ?_ BIG 0 (dD (by omega)) (by simp [tB])
  · exact this
  · rintro k r n hr rfl ih
    have hlt : decide ((r : Int) < t.Rounds) = true := decide_eq_true (by omega)
    have hP := sH ht (r := (r : Int)) (by omega) (by omega)
    have hpl := jX ht (r := (r : Int))
    have hl0 := hlen r (by omega)
    have hin := fM (S := Int) (fun q p n => iW (fH t ⟨d, must⟩ k) r t ⟨d, must⟩ q n p) (bZ t r)
      (fun _ _ => oO (fH t ⟨d, must⟩ k) ((((tB t (r + 1)).filter (kB must)).length : Nat) : Int) r t ⟨d, must⟩)
      (fun p n => n = ((((tB t r).filter (kB must)).length + (((List.range p).map fun p : Nat => (r, p)).filter (kB must)).length : Nat) : Int)) ?_ ?_ BIG (((tB t r).filter (kB must)).length : Nat) (dD (by omega)) (by simp)
    · simp only [fH, hlt, cond_true]
      refine hin.trans ?_
      unfold oO sM
      rw [cJ (show r < 9223372036854775807 by omega)]
      exact ih _ rfl
    · rintro q p n hp rfl ih2
      have hle : (((List.range p).map fun p : Nat => (r, p)).filter (kB must)).length ≤ p := by
        have := List.length_filter_le (kB must) ((List.range p).map fun p : Nat => (r, p)); simpa using this
      have hi := aBz hM hr hp
      simp only [iW, hP, Option.bind_some, Int.ofNat_lt, hp, decide_true, cond_true, cJ (show p < 9223372036854775807 by omega)]
      rw [← Option.bind_assoc, hi, Option.bind_some]
      have hst : (((List.range (p + 1)).map fun p : Nat => (r, p)).filter (kB must)).length = (((List.range p).map fun p : Nat => (r, p)).filter (kB must)).length + (if kB must (r, p) = true then 1 else 0) := by
        rw [List.range_succ, List.map_append, List.filter_append, List.length_append]
        congr 1
        simp only [List.map_cons, List.map_nil, List.filter_cons, List.filter_nil]
        split <;> rfl
      by_cases ho : mat must r p = -2
      · have ho' : kB must (r, p) = true := by unfold kB; simp [ho]
        rw [ho', if_pos rfl] at hst
        simp only [ho, decide_true, cond_true]
        rw [cJ (by omega)]
        exact ih2 _ (by rw [hst]; omega)
      · have ho' : kB must (r, p) = false := by unfold kB; simp [ho]
        rw [ho'] at hst
        simp only [ho, decide_false, cond_false]
        exact ih2 _ (by rw [hst]; simp)
    · rintro q n rfl
      have hlt2 : decide ((bZ t r : Int) < (bZ t r : Int)) = false := decide_eq_false (by omega)
      simp only [iW, hP, Option.bind_some, hlt2, cond_false, aCn, List.filter_append, List.length_append]
  · rintro k n rfl
    have hlt : decide (((t.Rounds.toNat : Nat) : Int) < t.Rounds) = false := decide_eq_false (by omega)
    simp only [fH, hlt, cond_false, sL]
    rfl
end
theorem aJk {t : aT} {l : List aI} {e : Int} (h : Stat t l e) : kY t l = some (0, e) := by
  unfold kY
  rw [sG h, Option.bind_some]
  simp only [h.ne, Bool.not_false, cond_true]
theorem aIb {t : aT} {l : List aI} {d : List Int} (h : Good t l d) {must : List (List Int)} (hd : dA t l = some (⟨d, must⟩, true)) (hM : MustIs t must (eR d (Res l))) : kY t l = some (((yV t must : Nat) : Int), 0) := by
  unfold kY
  exact (aGg _ _ (fun dd => fH t dd BIG 0 0) (fun r2 => (0, r2)) (qO h) hd).trans (aKh h hM)
theorem aJl (t : aT) (l : List aI) {o : Int × Int} (h : kY t l = some o) (Q : Int × Int → Prop) (hq : Q o) : oL t l Q := by
  unfold oL
  rcases pI t l with ⟨d, hg⟩ | ⟨e, he⟩
  · obtain ⟨must, hd, hM⟩ := oT hg
    rw [aIb hg hd hM] at h; cases h
    refine uO hg fun won hW => ?_
    have hl := aMc hg hM hW
    have h32 := hg.ht.len32
    simp only [decide_true, Bool.not_true, cond_false]
    refine ⟨_, rfl, _, rfl, ?_⟩
    have e : w64 (w64 ((t.Slots.length : Int) - 1) - (((won.map fun p : aF × Int => ((fun a : aF => Value.agg ((aN a).map bQ).toArray) p.1, aO p.2)).length : Nat) : Int)) = ((yV t must : Nat) : Int) := by
      rw [List.length_map, eU (show -9223372036854775808 ≤ (t.Slots.length : Int) - 1 by omega) (by omega), eU (by omega) (by omega)]
      omega
    show Q (w64 (w64 ((t.Slots.length : Int) - 1) - (((won.map fun p : aF × Int => ((fun a : aF => Value.agg ((aN a).map bQ).toArray) p.1, aO p.2)).length : Nat) : Int)), 0)
    rw [e]
    exact hq
  · rw [aJk he] at h; cases h
    refine wP he ?_
    simp only [he.ne, Bool.not_false, cond_true]
    exact hq

/-! Reached and Meet. -/
def pX (d : List Int) (n : Int) : Int := match d.findIdx? (fun x => decide (n = x)) with | some i => (i : Int) | none => -1
theorem aFw {d : List Int} (hl : d.length ≤ 1000) (n : Int) : fL d n = some (pX d n) := qQ d (by omega) n
theorem vF (d : List Int) (n : Int) : (pX d n = -1 ∧ ∀ a, a < d.length → d.getD a 0 ≠ n) ∨ ∃ a : Nat, pX d n = (a : Int) ∧ a < d.length ∧ d.getD a 0 = n := by
  unfold pX
  cases h : d.findIdx? (fun x => decide (n = x)) with
  | none =>
    refine .inl ⟨rfl, fun a ha e => ?_⟩
    rw [List.findIdx?_eq_none_iff] at h
    have := h _ (List.getElem_mem ha)
    rw [bT ha] at e
    simp [e] at this
  | some a =>
    obtain ⟨h1, h2, _⟩ := List.findIdx?_eq_some_iff_getElem.1 h
    refine .inr ⟨a, rfl, h1, ?_⟩
    rw [bT h1]
    simpa using (of_decide_eq_true h2).symm
theorem aKt {t : aT} {d : List Int} (hD : DOK t d) {a : Nat} (ha : a < d.length) (hn : d.getD a 0 ≠ -1) : pX d (d.getD a 0) = (a : Int) := by
  rcases vF d (d.getD a 0) with ⟨_, h⟩ | ⟨b, h1, h2, h3⟩
  · exact absurd rfl (h a ha)
  · rw [h1, hD.uni ha h2 h3.symm hn]
theorem aJf {d : List Int} {must : List (List Int)} (hl : d.length ≤ 1000) (n : Int) : qV ⟨d, must⟩ n = some (pX d n) := by
  unfold qV pX
  rw [fM (S := Unit) (fun k i _ => kT n ⟨d, must⟩ k i) d.length (fun i _ => some (match (d.drop i).findIdx? (fun x => decide (n = x)) with | some j => ((i + j : Nat) : Int) | none => -1)) (fun _ _ => True) ?_ ?_ BIG () (dD (by omega)) trivial]
  · simp
  · intro k i _ hi _ ih
    have := ih () trivial
    simp only [kT, cH hi, Option.bind_some, cJ (show i < 9223372036854775807 by omega), Int.ofNat_lt, hi, decide_true, cond_true, this]
    rw [List.drop_eq_getElem_cons hi, List.findIdx?_cons]
    by_cases h : d[i] = n
    · simp [h]
    · have h' : ¬ n = d[i] := fun e => h e.symm
      simp only [h, h', decide_false, cond_false, Bool.false_eq_true, if_false]
      cases List.findIdx? (fun x => decide (n = x)) (List.drop (i + 1) d) with
      | none => rfl
      | some j => simp; omega
  · intro k _ _
    simp [kT, sN]

theorem aMb {t : aT} {l : List aI} {e : Int} (h : Stat t l e) (ps : List Int) {Q : (Option bI × List Int × Int) → Prop} (hq : Q (none, [], e)) : mK t l ps Q := by
  unfold mK
  refine wP h ?_
  simp only [h.ne, Bool.not_false, cond_true]
  exact hq
theorem aKy {t : aT} {l : List aI} {d : List Int} (hg : Good t l d) {ps : List Int} (hp : ps.length ≤ 1000) {Q : (Option bI × List Int × Int) → Prop}
    (h1 : (∃ n ∈ ps, wi n 0 999 = false) → Q (none, [], 1)) (h0 : (∀ n ∈ ps, wi n 0 999 = true) → ∀ won, WonIs won (eR d (Res l)) → Q (some ⟨t, d, won⟩, ps.map (pX d), 0)) : mK t l ps Q := by
  have hlen := hg.dok.len
  have h32 := hg.ht.len32
  unfold mK
  refine uO hg fun won hW => ?_
  simp only [decide_true, Bool.not_true, cond_false]
  refine lL (S := List Int) (fun k i slots => kH Q ps ps.length k (some ⟨t, d, won⟩) i slots) ps.length (fun x => x) (fun i slots => slots = (ps.take i).map (pX d) ∧ ∀ n ∈ ps.take i, wi n 0 999 = true) ?_ ?_ BIG 0 [] (dD (by omega)) ⟨by simp, by simp⟩
  · rintro k i slots hi ⟨rfl, hall⟩ ih
    have ht1 : ps.take (i + 1) = ps.take i ++ [ps[i]] := List.take_succ_eq_append_getElem hi
    simp only [kH, Int.ofNat_lt, hi, decide_true, cond_true, cH hi, oK, cJ (show i < 9223372036854775807 by omega)]
    refine ⟨_, rfl, _, rfl, ?_⟩
    cases hw : wi ps[i] 0 999 with
    | false =>
      simp only [Bool.not_false, cond_true]
      exact h1 ⟨_, List.getElem_mem hi, hw⟩
    | true =>
      simp only [Bool.not_true, cond_false]
      refine ⟨_, rfl, _, aFw (show d.length ≤ 1000 by omega) _, _, iU (by simp; omega), ih _ ⟨by rw [ht1, List.map_append]; rfl, fun n hn => ?_⟩⟩
      rw [ht1, List.mem_append, List.mem_singleton] at hn
      rcases hn with hn | rfl
      · exact hall n hn
      · exact hw
  · rintro k i slots hi ⟨rfl, hall⟩
    have hlt : decide ((i : Int) < (ps.length : Int)) = false := decide_eq_false (by omega)
    have hta : ps.take i = ps := List.take_of_length_le (by omega)
    rw [hta] at hall
    simp only [kH, hlt, cond_false, rT, hta]
    exact h0 hall won hW

/-- The outcome of Reached. -/
def uD (t : aT) (d : List Int) (must : List (List Int)) (n : Int) : dP × Int :=
  if wi n 0 999 = true then (if pX d n < 0 then (⟨0, 0⟩, 3) else (⟨leftFrom t d must (pX d n).toNat, mostFrom t d must (pX d n).toNat⟩, 0)) else (⟨0, 0⟩, 1)
where
  leftFrom (t : aT) (d : List Int) (must : List (List Int)) (a : Nat) : Int := qZ d must a t
  mostFrom (t : aT) (d : List Int) (must : List (List Int)) (a : Nat) : Int := mU d must a t
theorem aFe {t : aT} {l : List aI} {e : Int} (h : Stat t l e) (n : Int) : iZ t l n = some (⟨0, 0⟩, e) := by
  unfold iZ
  rw [sG h, Option.bind_some]
  simp only [h.ne, Bool.not_false, cond_true]
theorem xI {t : aT} {l : List aI} {d : List Int} (hg : Good t l d) {must : List (List Int)} (hd : dA t l = some (⟨d, must⟩, true)) (hM : MustIs t must (eR d (Res l))) (n : Int) : iZ t l n = some (uD t d must n) := by
  have hlen := hg.dok.len
  have h32 := hg.ht.len32
  unfold iZ
  rw [qO hg, Option.bind_some, oX]
  simp only [decide_true, Bool.not_true, cond_false, Option.bind_some]
  unfold uD
  cases hw : wi n 0 999 with
  | false => simp
  | true =>
    simp only [Bool.not_true, cond_false, hd, Option.bind_some, aJf (show d.length ≤ 1000 by omega), if_true]
    rcases vF d n with ⟨h1, _⟩ | ⟨a, h1, ha, he⟩
    · rw [h1]; rfl
    · have hneg : decide ((a : Int) < 0) = false := decide_eq_false (by omega)
      have hneg' : ¬ ((a : Int) < 0) := by omega
      simp only [h1, hneg, hneg', cond_false, if_false, aIq hg.ht hg.dok hM ha, aEi hg.ht hg.dok hM ha, Option.bind_some, Int.toNat_natCast]
      rfl
theorem aFf (t : aT) (l : List aI) (n : Int) {o : dP × Int} (h : iZ t l n = some o) (Q : dP × Int → Prop) (hq : Q o) : mD t l n Q := by
  unfold mD
  rcases pI t l with ⟨d, hg⟩ | ⟨e, he⟩
  · obtain ⟨must, hd, hM⟩ := oT hg
    rw [xI hg hd hM] at h; cases h
    unfold uD at hq
    refine aKy hg (by simp) (fun ⟨x, hx, hw⟩ => ?_) fun hall won hW => ?_
    · rw [List.mem_singleton] at hx
      subst hx
      rw [hw] at hq
      exact hq
    · have hw := hall n (by simp)
      rw [hw, if_pos rfl] at hq
      simp only [decide_true, Bool.not_true, cond_false, List.map_cons, List.map_nil, aEb]
      refine ⟨_, rfl, ?_⟩
      rcases vF d n with ⟨h1, _⟩ | ⟨a, h1, ha, he⟩
      · rw [h1] at hq ⊢
        exact hq
      · have hneg : decide ((a : Int) < 0) = false := decide_eq_false (by omega)
        have hneg' : ¬ ((a : Int) < 0) := by omega
        rw [h1, if_neg hneg'] at hq
        simp only [h1, hneg, cond_false]
        exact ⟨_, rfl, _, rfl, _, aMl hg.ht hg.dok hM hW ha, _, rfl, _, aDo hg.ht hg.dok hM hW ha, hq⟩
  · rw [aFe he] at h; cases h
    refine aMb he _ ?_
    simp only [he.ne, Bool.not_false, cond_true]
    exact hq

section
variable {t : aT} {l : List aI} {d : List Int} (hg : Good t l d) {must : List (List Int)} (hM : MustIs t must (eR d (Res l)))
include hg hM
end
end Go.Am
