/- Layer 7, plain: Left, Reached and Meet of the program and of the reference. -/
import Derived.Test.YtenffgkkeafnpaaBkPlain1
namespace Go.Am

/-! Left. -/
theorem aAa {α : Type} (p : α → Bool) : ∀ l : List α, (l.filter p).length + (l.filter fun x => !p x).length = l.length
  | [] => rfl
  | x :: l => by
    have := aAa p l
    simp only [List.filter_cons]
    cases p x <;> simp <;> omega
def jL (must : List (List Int)) (x : Nat × Nat) : Bool := decide (mat must x.1 x.2 = -2)
def xN (t : aN) (must : List (List Int)) : Nat := ((iB t).filter (jL must)).length
def sF (t : aN) (n : Nat) : List (Nat × Nat) := (List.range n).flatMap fun r : Nat => (List.range (cI t r)).map fun p : Nat => (r, p)
theorem aBz (t : aN) (n : Nat) : sF t (n + 1) = sF t n ++ (List.range (cI t n)).map fun p : Nat => (n, p) := pZ _ _
theorem yV (t : aN) : ∀ n, n ≤ t.Rounds.toNat → (sF t n).length + 2 ^ (t.Rounds.toNat - n) = 2 ^ t.Rounds.toNat
  | 0, _ => by simp [sF]
  | n + 1, h => by
    have ih := yV t n (by omega)
    rw [aBz, List.length_append, List.length_map, List.length_range]
    unfold cI
    have e : t.Rounds.toNat - 1 - ((n : Nat) : Int).toNat = t.Rounds.toNat - (n + 1) := by simp; omega
    have e2 : 2 ^ (t.Rounds.toNat - n) = 2 * 2 ^ (t.Rounds.toNat - (n + 1)) := by
      have : t.Rounds.toNat - n = (t.Rounds.toNat - (n + 1)) + 1 := by omega
      rw [this, Nat.pow_succ]; omega
    rw [e]
    omega
theorem vI {t : aN} (ht : TreeOK t) : (iB t).length + 1 = t.Slots.length := by
  have := yV t t.Rounds.toNat (Nat.le_refl _)
  rw [ht.len]
  simpa [sF, iB] using this
theorem Good.inn {t : aN} {l : List aE} {d : List Int} (hg : Good t l d) {m : aB} {v : Int} (h : fL d (Res l) m v) : ∃ r p : Nat, m = ⟨r, p⟩ ∧ r < t.Rounds.toNat ∧ p < cI t r := by
  have h1 := hg.ht.r1
  have hlen := hg.dok.len
  rcases h with ⟨j, hj, hb, rfl, _⟩ | ⟨x, hx, a, ha, he, _, q, hq, rfl⟩
  · exact ⟨0, sib j / 2 ^ (0 + 1), rfl, by omega, oT hg.ht (uQ hg.ht (by omega)) (by omega)⟩
  · have := (hg.rok hx).r1
    have := (hg.rok hx).r0
    exact ⟨q, a / 2 ^ (q + 1), rfl, by omega, oT hg.ht (by omega) (by omega)⟩
theorem aLn {t : aN} {l : List aE} {d : List Int} (hg : Good t l d) {must : List (List Int)} (hM : MustIs t must (fL d (Res l))) {won : List (aB × Int)} (hW : WonIs won (fL d (Res l))) : won.length + xN t must + 1 = t.Slots.length := by
  have hs := aAa (jL must) (iB t)
  have hl := vI hg.ht
  have hmem : ∀ m : aB, m ∈ won.map (·.1) ↔ m ∈ ((iB t).filter fun x => !jL must x).map fun x => (⟨x.1, x.2⟩ : aB) := by
    intro m
    rw [List.mem_map, List.mem_map]
    constructor
    · rintro ⟨⟨m', v⟩, hv, rfl⟩
      have hP := (hW.mem _ _).1 hv
      obtain ⟨r, p, rfl, hr, hp⟩ := hg.inn hP
      refine ⟨(r, p), ?_, rfl⟩
      rw [List.mem_filter, zA]
      have := (hM.mem r p v hr hp).2 hP
      refine ⟨⟨hr, hp⟩, ?_⟩
      unfold jL
      rw [this.1]; simp [this.2]
    · rintro ⟨x, hx, rfl⟩
      rw [List.mem_filter, zA] at hx
      obtain ⟨⟨hr, hp⟩, ho⟩ := hx
      have h2 : mat must x.1 x.2 ≠ -2 := by simpa [jL] using ho
      exact ⟨(⟨x.1, x.2⟩, mat must x.1 x.2), (hW.mem _ _).2 ((hM.mem x.1 x.2 _ hr hp).1 ⟨rfl, h2⟩), rfl⟩
  have hnd : (((iB t).filter fun x => !jL must x).map fun x => (⟨x.1, x.2⟩ : aB)).Nodup := by
    refine List.Pairwise.map _ (fun x y hxy e => hxy ?_) ((aGj t).filter _)
    simp only [aB.mk.injEq] at e
    exact Prod.ext (by omega) (by omega)
  have := aDv hW.nd hnd hmem
  rw [List.length_map, List.length_map] at this
  unfold xN
  omega
section
variable {t : aN} {l : List aE} {d : List Int} (hg : Good t l d) {must : List (List Int)} (hM : MustIs t must (fL d (Res l)))
include hg hM
theorem aJy : dT t ⟨d, must⟩ BIG 0 0 = some (((xN t must : Nat) : Int), 0) := by
  have ht := hg.ht
  have h1 := ht.r1
  have h5 := ht.r5
  have hil := vI ht
  have h32 := ht.len32
  have hlen : ∀ n, n ≤ t.Rounds.toNat → ((sF t n).filter (jL must)).length ≤ 40 := fun n hn => by
    have hA := List.length_filter_le (jL must) (sF t n)
    have hB := yV t n hn
    rw [← ht.len] at hB
    generalize 2 ^ (t.Rounds.toNat - n) = z at hB
    omega
  have := fB (S := Int) (fun k r n => dT t ⟨d, must⟩ k n r) t.Rounds.toNat (fun _ _ => some (((xN t must : Nat) : Int), 0)) (fun r n => n = (((sF t r).filter (jL must)).length : Nat)) ?_ ?_ BIG 0 (cX (by omega)) (by simp [sF])
  · exact this
  · rintro k r n hr rfl ih
    have hlt : decide ((r : Int) < t.Rounds) = true := decide_eq_true (by omega)
    have hP := tN ht (r := (r : Int)) (by omega) (by omega)
    have hpl := kS ht (r := (r : Int))
    have hl0 := hlen r (by omega)
    have hin := fB (S := Int) (fun q p n => fR (dT t ⟨d, must⟩ k) r t ⟨d, must⟩ q n p) (cI t r)
      (fun _ _ => lO (dT t ⟨d, must⟩ k) ((((sF t (r + 1)).filter (jL must)).length : Nat) : Int) r t ⟨d, must⟩)
      (fun p n => n = ((((sF t r).filter (jL must)).length + (((List.range p).map fun p : Nat => (r, p)).filter (jL must)).length : Nat) : Int)) ?_ ?_ BIG (((sF t r).filter (jL must)).length : Nat) (cX (by omega)) (by simp)
    · simp only [dT, hlt, cond_true]
      refine hin.trans ?_
      unfold lO oG
      rw [cJ (show r < 9223372036854775807 by omega)]
      exact ih _ rfl
    · rintro q p n hp rfl ih2
      have hle : (((List.range p).map fun p : Nat => (r, p)).filter (jL must)).length ≤ p := by
        have := List.length_filter_le (jL must) ((List.range p).map fun p : Nat => (r, p)); simpa using this
      have hi := aBh hM hr hp
      simp only [fR, hP, Option.bind_some, Int.ofNat_lt, hp, decide_true, cond_true, cJ (show p < 9223372036854775807 by omega)]
      rw [← Option.bind_assoc, hi, Option.bind_some]
      have hst : (((List.range (p + 1)).map fun p : Nat => (r, p)).filter (jL must)).length = (((List.range p).map fun p : Nat => (r, p)).filter (jL must)).length + (if jL must (r, p) = true then 1 else 0) := by
        rw [List.range_succ, List.map_append, List.filter_append, List.length_append]
        congr 1
        simp only [List.map_cons, List.map_nil, List.filter_cons, List.filter_nil]
        split <;> rfl
      by_cases ho : mat must r p = -2
      · have ho' : jL must (r, p) = true := by unfold jL; simp [ho]
        rw [ho', if_pos rfl] at hst
        simp only [ho, decide_true, cond_true]
        rw [cJ (by omega)]
        exact ih2 _ (by rw [hst]; omega)
      · have ho' : jL must (r, p) = false := by unfold jL; simp [ho]
        rw [ho'] at hst
        simp only [ho, decide_false, cond_false]
        exact ih2 _ (by rw [hst]; simp)
    · rintro q n rfl
      have hlt2 : decide ((cI t r : Int) < (cI t r : Int)) = false := decide_eq_false (by omega)
      simp only [fR, hP, Option.bind_some, hlt2, cond_false, aBz, List.filter_append, List.length_append]
  · rintro k n rfl
    have hlt : decide (((t.Rounds.toNat : Nat) : Int) < t.Rounds) = false := decide_eq_false (by omega)
    simp only [dT, hlt, cond_false, oF]
    rfl
end
theorem aCx {t : aN} {l : List aE} {e : Int} (h : Stat t l e) : fP t l = some (0, e) := by
  unfold fP
  rw [nY h, Option.bind_some]
  simp only [h.ne, Bool.not_false, cond_true]
theorem aBo {t : aN} {l : List aE} {d : List Int} (h : Good t l d) {must : List (List Int)} (hd : dF t l = some (⟨d, must⟩, true)) (hM : MustIs t must (fL d (Res l))) : fP t l = some (((xN t must : Nat) : Int), 0) := by
  unfold fP
  exact (aBj _ _ (fun dd => dT t dd BIG 0 0) (fun r2 => (0, r2)) (mQ h) hd).trans (aJy h hM)
theorem aJc (t : aN) (l : List aE) {o : Int × Int} (h : fP t l = some o) (Q : Int × Int → Prop) (hq : Q o) : oD t l Q := by
  unfold oD
  rcases jW t l with ⟨d, hg⟩ | ⟨e, he⟩
  · obtain ⟨must, hd, hM⟩ := lQ hg
    rw [aBo hg hd hM] at h; cases h
    refine pU hg fun won hW => ?_
    have hl := aLn hg hM hW
    have h32 := hg.ht.len32
    simp only [decide_true, Bool.not_true, cond_false]
    refine ⟨_, rfl, _, rfl, ?_⟩
    have e : w64 (w64 ((t.Slots.length : Int) - 1) - (((won.map fun p : aB × Int => ((fun a : aB => Value.agg ((aK a).map bJ).toArray) p.1, aO p.2)).length : Nat) : Int)) = ((xN t must : Nat) : Int) := by
      rw [List.length_map, fE (show -9223372036854775808 ≤ (t.Slots.length : Int) - 1 by omega) (by omega), fE (by omega) (by omega)]
      omega
    show Q (w64 (w64 ((t.Slots.length : Int) - 1) - (((won.map fun p : aB × Int => ((fun a : aB => Value.agg ((aK a).map bJ).toArray) p.1, aO p.2)).length : Nat) : Int)), 0)
    rw [e]
    exact hq
  · rw [aCx he] at h; cases h
    refine rC he ?_
    simp only [he.ne, Bool.not_false, cond_true]
    exact hq

/-! Reached and Meet. -/
def qN (d : List Int) (n : Int) : Int := match d.findIdx? (fun x => decide (n = x)) with | some i => (i : Int) | none => -1
theorem aFj {d : List Int} (hl : d.length ≤ 1000) (n : Int) : fA d n = some (qN d n) := pY d (by omega) n
theorem yJ (d : List Int) (n : Int) : (qN d n = -1 ∧ ∀ a, a < d.length → d.getD a 0 ≠ n) ∨ ∃ a : Nat, qN d n = (a : Int) ∧ a < d.length ∧ d.getD a 0 = n := by
  unfold qN
  cases h : d.findIdx? (fun x => decide (n = x)) with
  | none =>
    refine .inl ⟨rfl, fun a ha e => ?_⟩
    rw [List.findIdx?_eq_none_iff] at h
    have := h _ (List.getElem_mem ha)
    rw [bW ha] at e
    simp [e] at this
  | some a =>
    obtain ⟨h1, h2, _⟩ := List.findIdx?_eq_some_iff_getElem.1 h
    refine .inr ⟨a, rfl, h1, ?_⟩
    rw [bW h1]
    simpa using (of_decide_eq_true h2).symm
theorem aIv {d : List Int} {must : List (List Int)} (hl : d.length ≤ 1000) (n : Int) : qD ⟨d, must⟩ n = some (qN d n) := by
  unfold qD qN
  rw [fB (S := Unit) (fun k i _ => kA n ⟨d, must⟩ k i) d.length (fun i _ => some (match (d.drop i).findIdx? (fun x => decide (n = x)) with | some j => ((i + j : Nat) : Int) | none => -1)) (fun _ _ => True) ?_ ?_ BIG () (cX (by omega)) trivial]
  · simp
  · intro k i _ hi _ ih
    have := ih () trivial
    simp only [kA, cL hi, Option.bind_some, cJ (show i < 9223372036854775807 by omega), Int.ofNat_lt, hi, decide_true, cond_true, this]
    rw [List.drop_eq_getElem_cons hi, List.findIdx?_cons]
    by_cases h : d[i] = n
    · simp [h]
    · have h' : ¬ n = d[i] := fun e => h e.symm
      simp only [h, h', decide_false, cond_false, Bool.false_eq_true, if_false]
      cases List.findIdx? (fun x => decide (n = x)) (List.drop (i + 1) d) with
      | none => rfl
      | some j => simp; omega
  · intro k _ _
    simp [kA, rQ]

theorem aLm {t : aN} {l : List aE} {e : Int} (h : Stat t l e) (ps : List Int) {Q : (Option bA × List Int × Int) → Prop} (hq : Q (none, [], e)) : lU t l ps Q := by
  unfold lU
  refine rC h ?_
  simp only [h.ne, Bool.not_false, cond_true]
  exact hq
theorem aKm {t : aN} {l : List aE} {d : List Int} (hg : Good t l d) {ps : List Int} (hp : ps.length ≤ 1000) {Q : (Option bA × List Int × Int) → Prop}
    (h1 : (∃ n ∈ ps, wi n 0 999 = false) → Q (none, [], 1)) (h0 : (∀ n ∈ ps, wi n 0 999 = true) → ∀ won, WonIs won (fL d (Res l)) → Q (some ⟨t, d, won⟩, ps.map (qN d), 0)) : lU t l ps Q := by
  have hlen := hg.dok.len
  have h32 := hg.ht.len32
  unfold lU
  refine pU hg fun won hW => ?_
  simp only [decide_true, Bool.not_true, cond_false]
  refine rT (S := List Int) (fun k i slots => jQ Q ps ps.length k (some ⟨t, d, won⟩) i slots) ps.length (fun x => x) (fun i slots => slots = (ps.take i).map (qN d) ∧ ∀ n ∈ ps.take i, wi n 0 999 = true) ?_ ?_ BIG 0 [] (cX (by omega)) ⟨by simp, by simp⟩
  · rintro k i slots hi ⟨rfl, hall⟩ ih
    have ht1 : ps.take (i + 1) = ps.take i ++ [ps[i]] := List.take_succ_eq_append_getElem hi
    simp only [jQ, Int.ofNat_lt, hi, decide_true, cond_true, cL hi, oC, cJ (show i < 9223372036854775807 by omega)]
    refine ⟨_, rfl, _, rfl, ?_⟩
    cases hw : wi ps[i] 0 999 with
    | false =>
      simp only [Bool.not_false, cond_true]
      exact h1 ⟨_, List.getElem_mem hi, hw⟩
    | true =>
      simp only [Bool.not_true, cond_false]
      refine ⟨_, rfl, _, aFj (show d.length ≤ 1000 by omega) _, _, hC (by simp; omega), ih _ ⟨by rw [ht1, List.map_append]; rfl, fun n hn => ?_⟩⟩
      rw [ht1, List.mem_append, List.mem_singleton] at hn
      rcases hn with hn | rfl
      · exact hall n hn
      · exact hw
  · rintro k i slots hi ⟨rfl, hall⟩
    have hlt : decide ((i : Int) < (ps.length : Int)) = false := decide_eq_false (by omega)
    have hta : ps.take i = ps := List.take_of_length_le (by omega)
    rw [hta] at hall
    simp only [jQ, hlt, cond_false, qU, hta]
    exact h0 hall won hW

/-- The outcome of Reached. -/
def zE (t : aN) (d : List Int) (must : List (List Int)) (n : Int) : dL × Int :=
  if wi n 0 999 = true then (if qN d n < 0 then (⟨0, 0⟩, 3) else (⟨leftFrom t d must (qN d n).toNat, mostFrom t d must (qN d n).toNat⟩, 0)) else (⟨0, 0⟩, 1)
where
  leftFrom (t : aN) (d : List Int) (must : List (List Int)) (a : Nat) : Int := aDt d must a t
  mostFrom (t : aN) (d : List Int) (must : List (List Int)) (a : Nat) : Int := sO d must a t
theorem aEs {t : aN} {l : List aE} {e : Int} (h : Stat t l e) (n : Int) : iR t l n = some (⟨0, 0⟩, e) := by
  unfold iR
  rw [nY h, Option.bind_some]
  simp only [h.ne, Bool.not_false, cond_true]
theorem aCy {t : aN} {l : List aE} {d : List Int} (hg : Good t l d) {must : List (List Int)} (hd : dF t l = some (⟨d, must⟩, true)) (hM : MustIs t must (fL d (Res l))) (n : Int) : iR t l n = some (zE t d must n) := by
  have hlen := hg.dok.len
  have h32 := hg.ht.len32
  unfold iR
  rw [mQ hg, Option.bind_some, oO]
  simp only [decide_true, Bool.not_true, cond_false, Option.bind_some]
  unfold zE
  cases hw : wi n 0 999 with
  | false => simp
  | true =>
    simp only [Bool.not_true, cond_false, hd, Option.bind_some, aIv (show d.length ≤ 1000 by omega), if_true]
    rcases yJ d n with ⟨h1, _⟩ | ⟨a, h1, ha, he⟩
    · rw [h1]; rfl
    · have hneg : decide ((a : Int) < 0) = false := decide_eq_false (by omega)
      have hneg' : ¬ ((a : Int) < 0) := by omega
      simp only [h1, hneg, hneg', cond_false, if_false, aIa hg.ht hg.dok hM ha, aDy hg.ht hg.dok hM ha, Option.bind_some, Int.toNat_natCast]
      rfl
theorem aEt (t : aN) (l : List aE) (n : Int) {o : dL × Int} (h : iR t l n = some o) (Q : dL × Int → Prop) (hq : Q o) : lM t l n Q := by
  unfold lM
  rcases jW t l with ⟨d, hg⟩ | ⟨e, he⟩
  · obtain ⟨must, hd, hM⟩ := lQ hg
    rw [aCy hg hd hM] at h; cases h
    unfold zE at hq
    refine aKm hg (by simp) (fun ⟨x, hx, hw⟩ => ?_) fun hall won hW => ?_
    · rw [List.mem_singleton] at hx
      subst hx
      rw [hw] at hq
      exact hq
    · have hw := hall n (by simp)
      rw [hw, if_pos rfl] at hq
      simp only [decide_true, Bool.not_true, cond_false, List.map_cons, List.map_nil, yW]
      refine ⟨_, rfl, ?_⟩
      rcases yJ d n with ⟨h1, _⟩ | ⟨a, h1, ha, he⟩
      · rw [h1] at hq ⊢
        exact hq
      · have hneg : decide ((a : Int) < 0) = false := decide_eq_false (by omega)
        have hneg' : ¬ ((a : Int) < 0) := by omega
        rw [h1, if_neg hneg'] at hq
        simp only [h1, hneg, cond_false]
        exact ⟨_, rfl, _, rfl, _, aLy hg.ht hg.dok hM hW ha, _, rfl, _, aDg hg.ht hg.dok hM hW ha, hq⟩
  · rw [aEs he] at h; cases h
    refine aLm he _ ?_
    simp only [he.ne, Bool.not_false, cond_true]
    exact hq

section
variable {t : aN} {l : List aE} {d : List Int} (hg : Good t l d) {must : List (List Int)} (hM : MustIs t must (fL d (Res l)))
include hg hM
end
theorem min2 (a b : Int) : uR [a, b] = some (min a b) := by
  have key := fB (S := Int) (fun k i m => kO [a, b] k m ((i : Int) + 1)) 1 (fun i m => some (if i = 0 then min m b else m)) (fun _ _ => True) ?_ ?_ BIG a (cX (by omega)) trivial
  · unfold uR
    have h1 : decide ((([a, b] : List Int).length : Int) < 1) = false := decide_eq_false (by simp)
    rw [h1, cond_false, yW, Option.bind_some]
    simpa using key
  · intro k i m hi _ ih
    have : i = 0 := by omega
    subst this
    have h1 : decide (((0 : Nat) : Int) + 1 < (([a, b] : List Int).length : Int)) = true := decide_eq_true (by simp)
    have i1 : idx [a, b] (((0 : Nat) : Int) + 1) = some b := rfl
    have w2 : w64 (((0 : Nat) : Int) + 1 + 1) = ((0 + 1 : Nat) : Int) + 1 := by decide +kernel
    simp only [kO, h1, cond_true, i1, Option.bind_some, w2, ih _ trivial]
    rfl
  · intro k m _
    have h1 : decide (((1 : Nat) : Int) + 1 < (([a, b] : List Int).length : Int)) = false := decide_eq_false (by simp)
    simp only [kO, h1, cond_false, sI]
    rfl
end Go.Am
