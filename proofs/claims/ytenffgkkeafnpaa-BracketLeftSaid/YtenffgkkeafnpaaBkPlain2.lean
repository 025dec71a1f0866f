/- Layer 7, plain: Left, Reached and Meet of the program and of the reference. -/
import Derived.Test.YtenffgkkeafnpaaBkPlain1
namespace Go.Am

/-! Left. -/
theorem aAl {α : Type} (p : α → Bool) : ∀ l : List α, (l.filter p).length + (l.filter fun x => !p x).length = l.length
  | [] => rfl
  | x :: l => by
    have := aAl p l
    simp only [List.filter_cons]
    cases p x <;> simp <;> omega
def eU (must : List (List Int)) (x : Nat × Nat) : Bool := decide (mat must x.1 x.2 = -2)
def kL (t : aO) (must : List (List Int)) : Nat := ((dE t).filter (eU must)).length
def sO (t : aO) (n : Nat) : List (Nat × Nat) := (List.range n).flatMap fun r : Nat => (List.range (bZ t r)).map fun p : Nat => (r, p)
theorem aCd (t : aO) (n : Nat) : sO t (n + 1) = sO t n ++ (List.range (bZ t n)).map fun p : Nat => (n, p) := qA _ _
theorem zL (t : aO) : ∀ n, n ≤ t.Rounds.toNat → (sO t n).length + 2 ^ (t.Rounds.toNat - n) = 2 ^ t.Rounds.toNat
  | 0, _ => by simp [sO]
  | n + 1, h => by
    have ih := zL t n (by omega)
    rw [aCd, List.length_append, List.length_map, List.length_range]
    unfold bZ
    have e : t.Rounds.toNat - 1 - ((n : Nat) : Int).toNat = t.Rounds.toNat - (n + 1) := by simp; omega
    have e2 : 2 ^ (t.Rounds.toNat - n) = 2 * 2 ^ (t.Rounds.toNat - (n + 1)) := by
      have : t.Rounds.toNat - n = (t.Rounds.toNat - (n + 1)) + 1 := by omega
      rw [this, Nat.pow_succ]; omega
    rw [e]
    omega
theorem pQ {t : aO} (ht : TreeOK t) : (dE t).length + 1 = t.Slots.length := by
  have := zL t t.Rounds.toNat (Nat.le_refl _)
  rw [ht.len]
  simpa [sO, dE] using this
theorem Good.inn {t : aO} {l : List aE} {d : List Int} (hg : Good t l d) {m : aB} {v : Int} (h : eA d (Res l) m v) : ∃ r p : Nat, m = ⟨r, p⟩ ∧ r < t.Rounds.toNat ∧ p < bZ t r := by
  have h1 := hg.ht.r1
  have hlen := hg.dok.len
  rcases h with ⟨j, hj, hb, rfl, _⟩ | ⟨x, hx, a, ha, he, _, q, hq, rfl⟩
  · exact ⟨0, sib j / 2 ^ (0 + 1), rfl, by omega, nP hg.ht (tU hg.ht (by omega)) (by omega)⟩
  · have := (hg.rok hx).r1
    have := (hg.rok hx).r0
    exact ⟨q, a / 2 ^ (q + 1), rfl, by omega, nP hg.ht (by omega) (by omega)⟩
theorem aLz {t : aO} {l : List aE} {d : List Int} (hg : Good t l d) {must : List (List Int)} (hM : MustIs t must (eA d (Res l))) {won : List (aB × Int)} (hW : WonIs won (eA d (Res l))) : won.length + kL t must + 1 = t.Slots.length := by
  have hs := aAl (eU must) (dE t)
  have hl := pQ hg.ht
  have hmem : ∀ m : aB, m ∈ won.map (·.1) ↔ m ∈ ((dE t).filter fun x => !eU must x).map fun x => (⟨x.1, x.2⟩ : aB) := by
    intro m
    rw [List.mem_map, List.mem_map]
    constructor
    · rintro ⟨⟨m', v⟩, hv, rfl⟩
      have hP := (hW.mem _ _).1 hv
      obtain ⟨r, p, rfl, hr, hp⟩ := hg.inn hP
      refine ⟨(r, p), ?_, rfl⟩
      rw [List.mem_filter, lG]
      have := (hM.mem r p v hr hp).2 hP
      refine ⟨⟨hr, hp⟩, ?_⟩
      unfold eU
      rw [this.1]; simp [this.2]
    · rintro ⟨x, hx, rfl⟩
      rw [List.mem_filter, lG] at hx
      obtain ⟨⟨hr, hp⟩, ho⟩ := hx
      have h2 : mat must x.1 x.2 ≠ -2 := by simpa [eU] using ho
      exact ⟨(⟨x.1, x.2⟩, mat must x.1 x.2), (hW.mem _ _).2 ((hM.mem x.1 x.2 _ hr hp).1 ⟨rfl, h2⟩), rfl⟩
  have hnd : (((dE t).filter fun x => !eU must x).map fun x => (⟨x.1, x.2⟩ : aB)).Nodup := by
    refine List.Pairwise.map _ (fun x y hxy e => hxy ?_) ((vQ t).filter _)
    simp only [aB.mk.injEq] at e
    exact Prod.ext (by omega) (by omega)
  have := aAq hW.nd hnd hmem
  rw [List.length_map, List.length_map] at this
  unfold kL
  omega
section
variable {t : aO} {l : List aE} {d : List Int} (hg : Good t l d) {must : List (List Int)} (hM : MustIs t must (eA d (Res l)))
include hg hM
theorem aKf : fA t ⟨d, must⟩ BIG 0 0 = some (((kL t must : Nat) : Int), 0) := by
  have ht := hg.ht
  have h1 := ht.r1
  have h5 := ht.r5
  have hil := pQ ht
  have h32 := ht.len32
  have hlen : ∀ n, n ≤ t.Rounds.toNat → ((sO t n).filter (eU must)).length ≤ 40 := fun n hn => by
    have hA := List.length_filter_le (eU must) (sO t n)
    have hB := zL t n hn
    rw [← ht.len] at hB
    generalize 2 ^ (t.Rounds.toNat - n) = z at hB
    omega
  have := eQ (S := Int) (fun k r n => fA t ⟨d, must⟩ k n r) t.Rounds.toNat (fun _ _ => some (((kL t must : Nat) : Int), 0)) (fun r n => n = (((sO t r).filter (eU must)).length : Nat)) ?_ ?_ BIG 0 (cW (by omega)) (by simp [sO])
  · exact this
  · rintro k r n hr rfl ih
    have hlt : decide ((r : Int) < t.Rounds) = true := decide_eq_true (by omega)
    have hP := tX ht (r := (r : Int)) (by omega) (by omega)
    have hpl := kX ht (r := (r : Int))
    have hl0 := hlen r (by omega)
    have hin := eQ (S := Int) (fun q p n => iN (fA t ⟨d, must⟩ k) r t ⟨d, must⟩ q n p) (bZ t r)
      (fun _ _ => oG (fA t ⟨d, must⟩ k) ((((sO t (r + 1)).filter (eU must)).length : Nat) : Int) r t ⟨d, must⟩)
      (fun p n => n = ((((sO t r).filter (eU must)).length + (((List.range p).map fun p : Nat => (r, p)).filter (eU must)).length : Nat) : Int)) ?_ ?_ BIG (((sO t r).filter (eU must)).length : Nat) (cW (by omega)) (by simp)
    · simp only [fA, hlt, cond_true]
      refine hin.trans ?_
      unfold oG rX
      rw [cI (show r < 9223372036854775807 by omega)]
      exact ih _ rfl
    · rintro q p n hp rfl ih2
      have hle : (((List.range p).map fun p : Nat => (r, p)).filter (eU must)).length ≤ p := by
        have := List.length_filter_le (eU must) ((List.range p).map fun p : Nat => (r, p)); simpa using this
      have hi := yD hM hr hp
      simp only [iN, hP, Option.bind_some, Int.ofNat_lt, hp, decide_true, cond_true, cI (show p < 9223372036854775807 by omega)]
      rw [← Option.bind_assoc, hi, Option.bind_some]
      have hst : (((List.range (p + 1)).map fun p : Nat => (r, p)).filter (eU must)).length = (((List.range p).map fun p : Nat => (r, p)).filter (eU must)).length + (if eU must (r, p) = true then 1 else 0) := by
        rw [List.range_succ, List.map_append, List.filter_append, List.length_append]
        congr 1
        simp only [List.map_cons, List.map_nil, List.filter_cons, List.filter_nil]
        split <;> rfl
      by_cases ho : mat must r p = -2
      · have ho' : eU must (r, p) = true := by unfold eU; simp [ho]
        rw [ho', if_pos rfl] at hst
        simp only [ho, decide_true, cond_true]
        rw [cI (by omega)]
        exact ih2 _ (by rw [hst]; omega)
      · have ho' : eU must (r, p) = false := by unfold eU; simp [ho]
        rw [ho'] at hst
        simp only [ho, decide_false, cond_false]
        exact ih2 _ (by rw [hst]; simp)
    · rintro q n rfl
      have hlt2 : decide ((bZ t r : Int) < (bZ t r : Int)) = false := decide_eq_false (by omega)
      simp only [iN, hP, Option.bind_some, hlt2, cond_false, aCd, List.filter_append, List.length_append]
  · rintro k n rfl
    have hlt : decide (((t.Rounds.toNat : Nat) : Int) < t.Rounds) = false := decide_eq_false (by omega)
    simp only [fA, hlt, cond_false, rW]
    rfl
end
theorem aJj {t : aO} {l : List aE} {e : Int} (h : Stat t l e) : kI t l = some (0, e) := by
  unfold kI
  rw [pU h, Option.bind_some]
  simp only [h.ne, Bool.not_false, cond_true]
theorem wP {t : aO} {l : List aE} {d : List Int} (h : Good t l d) {must : List (List Int)} (hd : cQ t l = some (⟨d, must⟩, true)) (hM : MustIs t must (eA d (Res l))) : kI t l = some (((kL t must : Nat) : Int), 0) := by
  unfold kI
  exact (aBq _ _ (fun dd => fA t dd BIG 0 0) (fun r2 => (0, r2)) (oT h) hd).trans (aKf h hM)
theorem aJk (t : aO) (l : List aE) {o : Int × Int} (h : kI t l = some o) (Q : Int × Int → Prop) (hq : Q o) : oD t l Q := by
  unfold oD
  rcases nH t l with ⟨d, hg⟩ | ⟨e, he⟩
  · obtain ⟨must, hd, hM⟩ := lW hg
    rw [wP hg hd hM] at h; cases h
    refine sD hg fun won hW => ?_
    have hl := aLz hg hM hW
    have h32 := hg.ht.len32
    simp only [decide_true, Bool.not_true, cond_false]
    refine ⟨_, rfl, _, rfl, ?_⟩
    have e : w64 (w64 ((t.Slots.length : Int) - 1) - (((won.map fun p : aB × Int => ((fun a : aB => Value.agg ((aH a).map bG).toArray) p.1, aP p.2)).length : Nat) : Int)) = ((kL t must : Nat) : Int) := by
      rw [List.length_map, eT (show -9223372036854775808 ≤ (t.Slots.length : Int) - 1 by omega) (by omega), eT (by omega) (by omega)]
      omega
    show Q (w64 (w64 ((t.Slots.length : Int) - 1) - (((won.map fun p : aB × Int => ((fun a : aB => Value.agg ((aH a).map bG).toArray) p.1, aP p.2)).length : Nat) : Int)), 0)
    rw [e]
    exact hq
  · rw [aJj he] at h; cases h
    refine tQ he ?_
    simp only [he.ne, Bool.not_false, cond_true]
    exact hq

/-! Reached and Meet. -/
def qO (d : List Int) (n : Int) : Int := match d.findIdx? (fun x => decide (n = x)) with | some i => (i : Int) | none => -1
theorem aFp {d : List Int} (hl : d.length ≤ 1000) (n : Int) : fE d n = some (qO d n) := pZ d (by omega) n
theorem yY (d : List Int) (n : Int) : (qO d n = -1 ∧ ∀ a, a < d.length → d.getD a 0 ≠ n) ∨ ∃ a : Nat, qO d n = (a : Int) ∧ a < d.length ∧ d.getD a 0 = n := by
  unfold qO
  cases h : d.findIdx? (fun x => decide (n = x)) with
  | none =>
    refine .inl ⟨rfl, fun a ha e => ?_⟩
    rw [List.findIdx?_eq_none_iff] at h
    have := h _ (List.getElem_mem ha)
    rw [bP ha] at e
    simp [e] at this
  | some a =>
    obtain ⟨h1, h2, _⟩ := List.findIdx?_eq_some_iff_getElem.1 h
    refine .inr ⟨a, rfl, h1, ?_⟩
    rw [bP h1]
    simpa using (of_decide_eq_true h2).symm
theorem aJd {d : List Int} {must : List (List Int)} (hl : d.length ≤ 1000) (n : Int) : qD ⟨d, must⟩ n = some (qO d n) := by
  unfold qD qO
  rw [eQ (S := Unit) (fun k i _ => kE n ⟨d, must⟩ k i) d.length (fun i _ => some (match (d.drop i).findIdx? (fun x => decide (n = x)) with | some j => ((i + j : Nat) : Int) | none => -1)) (fun _ _ => True) ?_ ?_ BIG () (cW (by omega)) trivial]
  · simp
  · intro k i _ hi _ ih
    have := ih () trivial
    simp only [kE, cK hi, Option.bind_some, cI (show i < 9223372036854775807 by omega), Int.ofNat_lt, hi, decide_true, cond_true, this]
    rw [List.drop_eq_getElem_cons hi, List.findIdx?_cons]
    by_cases h : d[i] = n
    · simp [h]
    · have h' : ¬ n = d[i] := fun e => h e.symm
      simp only [h, h', decide_false, cond_false, Bool.false_eq_true, if_false]
      cases List.findIdx? (fun x => decide (n = x)) (List.drop (i + 1) d) with
      | none => rfl
      | some j => simp; omega
  · intro k _ _
    simp [kE, rY]

theorem aLy {t : aO} {l : List aE} {e : Int} (h : Stat t l e) (ps : List Int) {Q : (Option aW × List Int × Int) → Prop} (hq : Q (none, [], e)) : lZ t l ps Q := by
  unfold lZ
  refine tQ h ?_
  simp only [h.ne, Bool.not_false, cond_true]
  exact hq
theorem aKu {t : aO} {l : List aE} {d : List Int} (hg : Good t l d) {ps : List Int} (hp : ps.length ≤ 1000) {Q : (Option aW × List Int × Int) → Prop}
    (h1 : (∃ n ∈ ps, wi n 0 999 = false) → Q (none, [], 1)) (h0 : (∀ n ∈ ps, wi n 0 999 = true) → ∀ won, WonIs won (eA d (Res l)) → Q (some ⟨t, d, won⟩, ps.map (qO d), 0)) : lZ t l ps Q := by
  have hlen := hg.dok.len
  have h32 := hg.ht.len32
  unfold lZ
  refine sD hg fun won hW => ?_
  simp only [decide_true, Bool.not_true, cond_false]
  refine sA (S := List Int) (fun k i slots => jQ Q ps ps.length k (some ⟨t, d, won⟩) i slots) ps.length (fun x => x) (fun i slots => slots = (ps.take i).map (qO d) ∧ ∀ n ∈ ps.take i, wi n 0 999 = true) ?_ ?_ BIG 0 [] (cW (by omega)) ⟨by simp, by simp⟩
  · rintro k i slots hi ⟨rfl, hall⟩ ih
    have ht1 : ps.take (i + 1) = ps.take i ++ [ps[i]] := List.take_succ_eq_append_getElem hi
    simp only [jQ, Int.ofNat_lt, hi, decide_true, cond_true, cK hi, oC, cI (show i < 9223372036854775807 by omega)]
    refine ⟨_, rfl, _, rfl, ?_⟩
    cases hw : wi ps[i] 0 999 with
    | false =>
      simp only [Bool.not_false, cond_true]
      exact h1 ⟨_, List.getElem_mem hi, hw⟩
    | true =>
      simp only [Bool.not_true, cond_false]
      refine ⟨_, rfl, _, aFp (show d.length ≤ 1000 by omega) _, _, gB (by simp; omega), ih _ ⟨by rw [ht1, List.map_append]; rfl, fun n hn => ?_⟩⟩
      rw [ht1, List.mem_append, List.mem_singleton] at hn
      rcases hn with hn | rfl
      · exact hall n hn
      · exact hw
  · rintro k i slots hi ⟨rfl, hall⟩
    have hlt : decide ((i : Int) < (ps.length : Int)) = false := decide_eq_false (by omega)
    have hta : ps.take i = ps := List.take_of_length_le (by omega)
    rw [hta] at hall
    simp only [jQ, hlt, cond_false, rA, hta]
    exact h0 hall won hW

/-- The outcome of Reached. -/
def zS (t : aO) (d : List Int) (must : List (List Int)) (n : Int) : dN × Int :=
  if wi n 0 999 = true then (if qO d n < 0 then (⟨0, 0⟩, 3) else (⟨leftFrom t d must (qO d n).toNat, mostFrom t d must (qO d n).toNat⟩, 0)) else (⟨0, 0⟩, 1)
where
  leftFrom (t : aO) (d : List Int) (must : List (List Int)) (a : Nat) : Int := aDz d must a t
  mostFrom (t : aO) (d : List Int) (must : List (List Int)) (a : Nat) : Int := sX d must a t
theorem aEy {t : aO} {l : List aE} {e : Int} (h : Stat t l e) (n : Int) : iQ t l n = some (⟨0, 0⟩, e) := by
  unfold iQ
  rw [pU h, Option.bind_some]
  simp only [h.ne, Bool.not_false, cond_true]
theorem aDb {t : aO} {l : List aE} {d : List Int} (hg : Good t l d) {must : List (List Int)} (hd : cQ t l = some (⟨d, must⟩, true)) (hM : MustIs t must (eA d (Res l))) (n : Int) : iQ t l n = some (zS t d must n) := by
  have hlen := hg.dok.len
  have h32 := hg.ht.len32
  unfold iQ
  rw [oT hg, Option.bind_some, oP]
  simp only [decide_true, Bool.not_true, cond_false, Option.bind_some]
  unfold zS
  cases hw : wi n 0 999 with
  | false => simp
  | true =>
    simp only [Bool.not_true, cond_false, hd, Option.bind_some, aJd (show d.length ≤ 1000 by omega), if_true]
    rcases yY d n with ⟨h1, _⟩ | ⟨a, h1, ha, he⟩
    · rw [h1]; rfl
    · have hneg : decide ((a : Int) < 0) = false := decide_eq_false (by omega)
      have hneg' : ¬ ((a : Int) < 0) := by omega
      simp only [h1, hneg, hneg', cond_false, if_false, aIf hg.ht hg.dok hM ha, aEd hg.ht hg.dok hM ha, Option.bind_some, Int.toNat_natCast]
      rfl
theorem aEz (t : aO) (l : List aE) (n : Int) {o : dN × Int} (h : iQ t l n = some o) (Q : dN × Int → Prop) (hq : Q o) : lS t l n Q := by
  unfold lS
  rcases nH t l with ⟨d, hg⟩ | ⟨e, he⟩
  · obtain ⟨must, hd, hM⟩ := lW hg
    rw [aDb hg hd hM] at h; cases h
    unfold zS at hq
    refine aKu hg (by simp) (fun ⟨x, hx, hw⟩ => ?_) fun hall won hW => ?_
    · rw [List.mem_singleton] at hx
      subst hx
      rw [hw] at hq
      exact hq
    · have hw := hall n (by simp)
      rw [hw, if_pos rfl] at hq
      simp only [decide_true, Bool.not_true, cond_false, List.map_cons, List.map_nil, zM]
      refine ⟨_, rfl, ?_⟩
      rcases yY d n with ⟨h1, _⟩ | ⟨a, h1, ha, he⟩
      · rw [h1] at hq ⊢
        exact hq
      · have hneg : decide ((a : Int) < 0) = false := decide_eq_false (by omega)
        have hneg' : ¬ ((a : Int) < 0) := by omega
        rw [h1, if_neg hneg'] at hq
        simp only [h1, hneg, cond_false]
        exact ⟨_, rfl, _, rfl, _, aMj hg.ht hg.dok hM hW ha, _, rfl, _, aDh hg.ht hg.dok hM hW ha, hq⟩
  · rw [aEy he] at h; cases h
    refine aLy he _ ?_
    simp only [he.ne, Bool.not_false, cond_true]
    exact hq

section
variable {t : aO} {l : List aE} {d : List Int} (hg : Good t l d) {must : List (List Int)} (hM : MustIs t must (eA d (Res l)))
include hg hM
end
theorem min2 (a b : Int) : vB [a, b] = some (min a b) := by
  have key := eQ (S := Int) (fun k i m => kS [a, b] k m ((i : Int) + 1)) 1 (fun i m => some (if i = 0 then min m b else m)) (fun _ _ => True) ?_ ?_ BIG a (cW (by omega)) trivial
  · unfold vB
    have h1 : decide ((([a, b] : List Int).length : Int) < 1) = false := decide_eq_false (by simp)
    rw [h1, cond_false, zM, Option.bind_some]
    simpa using key
  · intro k i m hi _ ih
    have : i = 0 := by omega
    subst this
    have h1 : decide (((0 : Nat) : Int) + 1 < (([a, b] : List Int).length : Int)) = true := decide_eq_true (by simp)
    have i1 : idx [a, b] (((0 : Nat) : Int) + 1) = some b := rfl
    have w2 : w64 (((0 : Nat) : Int) + 1 + 1) = ((0 + 1 : Nat) : Int) + 1 := by decide +kernel
    simp only [kS, h1, cond_true, i1, Option.bind_some, w2, ih _ trivial]
    rfl
  · intro k m _
    have h1 : decide (((1 : Nat) : Int) + 1 < (([a, b] : List Int).length : Int)) = false := decide_eq_false (by simp)
    simp only [kS, h1, cond_false, sR]
    rfl
end Go.Am
