/- Layer 7, plain: Left, Reached and Meet of the program and of the reference. -/
import Derived.Test.YtenffgkkeafnpaaBkPlain1
namespace Go.Am

/-! Left. -/
theorem yZ {α : Type} (p : α → Bool) : ∀ l : List α, (l.filter p).length + (l.filter fun x => !p x).length = l.length
  | [] => rfl
  | x :: l => by
    have := yZ p l
    simp only [List.filter_cons]
    cases p x <;> simp <;> omega
def iY (must : List (List Int)) (x : Nat × Nat) : Bool := decide (mat must x.1 x.2 = -2)
def wW (t : aO) (must : List (List Int)) : Nat := ((uQ t).filter (iY must)).length
def rN (t : aO) (n : Nat) : List (Nat × Nat) := (List.range n).flatMap fun r : Nat => (List.range (cD t r)).map fun p : Nat => (r, p)
theorem aAt (t : aO) (n : Nat) : rN t (n + 1) = rN t n ++ (List.range (cD t n)).map fun p : Nat => (n, p) := pF _ _
theorem yA (t : aO) : ∀ n, n ≤ t.Rounds.toNat → (rN t n).length + 2 ^ (t.Rounds.toNat - n) = 2 ^ t.Rounds.toNat
  | 0, _ => by simp [rN]
  | n + 1, h => by
    have ih := yA t n (by omega)
    rw [aAt, List.length_append, List.length_map, List.length_range]
    unfold cD
    have e : t.Rounds.toNat - 1 - ((n : Nat) : Int).toNat = t.Rounds.toNat - (n + 1) := by simp; omega
    have e2 : 2 ^ (t.Rounds.toNat - n) = 2 * 2 ^ (t.Rounds.toNat - (n + 1)) := by
      have : t.Rounds.toNat - n = (t.Rounds.toNat - (n + 1)) + 1 := by omega
      rw [this, Nat.pow_succ]; omega
    rw [e]
    omega
theorem aCh {t : aO} (ht : TreeOK t) : (uQ t).length + 1 = t.Slots.length := by
  have := yA t t.Rounds.toNat (Nat.le_refl _)
  rw [ht.len]
  simpa [rN, uQ] using this
theorem Good.inn {t : aO} {l : List aD} {d : List Int} (hg : Good t l d) {m : aB} {v : Int} (h : eR d (Res l) m v) : ∃ r p : Nat, m = ⟨r, p⟩ ∧ r < t.Rounds.toNat ∧ p < cD t r := by
  have h1 := hg.ht.r1
  have hlen := hg.dok.len
  rcases h with ⟨j, hj, hb, rfl, _⟩ | ⟨x, hx, a, ha, he, _, q, hq, rfl⟩
  · exact ⟨0, sib j / 2 ^ (0 + 1), rfl, by omega, lR hg.ht (uB hg.ht (by omega)) (by omega)⟩
  · have := (hg.rok hx).r1
    have := (hg.rok hx).r0
    exact ⟨q, a / 2 ^ (q + 1), rfl, by omega, lR hg.ht (by omega) (by omega)⟩
theorem aKf {t : aO} {l : List aD} {d : List Int} (hg : Good t l d) {must : List (List Int)} (hM : MustIs t must (eR d (Res l))) {won : List (aB × Int)} (hW : WonIs won (eR d (Res l))) : won.length + wW t must + 1 = t.Slots.length := by
  have hs := yZ (iY must) (uQ t)
  have hl := aCh hg.ht
  have hmem : ∀ m : aB, m ∈ won.map (·.1) ↔ m ∈ ((uQ t).filter fun x => !iY must x).map fun x => (⟨x.1, x.2⟩ : aB) := by
    intro m
    rw [List.mem_map, List.mem_map]
    constructor
    · rintro ⟨⟨m', v⟩, hv, rfl⟩
      have hP := (hW.mem _ _).1 hv
      obtain ⟨r, p, rfl, hr, hp⟩ := hg.inn hP
      refine ⟨(r, p), ?_, rfl⟩
      rw [List.mem_filter, aCo]
      have := (hM.mem r p v hr hp).2 hP
      refine ⟨⟨hr, hp⟩, ?_⟩
      unfold iY
      rw [this.1]; simp [this.2]
    · rintro ⟨x, hx, rfl⟩
      rw [List.mem_filter, aCo] at hx
      obtain ⟨⟨hr, hp⟩, ho⟩ := hx
      have h2 : mat must x.1 x.2 ≠ -2 := by simpa [iY] using ho
      exact ⟨(⟨x.1, x.2⟩, mat must x.1 x.2), (hW.mem _ _).2 ((hM.mem x.1 x.2 _ hr hp).1 ⟨rfl, h2⟩), rfl⟩
  have hnd : (((uQ t).filter fun x => !iY must x).map fun x => (⟨x.1, x.2⟩ : aB)).Nodup := by
    refine List.Pairwise.map _ (fun x y hxy e => hxy ?_) ((aFb t).filter _)
    simp only [aB.mk.injEq] at e
    exact Prod.ext (by omega) (by omega)
  have := aCm hW.nd hnd hmem
  rw [List.length_map, List.length_map] at this
  unfold wW
  omega
section
variable {t : aO} {l : List aD} {d : List Int} (hg : Good t l d) {must : List (List Int)} (hM : MustIs t must (eR d (Res l)))
include hg hM
theorem aIi : eU t ⟨d, must⟩ BIG 0 0 = some (((wW t must : Nat) : Int), 0) := by
  have ht := hg.ht
  have h1 := ht.r1
  have h5 := ht.r5
  have hil := aCh ht
  have h32 := ht.len32
  have hlen : ∀ n, n ≤ t.Rounds.toNat → ((rN t n).filter (iY must)).length ≤ 40 := fun n hn => by
    have hA := List.length_filter_le (iY must) (rN t n)
    have hB := yA t n hn
    rw [← ht.len] at hB
    generalize 2 ^ (t.Rounds.toNat - n) = z at hB
    omega
  have := fF (S := Int) (fun k r n => eU t ⟨d, must⟩ k n r) t.Rounds.toNat (fun _ _ => some (((wW t must : Nat) : Int), 0)) (fun r n => n = (((rN t r).filter (iY must)).length : Nat)) ?_ ?_ BIG 0 (cZ (by omega)) (by simp [rN])
  · exact this
  · rintro k r n hr rfl ih
    have hlt : decide ((r : Int) < t.Rounds) = true := decide_eq_true (by omega)
    have hP := sU ht (r := (r : Int)) (by omega) (by omega)
    have hpl := kM ht (r := (r : Int))
    have hl0 := hlen r (by omega)
    have hin := fF (S := Int) (fun q p n => iA (eU t ⟨d, must⟩ k) r t ⟨d, must⟩ q n p) (cD t r)
      (fun _ _ => nL (eU t ⟨d, must⟩ k) ((((rN t (r + 1)).filter (iY must)).length : Nat) : Int) r t ⟨d, must⟩)
      (fun p n => n = ((((rN t r).filter (iY must)).length + (((List.range p).map fun p : Nat => (r, p)).filter (iY must)).length : Nat) : Int)) ?_ ?_ BIG (((rN t r).filter (iY must)).length : Nat) (cZ (by omega)) (by simp)
    · simp only [eU, hlt, cond_true]
      refine hin.trans ?_
      unfold nL qZ
      rw [cH (show r < 9223372036854775807 by omega)]
      exact ih _ rfl
    · rintro q p n hp rfl ih2
      have hle : (((List.range p).map fun p : Nat => (r, p)).filter (iY must)).length ≤ p := by
        have := List.length_filter_le (iY must) ((List.range p).map fun p : Nat => (r, p)); simpa using this
      have hi := aEh hM hr hp
      simp only [iA, hP, Option.bind_some, Int.ofNat_lt, hp, decide_true, cond_true, cH (show p < 9223372036854775807 by omega)]
      rw [← Option.bind_assoc, hi, Option.bind_some]
      have hst : (((List.range (p + 1)).map fun p : Nat => (r, p)).filter (iY must)).length = (((List.range p).map fun p : Nat => (r, p)).filter (iY must)).length + (if iY must (r, p) = true then 1 else 0) := by
        rw [List.range_succ, List.map_append, List.filter_append, List.length_append]
        congr 1
        simp only [List.map_cons, List.map_nil, List.filter_cons, List.filter_nil]
        split <;> rfl
      by_cases ho : mat must r p = -2
      · have ho' : iY must (r, p) = true := by unfold iY; simp [ho]
        rw [ho', if_pos rfl] at hst
        simp only [ho, decide_true, cond_true]
        rw [cH (by omega)]
        exact ih2 _ (by rw [hst]; omega)
      · have ho' : iY must (r, p) = false := by unfold iY; simp [ho]
        rw [ho'] at hst
        simp only [ho, decide_false, cond_false]
        exact ih2 _ (by rw [hst]; simp)
    · rintro q n rfl
      have hlt2 : decide ((cD t r : Int) < (cD t r : Int)) = false := decide_eq_false (by omega)
      simp only [iA, hP, Option.bind_some, hlt2, cond_false, aAt, List.filter_append, List.length_append]
  · rintro k n rfl
    have hlt : decide (((t.Rounds.toNat : Nat) : Int) < t.Rounds) = false := decide_eq_false (by omega)
    simp only [eU, hlt, cond_false, qY]
    rfl
end
theorem aHo {t : aO} {l : List aD} {e : Int} (h : Stat t l e) : jY t l = some (0, e) := by
  unfold jY
  rw [nE h, Option.bind_some]
  simp only [h.ne, Bool.not_false, cond_true]
theorem aGe {t : aO} {l : List aD} {d : List Int} (h : Good t l d) {must : List (List Int)} (hd : cY t l = some (⟨d, must⟩, true)) (hM : MustIs t must (eR d (Res l))) : jY t l = some (((wW t must : Nat) : Int), 0) := by
  unfold jY
  exact (aEl _ _ (fun dd => eU t dd BIG 0 0) (fun r2 => (0, r2)) (mA h) hd).trans (aIi h hM)
theorem aHp (t : aO) (l : List aD) {o : Int × Int} (h : jY t l = some o) (Q : Int × Int → Prop) (hq : Q o) : nI t l Q := by
  unfold nI
  rcases oB t l with ⟨d, hg⟩ | ⟨e, he⟩
  · obtain ⟨must, hd, hM⟩ := oY hg
    rw [aGe hg hd hM] at h; cases h
    refine rD hg fun won hW => ?_
    have hl := aKf hg hM hW
    have h32 := hg.ht.len32
    simp only [decide_true, Bool.not_true, cond_false]
    refine ⟨_, rfl, _, rfl, ?_⟩
    have e : w64 (w64 ((t.Slots.length : Int) - 1) - (((won.map fun p : aB × Int => ((fun a : aB => Value.agg ((aJ a).map bI).toArray) p.1, aP p.2)).length : Nat) : Int)) = ((wW t must : Nat) : Int) := by
      rw [List.length_map, eX (show -9223372036854775808 ≤ (t.Slots.length : Int) - 1 by omega) (by omega), eX (by omega) (by omega)]
      omega
    show Q (w64 (w64 ((t.Slots.length : Int) - 1) - (((won.map fun p : aB × Int => ((fun a : aB => Value.agg ((aJ a).map bI).toArray) p.1, aP p.2)).length : Nat) : Int)), 0)
    rw [e]
    exact hq
  · rw [aHo he] at h; cases h
    refine sM he ?_
    simp only [he.ne, Bool.not_false, cond_true]
    exact hq

/-! Reached and Meet. -/
def pT (d : List Int) (n : Int) : Int := match d.findIdx? (fun x => decide (n = x)) with | some i => (i : Int) | none => -1
theorem aEb {d : List Int} (hl : d.length ≤ 1000) (n : Int) : eY d n = some (pT d n) := pE d (by omega) n
theorem xP (d : List Int) (n : Int) : (pT d n = -1 ∧ ∀ a, a < d.length → d.getD a 0 ≠ n) ∨ ∃ a : Nat, pT d n = (a : Int) ∧ a < d.length ∧ d.getD a 0 = n := by
  unfold pT
  cases h : d.findIdx? (fun x => decide (n = x)) with
  | none =>
    refine .inl ⟨rfl, fun a ha e => ?_⟩
    rw [List.findIdx?_eq_none_iff] at h
    have := h _ (List.getElem_mem ha)
    rw [bN ha] at e
    simp [e] at this
  | some a =>
    obtain ⟨h1, h2, _⟩ := List.findIdx?_eq_some_iff_getElem.1 h
    refine .inr ⟨a, rfl, h1, ?_⟩
    rw [bN h1]
    simpa using (of_decide_eq_true h2).symm
theorem aHh {d : List Int} {must : List (List Int)} (hl : d.length ≤ 1000) (n : Int) : pJ ⟨d, must⟩ n = some (pT d n) := by
  unfold pJ pT
  rw [fF (S := Unit) (fun k i _ => jS n ⟨d, must⟩ k i) d.length (fun i _ => some (match (d.drop i).findIdx? (fun x => decide (n = x)) with | some j => ((i + j : Nat) : Int) | none => -1)) (fun _ _ => True) ?_ ?_ BIG () (cZ (by omega)) trivial]
  · simp
  · intro k i _ hi _ ih
    have := ih () trivial
    simp only [jS, cI hi, Option.bind_some, cH (show i < 9223372036854775807 by omega), Int.ofNat_lt, hi, decide_true, cond_true, this]
    rw [List.drop_eq_getElem_cons hi, List.findIdx?_cons]
    by_cases h : d[i] = n
    · simp [h]
    · have h' : ¬ n = d[i] := fun e => h e.symm
      simp only [h, h', decide_false, cond_false, Bool.false_eq_true, if_false]
      cases List.findIdx? (fun x => decide (n = x)) (List.drop (i + 1) d) with
      | none => rfl
      | some j => simp; omega
  · intro k _ _
    simp [jS, rA]

theorem aKe {t : aO} {l : List aD} {e : Int} (h : Stat t l e) (ps : List Int) {Q : (Option aY × List Int × Int) → Prop} (hq : Q (none, [], e)) : lH t l ps Q := by
  unfold lH
  refine sM h ?_
  simp only [h.ne, Bool.not_false, cond_true]
  exact hq
theorem aJa {t : aO} {l : List aD} {d : List Int} (hg : Good t l d) {ps : List Int} (hp : ps.length ≤ 1000) {Q : (Option aY × List Int × Int) → Prop}
    (h1 : (∃ n ∈ ps, wi n 0 999 = false) → Q (none, [], 1)) (h0 : (∀ n ∈ ps, wi n 0 999 = true) → ∀ won, WonIs won (eR d (Res l)) → Q (some ⟨t, d, won⟩, ps.map (pT d), 0)) : lH t l ps Q := by
  have hlen := hg.dok.len
  have h32 := hg.ht.len32
  unfold lH
  refine rD hg fun won hW => ?_
  simp only [decide_true, Bool.not_true, cond_false]
  refine oZ (S := List Int) (fun k i slots => jE Q ps ps.length k (some ⟨t, d, won⟩) i slots) ps.length (fun x => x) (fun i slots => slots = (ps.take i).map (pT d) ∧ ∀ n ∈ ps.take i, wi n 0 999 = true) ?_ ?_ BIG 0 [] (cZ (by omega)) ⟨by simp, by simp⟩
  · rintro k i slots hi ⟨rfl, hall⟩ ih
    have ht1 : ps.take (i + 1) = ps.take i ++ [ps[i]] := List.take_succ_eq_append_getElem hi
    simp only [jE, Int.ofNat_lt, hi, decide_true, cond_true, cI hi, nH, cH (show i < 9223372036854775807 by omega)]
    refine ⟨_, rfl, _, rfl, ?_⟩
    cases hw : wi ps[i] 0 999 with
    | false =>
      simp only [Bool.not_false, cond_true]
      exact h1 ⟨_, List.getElem_mem hi, hw⟩
    | true =>
      simp only [Bool.not_true, cond_false]
      refine ⟨_, rfl, _, aEb (show d.length ≤ 1000 by omega) _, _, hZ (by simp; omega), ih _ ⟨by rw [ht1, List.map_append]; rfl, fun n hn => ?_⟩⟩
      rw [ht1, List.mem_append, List.mem_singleton] at hn
      rcases hn with hn | rfl
      · exact hall n hn
      · exact hw
  · rintro k i slots hi ⟨rfl, hall⟩
    have hlt : decide ((i : Int) < (ps.length : Int)) = false := decide_eq_false (by omega)
    have hta : ps.take i = ps := List.take_of_length_le (by omega)
    rw [hta] at hall
    simp only [jE, hlt, cond_false, qD, hta]
    exact h0 hall won hW

/-- The outcome of Reached. -/
def yI (t : aO) (d : List Int) (must : List (List Int)) (n : Int) : dH × Int :=
  if wi n 0 999 = true then (if pT d n < 0 then (⟨0, 0⟩, 3) else (⟨leftFrom t d must (pT d n).toNat, mostFrom t d must (pT d n).toNat⟩, 0)) else (⟨0, 0⟩, 1)
where
  leftFrom (t : aO) (d : List Int) (must : List (List Int)) (a : Nat) : Int := aCk d must a t
  mostFrom (t : aO) (d : List Int) (must : List (List Int)) (a : Nat) : Int := pO d must a t
theorem aDj {t : aO} {l : List aD} {e : Int} (h : Stat t l e) (n : Int) : iD t l n = some (⟨0, 0⟩, e) := by
  unfold iD
  rw [nE h, Option.bind_some]
  simp only [h.ne, Bool.not_false, cond_true]
theorem aBo {t : aO} {l : List aD} {d : List Int} (hg : Good t l d) {must : List (List Int)} (hd : cY t l = some (⟨d, must⟩, true)) (hM : MustIs t must (eR d (Res l))) (n : Int) : iD t l n = some (yI t d must n) := by
  have hlen := hg.dok.len
  have h32 := hg.ht.len32
  unfold iD
  rw [mA hg, Option.bind_some, nT]
  simp only [decide_true, Bool.not_true, cond_false, Option.bind_some]
  unfold yI
  cases hw : wi n 0 999 with
  | false => simp
  | true =>
    simp only [Bool.not_true, cond_false, hd, Option.bind_some, aHh (show d.length ≤ 1000 by omega), if_true]
    rcases xP d n with ⟨h1, _⟩ | ⟨a, h1, ha, he⟩
    · rw [h1]; rfl
    · have hneg : decide ((a : Int) < 0) = false := decide_eq_false (by omega)
      have hneg' : ¬ ((a : Int) < 0) := by omega
      simp only [h1, hneg, hneg', cond_false, if_false, aGr hg.ht hg.dok hM ha, aCp hg.ht hg.dok hM ha, Option.bind_some, Int.toNat_natCast]
      rfl
theorem aDk (t : aO) (l : List aD) (n : Int) {o : dH × Int} (h : iD t l n = some o) (Q : dH × Int → Prop) (hq : Q o) : lC t l n Q := by
  unfold lC
  rcases oB t l with ⟨d, hg⟩ | ⟨e, he⟩
  · obtain ⟨must, hd, hM⟩ := oY hg
    rw [aBo hg hd hM] at h; cases h
    unfold yI at hq
    refine aJa hg (by simp) (fun ⟨x, hx, hw⟩ => ?_) fun hall won hW => ?_
    · rw [List.mem_singleton] at hx
      subst hx
      rw [hw] at hq
      exact hq
    · have hw := hall n (by simp)
      rw [hw, if_pos rfl] at hq
      simp only [decide_true, Bool.not_true, cond_false, List.map_cons, List.map_nil, aCg]
      refine ⟨_, rfl, ?_⟩
      rcases xP d n with ⟨h1, _⟩ | ⟨a, h1, ha, he⟩
      · rw [h1] at hq ⊢
        exact hq
      · have hneg : decide ((a : Int) < 0) = false := decide_eq_false (by omega)
        have hneg' : ¬ ((a : Int) < 0) := by omega
        rw [h1, if_neg hneg'] at hq
        simp only [h1, hneg, cond_false]
        exact ⟨_, rfl, _, rfl, _, aKr hg.ht hg.dok hM hW ha, _, rfl, _, aBw hg.ht hg.dok hM hW ha, hq⟩
  · rw [aDj he] at h; cases h
    refine aKe he _ ?_
    simp only [he.ne, Bool.not_false, cond_true]
    exact hq

section
variable {t : aO} {l : List aD} {d : List Int} (hg : Good t l d) {must : List (List Int)} (hM : MustIs t must (eR d (Res l)))
include hg hM
end
end Go.Am
