/- Layer 7, plain: Left, Reached and Meet of the program and of the reference. -/
import Derived.Test.YtenffgkkeafnpaaBkPlain1
namespace Go.Am

/-! Left. -/
theorem zX {α : Type} (p : α → Bool) : ∀ l : List α, (l.filter p).length + (l.filter fun x => !p x).length = l.length
  | [] => rfl
  | x :: l => by
    have := zX p l
    simp only [List.filter_cons]
    cases p x <;> simp <;> omega
def jG (must : List (List Int)) (x : Nat × Nat) : Bool := decide (mat must x.1 x.2 = -2)
def xS (t : aO) (must : List (List Int)) : Nat := ((vG t).filter (jG must)).length
def rZ (t : aO) (n : Nat) : List (Nat × Nat) := (List.range n).flatMap fun r : Nat => (List.range (cD t r)).map fun p : Nat => (r, p)
theorem aBo (t : aO) (n : Nat) : rZ t (n + 1) = rZ t n ++ (List.range (cD t n)).map fun p : Nat => (n, p) := pS _ _
theorem yW (t : aO) : ∀ n, n ≤ t.Rounds.toNat → (rZ t n).length + 2 ^ (t.Rounds.toNat - n) = 2 ^ t.Rounds.toNat
  | 0, _ => by simp [rZ]
  | n + 1, h => by
    have ih := yW t n (by omega)
    rw [aBo, List.length_append, List.length_map, List.length_range]
    unfold cD
    have e : t.Rounds.toNat - 1 - ((n : Nat) : Int).toNat = t.Rounds.toNat - (n + 1) := by simp; omega
    have e2 : 2 ^ (t.Rounds.toNat - n) = 2 * 2 ^ (t.Rounds.toNat - (n + 1)) := by
      have : t.Rounds.toNat - n = (t.Rounds.toNat - (n + 1)) + 1 := by omega
      rw [this, Nat.pow_succ]; omega
    rw [e]
    omega
theorem aDc {t : aO} (ht : TreeOK t) : (vG t).length + 1 = t.Slots.length := by
  have := yW t t.Rounds.toNat (Nat.le_refl _)
  rw [ht.len]
  simpa [rZ, vG] using this
theorem Good.inn {t : aO} {l : List aD} {d : List Int} (hg : Good t l d) {m : aB} {v : Int} (h : dC d (Res l) m v) : ∃ r p : Nat, m = ⟨r, p⟩ ∧ r < t.Rounds.toNat ∧ p < cD t r := by
  have h1 := hg.ht.r1
  have hlen := hg.dok.len
  rcases h with ⟨j, hj, hb, rfl, _⟩ | ⟨x, hx, a, ha, he, _, q, hq, rfl⟩
  · exact ⟨0, sib j / 2 ^ (0 + 1), rfl, by omega, kF hg.ht (rS hg.ht (by omega)) (by omega)⟩
  · have := (hg.rok hx).r1
    have := (hg.rok hx).r0
    exact ⟨q, a / 2 ^ (q + 1), rfl, by omega, kF hg.ht (by omega) (by omega)⟩
theorem aLl {t : aO} {l : List aD} {d : List Int} (hg : Good t l d) {must : List (List Int)} (hM : MustIs t must (dC d (Res l))) {won : List (aB × Int)} (hW : WonIs won (dC d (Res l))) : won.length + xS t must + 1 = t.Slots.length := by
  have hs := zX (jG must) (vG t)
  have hl := aDc hg.ht
  have hmem : ∀ m : aB, m ∈ won.map (·.1) ↔ m ∈ ((vG t).filter fun x => !jG must x).map fun x => (⟨x.1, x.2⟩ : aB) := by
    intro m
    rw [List.mem_map, List.mem_map]
    constructor
    · rintro ⟨⟨m', v⟩, hv, rfl⟩
      have hP := (hW.mem _ _).1 hv
      obtain ⟨r, p, rfl, hr, hp⟩ := hg.inn hP
      refine ⟨(r, p), ?_, rfl⟩
      rw [List.mem_filter, aDj]
      have := (hM.mem r p v hr hp).2 hP
      refine ⟨⟨hr, hp⟩, ?_⟩
      unfold jG
      rw [this.1]; simp [this.2]
    · rintro ⟨x, hx, rfl⟩
      rw [List.mem_filter, aDj] at hx
      obtain ⟨⟨hr, hp⟩, ho⟩ := hx
      have h2 : mat must x.1 x.2 ≠ -2 := by simpa [jG] using ho
      exact ⟨(⟨x.1, x.2⟩, mat must x.1 x.2), (hW.mem _ _).2 ((hM.mem x.1 x.2 _ hr hp).1 ⟨rfl, h2⟩), rfl⟩
  have hnd : (((vG t).filter fun x => !jG must x).map fun x => (⟨x.1, x.2⟩ : aB)).Nodup := by
    refine List.Pairwise.map _ (fun x y hxy e => hxy ?_) ((aFz t).filter _)
    simp only [aB.mk.injEq] at e
    exact Prod.ext (by omega) (by omega)
  have := aDg hW.nd hnd hmem
  rw [List.length_map, List.length_map] at this
  unfold xS
  omega
section
variable {t : aO} {l : List aD} {d : List Int} (hg : Good t l d) {must : List (List Int)} (hM : MustIs t must (dC d (Res l)))
include hg hM
theorem aJl : eW t ⟨d, must⟩ BIG 0 0 = some (((xS t must : Nat) : Int), 0) := by
  have ht := hg.ht
  have h1 := ht.r1
  have h5 := ht.r5
  have hil := aDc ht
  have h32 := ht.len32
  have hlen : ∀ n, n ≤ t.Rounds.toNat → ((rZ t n).filter (jG must)).length ≤ 40 := fun n hn => by
    have hA := List.length_filter_le (jG must) (rZ t n)
    have hB := yW t n hn
    rw [← ht.len] at hB
    generalize 2 ^ (t.Rounds.toNat - n) = z at hB
    omega
  have := fB (S := Int) (fun k r n => eW t ⟨d, must⟩ k n r) t.Rounds.toNat (fun _ _ => some (((xS t must : Nat) : Int), 0)) (fun r n => n = (((rZ t r).filter (jG must)).length : Nat)) ?_ ?_ BIG 0 (cU (by omega)) (by simp [rZ])
  · exact this
  · rintro k r n hr rfl ih
    have hlt : decide ((r : Int) < t.Rounds) = true := decide_eq_true (by omega)
    have hP := tM ht (r := (r : Int)) (by omega) (by omega)
    have hpl := kU ht (r := (r : Int))
    have hl0 := hlen r (by omega)
    have hin := fB (S := Int) (fun q p n => iI (eW t ⟨d, must⟩ k) r t ⟨d, must⟩ q n p) (cD t r)
      (fun _ _ => nX (eW t ⟨d, must⟩ k) ((((rZ t (r + 1)).filter (jG must)).length : Nat) : Int) r t ⟨d, must⟩)
      (fun p n => n = ((((rZ t r).filter (jG must)).length + (((List.range p).map fun p : Nat => (r, p)).filter (jG must)).length : Nat) : Int)) ?_ ?_ BIG (((rZ t r).filter (jG must)).length : Nat) (cU (by omega)) (by simp)
    · simp only [eW, hlt, cond_true]
      refine hin.trans ?_
      unfold nX rM
      rw [cF (show r < 9223372036854775807 by omega)]
      exact ih _ rfl
    · rintro q p n hp rfl ih2
      have hle : (((List.range p).map fun p : Nat => (r, p)).filter (jG must)).length ≤ p := by
        have := List.length_filter_le (jG must) ((List.range p).map fun p : Nat => (r, p)); simpa using this
      have hi := aFb hM hr hp
      simp only [iI, hP, Option.bind_some, Int.ofNat_lt, hp, decide_true, cond_true, cF (show p < 9223372036854775807 by omega)]
      rw [← Option.bind_assoc, hi, Option.bind_some]
      have hst : (((List.range (p + 1)).map fun p : Nat => (r, p)).filter (jG must)).length = (((List.range p).map fun p : Nat => (r, p)).filter (jG must)).length + (if jG must (r, p) = true then 1 else 0) := by
        rw [List.range_succ, List.map_append, List.filter_append, List.length_append]
        congr 1
        simp only [List.map_cons, List.map_nil, List.filter_cons, List.filter_nil]
        split <;> rfl
      by_cases ho : mat must r p = -2
      · have ho' : jG must (r, p) = true := by unfold jG; simp [ho]
        rw [ho', if_pos rfl] at hst
        simp only [ho, decide_true, cond_true]
        rw [cF (by omega)]
        exact ih2 _ (by rw [hst]; omega)
      · have ho' : jG must (r, p) = false := by unfold jG; simp [ho]
        rw [ho'] at hst
        simp only [ho, decide_false, cond_false]
        exact ih2 _ (by rw [hst]; simp)
    · rintro q n rfl
      have hlt2 : decide ((cD t r : Int) < (cD t r : Int)) = false := decide_eq_false (by omega)
      simp only [iI, hP, Option.bind_some, hlt2, cond_false, aBo, List.filter_append, List.length_append]
  · rintro k n rfl
    have hlt : decide (((t.Rounds.toNat : Nat) : Int) < t.Rounds) = false := decide_eq_false (by omega)
    simp only [eW, hlt, cond_false, rL]
    rfl
end
theorem aIo {t : aO} {l : List aD} {e : Int} (h : Stat t l e) : kH t l = some (0, e) := by
  unfold kH
  rw [pL h, Option.bind_some]
  simp only [h.ne, Bool.not_false, cond_true]
theorem aHc {t : aO} {l : List aD} {d : List Int} (h : Good t l d) {must : List (List Int)} (hd : dF t l = some (⟨d, must⟩, true)) (hM : MustIs t must (dC d (Res l))) : kH t l = some (((xS t must : Nat) : Int), 0) := by
  unfold kH
  exact (aFf _ _ (fun dd => eW t dd BIG 0 0) (fun r2 => (0, r2)) (mL h) hd).trans (aJl h hM)
theorem aIp (t : aO) (l : List aD) {o : Int × Int} (h : kH t l = some o) (Q : Int × Int → Prop) (hq : Q o) : nV t l Q := by
  unfold nV
  rcases oO t l with ⟨d, hg⟩ | ⟨e, he⟩
  · obtain ⟨must, hd, hM⟩ := oC hg
    rw [aHc hg hd hM] at h; cases h
    refine rQ hg fun won hW => ?_
    have hl := aLl hg hM hW
    have h32 := hg.ht.len32
    simp only [decide_true, Bool.not_true, cond_false]
    refine ⟨_, rfl, _, rfl, ?_⟩
    have e : w64 (w64 ((t.Slots.length : Int) - 1) - (((won.map fun p : aB × Int => ((fun a : aB => Value.agg ((aH a).map bH).toArray) p.1, aP p.2)).length : Nat) : Int)) = ((xS t must : Nat) : Int) := by
      rw [List.length_map, eZ (show -9223372036854775808 ≤ (t.Slots.length : Int) - 1 by omega) (by omega), eZ (by omega) (by omega)]
      omega
    show Q (w64 (w64 ((t.Slots.length : Int) - 1) - (((won.map fun p : aB × Int => ((fun a : aB => Value.agg ((aH a).map bH).toArray) p.1, aP p.2)).length : Nat) : Int)), 0)
    rw [e]
    exact hq
  · rw [aIo he] at h; cases h
    refine tE he ?_
    simp only [he.ne, Bool.not_false, cond_true]
    exact hq

/-! Reached and Meet. -/
def gJ (d : List Int) (n : Int) : Int := match d.findIdx? (fun x => decide (n = x)) with | some i => (i : Int) | none => -1
theorem aEv {d : List Int} (hl : d.length ≤ 1000) (n : Int) : fA d n = some (gJ d n) := pQ d (by omega) n
theorem kV (d : List Int) (n : Int) : (gJ d n = -1 ∧ ∀ a, a < d.length → d.getD a 0 ≠ n) ∨ ∃ a : Nat, gJ d n = (a : Int) ∧ a < d.length ∧ d.getD a 0 = n := by
  unfold gJ
  cases h : d.findIdx? (fun x => decide (n = x)) with
  | none =>
    refine .inl ⟨rfl, fun a ha e => ?_⟩
    rw [List.findIdx?_eq_none_iff] at h
    have := h _ (List.getElem_mem ha)
    rw [bJ ha] at e
    simp [e] at this
  | some a =>
    obtain ⟨h1, h2, _⟩ := List.findIdx?_eq_some_iff_getElem.1 h
    refine .inr ⟨a, rfl, h1, ?_⟩
    rw [bJ h1]
    simpa using (of_decide_eq_true h2).symm
theorem aJw {t : aO} {d : List Int} (hD : DOK t d) {a : Nat} (ha : a < d.length) (hn : d.getD a 0 ≠ -1) : gJ d (d.getD a 0) = (a : Int) := by
  rcases kV d (d.getD a 0) with ⟨_, h⟩ | ⟨b, h1, h2, h3⟩
  · exact absurd rfl (h a ha)
  · rw [h1, hD.uni ha h2 h3.symm hn]
theorem aIg {d : List Int} {must : List (List Int)} (hl : d.length ≤ 1000) (n : Int) : pW ⟨d, must⟩ n = some (gJ d n) := by
  unfold pW gJ
  rw [fB (S := Unit) (fun k i _ => kA n ⟨d, must⟩ k i) d.length (fun i _ => some (match (d.drop i).findIdx? (fun x => decide (n = x)) with | some j => ((i + j : Nat) : Int) | none => -1)) (fun _ _ => True) ?_ ?_ BIG () (cU (by omega)) trivial]
  · simp
  · intro k i _ hi _ ih
    have := ih () trivial
    simp only [kA, cI hi, Option.bind_some, cF (show i < 9223372036854775807 by omega), Int.ofNat_lt, hi, decide_true, cond_true, this]
    rw [List.drop_eq_getElem_cons hi, List.findIdx?_cons]
    by_cases h : d[i] = n
    · simp [h]
    · have h' : ¬ n = d[i] := fun e => h e.symm
      simp only [h, h', decide_false, cond_false, Bool.false_eq_true, if_false]
      cases List.findIdx? (fun x => decide (n = x)) (List.drop (i + 1) d) with
      | none => rfl
      | some j => simp; omega
  · intro k _ _
    simp [kA, rN]

theorem aLj {t : aO} {l : List aD} {e : Int} (h : Stat t l e) (ps : List Int) {Q : (Option aZ × List Int × Int) → Prop} (hq : Q (none, [], e)) : lS t l ps Q := by
  unfold lS
  refine tE h ?_
  simp only [h.ne, Bool.not_false, cond_true]
  exact hq
theorem aKb {t : aO} {l : List aD} {d : List Int} (hg : Good t l d) {ps : List Int} (hp : ps.length ≤ 1000) {Q : (Option aZ × List Int × Int) → Prop}
    (h1 : (∃ n ∈ ps, wi n 0 999 = false) → Q (none, [], 1)) (h0 : (∀ n ∈ ps, wi n 0 999 = true) → ∀ won, WonIs won (dC d (Res l)) → Q (some ⟨t, d, won⟩, ps.map (gJ d), 0)) : lS t l ps Q := by
  have hlen := hg.dok.len
  have h32 := hg.ht.len32
  unfold lS
  refine rQ hg fun won hW => ?_
  simp only [decide_true, Bool.not_true, cond_false]
  refine oF (S := List Int) (fun k i slots => jN Q ps ps.length k (some ⟨t, d, won⟩) i slots) ps.length (fun x => x) (fun i slots => slots = (ps.take i).map (gJ d) ∧ ∀ n ∈ ps.take i, wi n 0 999 = true) ?_ ?_ BIG 0 [] (cU (by omega)) ⟨by simp, by simp⟩
  · rintro k i slots hi ⟨rfl, hall⟩ ih
    have ht1 : ps.take (i + 1) = ps.take i ++ [ps[i]] := List.take_succ_eq_append_getElem hi
    simp only [jN, Int.ofNat_lt, hi, decide_true, cond_true, cI hi, nU, cF (show i < 9223372036854775807 by omega)]
    refine ⟨_, rfl, _, rfl, ?_⟩
    cases hw : wi ps[i] 0 999 with
    | false =>
      simp only [Bool.not_false, cond_true]
      exact h1 ⟨_, List.getElem_mem hi, hw⟩
    | true =>
      simp only [Bool.not_true, cond_false]
      refine ⟨_, rfl, _, aEv (show d.length ≤ 1000 by omega) _, _, iG (by simp; omega), ih _ ⟨by rw [ht1, List.map_append]; rfl, fun n hn => ?_⟩⟩
      rw [ht1, List.mem_append, List.mem_singleton] at hn
      rcases hn with hn | rfl
      · exact hall n hn
      · exact hw
  · rintro k i slots hi ⟨rfl, hall⟩
    have hlt : decide ((i : Int) < (ps.length : Int)) = false := decide_eq_false (by omega)
    have hta : ps.take i = ps := List.take_of_length_le (by omega)
    rw [hta] at hall
    simp only [jN, hlt, cond_false, qP, hta]
    exact h0 hall won hW

/-- The outcome of Reached. -/
def lG (t : aO) (d : List Int) (must : List (List Int)) (n : Int) : cZ × Int :=
  if wi n 0 999 = true then (if gJ d n < 0 then (⟨0, 0⟩, 3) else (⟨leftFrom t d must (gJ d n).toNat, mostFrom t d must (gJ d n).toNat⟩, 0)) else (⟨0, 0⟩, 1)
where
  leftFrom (t : aO) (d : List Int) (must : List (List Int)) (a : Nat) : Int := oV d must a t
  mostFrom (t : aO) (d : List Int) (must : List (List Int)) (a : Nat) : Int := lJ d must a t
theorem aEe {t : aO} {l : List aD} {e : Int} (h : Stat t l e) (n : Int) : iL t l n = some (⟨0, 0⟩, e) := by
  unfold iL
  rw [pL h, Option.bind_some]
  simp only [h.ne, Bool.not_false, cond_true]
theorem wE {t : aO} {l : List aD} {d : List Int} (hg : Good t l d) {must : List (List Int)} (hd : dF t l = some (⟨d, must⟩, true)) (hM : MustIs t must (dC d (Res l))) (n : Int) : iL t l n = some (lG t d must n) := by
  have hlen := hg.dok.len
  have h32 := hg.ht.len32
  unfold iL
  rw [mL hg, Option.bind_some, oH]
  simp only [decide_true, Bool.not_true, cond_false, Option.bind_some]
  unfold lG
  cases hw : wi n 0 999 with
  | false => simp
  | true =>
    simp only [Bool.not_true, cond_false, hd, Option.bind_some, aIg (show d.length ≤ 1000 by omega), if_true]
    rcases kV d n with ⟨h1, _⟩ | ⟨a, h1, ha, he⟩
    · rw [h1]; rfl
    · have hneg : decide ((a : Int) < 0) = false := decide_eq_false (by omega)
      have hneg' : ¬ ((a : Int) < 0) := by omega
      simp only [h1, hneg, hneg', cond_false, if_false, aHq hg.ht hg.dok hM ha, aDk hg.ht hg.dok hM ha, Option.bind_some, Int.toNat_natCast]
      rfl
theorem aEf (t : aO) (l : List aD) (n : Int) {o : cZ × Int} (h : iL t l n = some o) (Q : cZ × Int → Prop) (hq : Q o) : lN t l n Q := by
  unfold lN
  rcases oO t l with ⟨d, hg⟩ | ⟨e, he⟩
  · obtain ⟨must, hd, hM⟩ := oC hg
    rw [wE hg hd hM] at h; cases h
    unfold lG at hq
    refine aKb hg (by simp) (fun ⟨x, hx, hw⟩ => ?_) fun hall won hW => ?_
    · rw [List.mem_singleton] at hx
      subst hx
      rw [hw] at hq
      exact hq
    · have hw := hall n (by simp)
      rw [hw, if_pos rfl] at hq
      simp only [decide_true, Bool.not_true, cond_false, List.map_cons, List.map_nil, aDb]
      refine ⟨_, rfl, ?_⟩
      rcases kV d n with ⟨h1, _⟩ | ⟨a, h1, ha, he⟩
      · rw [h1] at hq ⊢
        exact hq
      · have hneg : decide ((a : Int) < 0) = false := decide_eq_false (by omega)
        have hneg' : ¬ ((a : Int) < 0) := by omega
        rw [h1, if_neg hneg'] at hq
        simp only [h1, hneg, cond_false]
        exact ⟨_, rfl, _, rfl, _, aLv hg.ht hg.dok hM hW ha, _, rfl, _, aCq hg.ht hg.dok hM hW ha, hq⟩
  · rw [aEe he] at h; cases h
    refine aLj he _ ?_
    simp only [he.ne, Bool.not_false, cond_true]
    exact hq

section
variable {t : aO} {l : List aD} {d : List Int} (hg : Good t l d) {must : List (List Int)} (hM : MustIs t must (dC d (Res l)))
include hg hM
end
end Go.Am
