/- Layer 7, plain: Left, Reached and Meet of the program and of the reference. -/
import Derived.Test.YtenffgkkeafnpaaBkPlain1
namespace Go.Am

/-! Left. -/
theorem aAh {α : Type} (p : α → Bool) : ∀ l : List α, (l.filter p).length + (l.filter fun x => !p x).length = l.length
  | [] => rfl
  | x :: l => by
    have := aAh p l
    simp only [List.filter_cons]
    cases p x <;> simp <;> omega
def jR (must : List (List Int)) (x : Nat × Nat) : Bool := decide (mat must x.1 x.2 = -2)
def yH (t : aO) (must : List (List Int)) : Nat := ((gL t).filter (jR must)).length
def sK (t : aO) (n : Nat) : List (Nat × Nat) := (List.range n).flatMap fun r : Nat => (List.range (cF t r)).map fun p : Nat => (r, p)
theorem aCd (t : aO) (n : Nat) : sK t (n + 1) = sK t n ++ (List.range (cF t n)).map fun p : Nat => (n, p) := qB _ _
theorem zM (t : aO) : ∀ n, n ≤ t.Rounds.toNat → (sK t n).length + 2 ^ (t.Rounds.toNat - n) = 2 ^ t.Rounds.toNat
  | 0, _ => by simp [sK]
  | n + 1, h => by
    have ih := zM t n (by omega)
    rw [aCd, List.length_append, List.length_map, List.length_range]
    unfold cF
    have e : t.Rounds.toNat - 1 - ((n : Nat) : Int).toNat = t.Rounds.toNat - (n + 1) := by simp; omega
    have e2 : 2 ^ (t.Rounds.toNat - n) = 2 * 2 ^ (t.Rounds.toNat - (n + 1)) := by
      have : t.Rounds.toNat - n = (t.Rounds.toNat - (n + 1)) + 1 := by omega
      rw [this, Nat.pow_succ]; omega
    rw [e]
    omega
theorem tO {t : aO} (ht : TreeOK t) : (gL t).length + 1 = t.Slots.length := by
  have := zM t t.Rounds.toNat (Nat.le_refl _)
  rw [ht.len]
  simpa [sK, gL] using this
theorem Good.inn {t : aO} {l : List aE} {d : List Int} (hg : Good t l d) {m : aB} {v : Int} (h : eX d (Res l) m v) : ∃ r p : Nat, m = ⟨r, p⟩ ∧ r < t.Rounds.toNat ∧ p < cF t r := by
  have h1 := hg.ht.r1
  have hlen := hg.dok.len
  rcases h with ⟨j, hj, hb, rfl, _⟩ | ⟨x, hx, a, ha, he, _, q, hq, rfl⟩
  · exact ⟨0, sib j / 2 ^ (0 + 1), rfl, by omega, nL hg.ht (tZ hg.ht (by omega)) (by omega)⟩
  · have := (hg.rok hx).r1
    have := (hg.rok hx).r0
    exact ⟨q, a / 2 ^ (q + 1), rfl, by omega, nL hg.ht (by omega) (by omega)⟩
theorem aLy {t : aO} {l : List aE} {d : List Int} (hg : Good t l d) {must : List (List Int)} (hM : MustIs t must (eX d (Res l))) {won : List (aB × Int)} (hW : WonIs won (eX d (Res l))) : won.length + yH t must + 1 = t.Slots.length := by
  have hs := aAh (jR must) (gL t)
  have hl := tO hg.ht
  have hmem : ∀ m : aB, m ∈ won.map (·.1) ↔ m ∈ ((gL t).filter fun x => !jR must x).map fun x => (⟨x.1, x.2⟩ : aB) := by
    intro m
    rw [List.mem_map, List.mem_map]
    constructor
    · rintro ⟨⟨m', v⟩, hv, rfl⟩
      have hP := (hW.mem _ _).1 hv
      obtain ⟨r, p, rfl, hr, hp⟩ := hg.inn hP
      refine ⟨(r, p), ?_, rfl⟩
      rw [List.mem_filter, rJ]
      have := (hM.mem r p v hr hp).2 hP
      refine ⟨⟨hr, hp⟩, ?_⟩
      unfold jR
      rw [this.1]; simp [this.2]
    · rintro ⟨x, hx, rfl⟩
      rw [List.mem_filter, rJ] at hx
      obtain ⟨⟨hr, hp⟩, ho⟩ := hx
      have h2 : mat must x.1 x.2 ≠ -2 := by simpa [jR] using ho
      exact ⟨(⟨x.1, x.2⟩, mat must x.1 x.2), (hW.mem _ _).2 ((hM.mem x.1 x.2 _ hr hp).1 ⟨rfl, h2⟩), rfl⟩
  have hnd : (((gL t).filter fun x => !jR must x).map fun x => (⟨x.1, x.2⟩ : aB)).Nodup := by
    refine List.Pairwise.map _ (fun x y hxy e => hxy ?_) ((aGp t).filter _)
    simp only [aB.mk.injEq] at e
    exact Prod.ext (by omega) (by omega)
  have := aDs hW.nd hnd hmem
  rw [List.length_map, List.length_map] at this
  unfold yH
  omega
section
variable {t : aO} {l : List aE} {d : List Int} (hg : Good t l d) {must : List (List Int)} (hM : MustIs t must (eX d (Res l)))
include hg hM
theorem aKf : fA t ⟨d, must⟩ BIG 0 0 = some (((yH t must : Nat) : Int), 0) := by
  have ht := hg.ht
  have h1 := ht.r1
  have h5 := ht.r5
  have hil := tO ht
  have h32 := ht.len32
  have hlen : ∀ n, n ≤ t.Rounds.toNat → ((sK t n).filter (jR must)).length ≤ 40 := fun n hn => by
    have hA := List.length_filter_le (jR must) (sK t n)
    have hB := zM t n hn
    rw [← ht.len] at hB
    generalize 2 ^ (t.Rounds.toNat - n) = z at hB
    omega
  have := fM (S := Int) (fun k r n => fA t ⟨d, must⟩ k n r) t.Rounds.toNat (fun _ _ => some (((yH t must : Nat) : Int), 0)) (fun r n => n = (((sK t r).filter (jR must)).length : Nat)) ?_ ?_ BIG 0 (cY (by omega)) (by simp [sK])
  · exact this
  · rintro k r n hr rfl ih
    have hlt : decide ((r : Int) < t.Rounds) = true := decide_eq_true (by omega)
    have hP := uC ht (r := (r : Int)) (by omega) (by omega)
    have hpl := lD ht (r := (r : Int))
    have hl0 := hlen r (by omega)
    have hin := fM (S := Int) (fun q p n => iT (fA t ⟨d, must⟩ k) r t ⟨d, must⟩ q n p) (cF t r)
      (fun _ _ => oD (fA t ⟨d, must⟩ k) ((((sK t (r + 1)).filter (jR must)).length : Nat) : Int) r t ⟨d, must⟩)
      (fun p n => n = ((((sK t r).filter (jR must)).length + (((List.range p).map fun p : Nat => (r, p)).filter (jR must)).length : Nat) : Int)) ?_ ?_ BIG (((sK t r).filter (jR must)).length : Nat) (cY (by omega)) (by simp)
    · simp only [fA, hlt, cond_true]
      refine hin.trans ?_
      unfold oD rW
      rw [cK (show r < 9223372036854775807 by omega)]
      exact ih _ rfl
    · rintro q p n hp rfl ih2
      have hle : (((List.range p).map fun p : Nat => (r, p)).filter (jR must)).length ≤ p := by
        have := List.length_filter_le (jR must) ((List.range p).map fun p : Nat => (r, p)); simpa using this
      have hi := aBq hM hr hp
      simp only [iT, hP, Option.bind_some, Int.ofNat_lt, hp, decide_true, cond_true, cK (show p < 9223372036854775807 by omega)]
      rw [← Option.bind_assoc, hi, Option.bind_some]
      have hst : (((List.range (p + 1)).map fun p : Nat => (r, p)).filter (jR must)).length = (((List.range p).map fun p : Nat => (r, p)).filter (jR must)).length + (if jR must (r, p) = true then 1 else 0) := by
        rw [List.range_succ, List.map_append, List.filter_append, List.length_append]
        congr 1
        simp only [List.map_cons, List.map_nil, List.filter_cons, List.filter_nil]
        split <;> rfl
      by_cases ho : mat must r p = -2
      · have ho' : jR must (r, p) = true := by unfold jR; simp [ho]
        rw [ho', if_pos rfl] at hst
        simp only [ho, decide_true, cond_true]
        rw [cK (by omega)]
        exact ih2 _ (by rw [hst]; omega)
      · have ho' : jR must (r, p) = false := by unfold jR; simp [ho]
        rw [ho'] at hst
        simp only [ho, decide_false, cond_false]
        exact ih2 _ (by rw [hst]; simp)
    · rintro q n rfl
      have hlt2 : decide ((cF t r : Int) < (cF t r : Int)) = false := decide_eq_false (by omega)
      simp only [iT, hP, Option.bind_some, hlt2, cond_false, aCd, List.filter_append, List.length_append]
  · rintro k n rfl
    have hlt : decide (((t.Rounds.toNat : Nat) : Int) < t.Rounds) = false := decide_eq_false (by omega)
    simp only [fA, hlt, cond_false, rV]
    rfl
end
theorem aJi {t : aO} {l : List aE} {e : Int} (h : Stat t l e) : kP t l = some (0, e) := by
  unfold kP
  rw [rR h, Option.bind_some]
  simp only [h.ne, Bool.not_false, cond_true]
theorem aHv {t : aO} {l : List aE} {d : List Int} (h : Good t l d) {must : List (List Int)} (hd : cS t l = some (⟨d, must⟩, true)) (hM : MustIs t must (eX d (Res l))) : kP t l = some (((yH t must : Nat) : Int), 0) := by
  unfold kP
  exact (aFx _ _ (fun dd => fA t dd BIG 0 0) (fun r2 => (0, r2)) (pX h) hd).trans (aKf h hM)
theorem aJj (t : aO) (l : List aE) {o : Int × Int} (h : kP t l = some o) (Q : Int × Int → Prop) (hq : Q o) : oB t l Q := by
  unfold oB
  rcases oW t l with ⟨d, hg⟩ | ⟨e, he⟩
  · obtain ⟨must, hd, hM⟩ := mR hg
    rw [aHv hg hd hM] at h; cases h
    refine uI hg fun won hW => ?_
    have hl := aLy hg hM hW
    have h32 := hg.ht.len32
    simp only [decide_true, Bool.not_true, cond_false]
    refine ⟨_, rfl, _, rfl, ?_⟩
    have e : w64 (w64 ((t.Slots.length : Int) - 1) - (((won.map fun p : aB × Int => ((fun a : aB => Value.agg ((aJ a).map bK).toArray) p.1, aP p.2)).length : Nat) : Int)) = ((yH t must : Nat) : Int) := by
      rw [List.length_map, fE (show -9223372036854775808 ≤ (t.Slots.length : Int) - 1 by omega) (by omega), fE (by omega) (by omega)]
      omega
    show Q (w64 (w64 ((t.Slots.length : Int) - 1) - (((won.map fun p : aB × Int => ((fun a : aB => Value.agg ((aJ a).map bK).toArray) p.1, aP p.2)).length : Nat) : Int)), 0)
    rw [e]
    exact hq
  · rw [aJi he] at h; cases h
    refine wE he ?_
    simp only [he.ne, Bool.not_false, cond_true]
    exact hq

/-! Reached and Meet. -/
def nG (d : List Int) (n : Int) : Int := match d.findIdx? (fun x => decide (n = x)) with | some i => (i : Int) | none => -1
theorem aFp {d : List Int} (hl : d.length ≤ 1000) (n : Int) : fF d n = some (nG d n) := pZ d (by omega) n
theorem rP (d : List Int) (n : Int) : (nG d n = -1 ∧ ∀ a, a < d.length → d.getD a 0 ≠ n) ∨ ∃ a : Nat, nG d n = (a : Int) ∧ a < d.length ∧ d.getD a 0 = n := by
  unfold nG
  cases h : d.findIdx? (fun x => decide (n = x)) with
  | none =>
    refine .inl ⟨rfl, fun a ha e => ?_⟩
    rw [List.findIdx?_eq_none_iff] at h
    have := h _ (List.getElem_mem ha)
    rw [bR ha] at e
    simp [e] at this
  | some a =>
    obtain ⟨h1, h2, _⟩ := List.findIdx?_eq_some_iff_getElem.1 h
    refine .inr ⟨a, rfl, h1, ?_⟩
    rw [bR h1]
    simpa using (of_decide_eq_true h2).symm
theorem aEj {t : aO} {d : List Int} (hD : DOK t d) {a : Nat} (ha : a < d.length) (hn : d.getD a 0 ≠ -1) : nG d (d.getD a 0) = (a : Int) := by
  rcases rP d (d.getD a 0) with ⟨_, h⟩ | ⟨b, h1, h2, h3⟩
  · exact absurd rfl (h a ha)
  · rw [h1, hD.uni ha h2 h3.symm hn]
theorem aJc {d : List Int} {must : List (List Int)} (hl : d.length ≤ 1000) (n : Int) : qE ⟨d, must⟩ n = some (nG d n) := by
  unfold qE nG
  rw [fM (S := Unit) (fun k i _ => kJ n ⟨d, must⟩ k i) d.length (fun i _ => some (match (d.drop i).findIdx? (fun x => decide (n = x)) with | some j => ((i + j : Nat) : Int) | none => -1)) (fun _ _ => True) ?_ ?_ BIG () (cY (by omega)) trivial]
  · simp
  · intro k i _ hi _ ih
    have := ih () trivial
    simp only [kJ, cJ hi, Option.bind_some, cK (show i < 9223372036854775807 by omega), Int.ofNat_lt, hi, decide_true, cond_true, this]
    rw [List.drop_eq_getElem_cons hi, List.findIdx?_cons]
    by_cases h : d[i] = n
    · simp [h]
    · have h' : ¬ n = d[i] := fun e => h e.symm
      simp only [h, h', decide_false, cond_false, Bool.false_eq_true, if_false]
      cases List.findIdx? (fun x => decide (n = x)) (List.drop (i + 1) d) with
      | none => rfl
      | some j => simp; omega
  · intro k _ _
    simp [kJ, rX]

theorem aLx {t : aO} {l : List aE} {e : Int} (h : Stat t l e) (ps : List Int) {Q : (Option bA × List Int × Int) → Prop} (hq : Q (none, [], e)) : mA t l ps Q := by
  unfold mA
  refine wE h ?_
  simp only [h.ne, Bool.not_false, cond_true]
  exact hq
theorem aKu {t : aO} {l : List aE} {d : List Int} (hg : Good t l d) {ps : List Int} (hp : ps.length ≤ 1000) {Q : (Option bA × List Int × Int) → Prop}
    (h1 : (∃ n ∈ ps, wi n 0 999 = false) → Q (none, [], 1)) (h0 : (∀ n ∈ ps, wi n 0 999 = true) → ∀ won, WonIs won (eX d (Res l)) → Q (some ⟨t, d, won⟩, ps.map (nG d), 0)) : mA t l ps Q := by
  have hlen := hg.dok.len
  have h32 := hg.ht.len32
  unfold mA
  refine uI hg fun won hW => ?_
  simp only [decide_true, Bool.not_true, cond_false]
  refine oJ (S := List Int) (fun k i slots => jW Q ps ps.length k (some ⟨t, d, won⟩) i slots) ps.length (fun x => x) (fun i slots => slots = (ps.take i).map (nG d) ∧ ∀ n ∈ ps.take i, wi n 0 999 = true) ?_ ?_ BIG 0 [] (cY (by omega)) ⟨by simp, by simp⟩
  · rintro k i slots hi ⟨rfl, hall⟩ ih
    have ht1 : ps.take (i + 1) = ps.take i ++ [ps[i]] := List.take_succ_eq_append_getElem hi
    simp only [jW, Int.ofNat_lt, hi, decide_true, cond_true, cJ hi, oA, cK (show i < 9223372036854775807 by omega)]
    refine ⟨_, rfl, _, rfl, ?_⟩
    cases hw : wi ps[i] 0 999 with
    | false =>
      simp only [Bool.not_false, cond_true]
      exact h1 ⟨_, List.getElem_mem hi, hw⟩
    | true =>
      simp only [Bool.not_true, cond_false]
      refine ⟨_, rfl, _, aFp (show d.length ≤ 1000 by omega) _, _, hZ (by simp; omega), ih _ ⟨by rw [ht1, List.map_append]; rfl, fun n hn => ?_⟩⟩
      rw [ht1, List.mem_append, List.mem_singleton] at hn
      rcases hn with hn | rfl
      · exact hall n hn
      · exact hw
  · rintro k i slots hi ⟨rfl, hall⟩
    have hlt : decide ((i : Int) < (ps.length : Int)) = false := decide_eq_false (by omega)
    have hta : ps.take i = ps := List.take_of_length_le (by omega)
    rw [hta] at hall
    simp only [jW, hlt, cond_false, rA, hta]
    exact h0 hall won hW

/-- The outcome of Reached. -/
def nF (t : aO) (d : List Int) (must : List (List Int)) (n : Int) : dN × Int :=
  if wi n 0 999 = true then (if nG d n < 0 then (⟨0, 0⟩, 3) else (⟨leftFrom t d must (nG d n).toNat, mostFrom t d must (nG d n).toNat⟩, 0)) else (⟨0, 0⟩, 1)
where
  leftFrom (t : aO) (d : List Int) (must : List (List Int)) (a : Nat) : Int := tQ d must a t
  mostFrom (t : aO) (d : List Int) (must : List (List Int)) (a : Nat) : Int := oU d must a t
theorem aEt {t : aO} {l : List aE} {e : Int} (h : Stat t l e) (n : Int) : iW t l n = some (⟨0, 0⟩, e) := by
  unfold iW
  rw [rR h, Option.bind_some]
  simp only [h.ne, Bool.not_false, cond_true]
theorem qA {t : aO} {l : List aE} {d : List Int} (hg : Good t l d) {must : List (List Int)} (hd : cS t l = some (⟨d, must⟩, true)) (hM : MustIs t must (eX d (Res l))) (n : Int) : iW t l n = some (nF t d must n) := by
  have hlen := hg.dok.len
  have h32 := hg.ht.len32
  unfold iW
  rw [pX hg, Option.bind_some, oL]
  simp only [decide_true, Bool.not_true, cond_false, Option.bind_some]
  unfold nF
  cases hw : wi n 0 999 with
  | false => simp
  | true =>
    simp only [Bool.not_true, cond_false, hd, Option.bind_some, aJc (show d.length ≤ 1000 by omega), if_true]
    rcases rP d n with ⟨h1, _⟩ | ⟨a, h1, ha, he⟩
    · rw [h1]; rfl
    · have hneg : decide ((a : Int) < 0) = false := decide_eq_false (by omega)
      have hneg' : ¬ ((a : Int) < 0) := by omega
      simp only [h1, hneg, hneg', cond_false, if_false, aIk hg.ht hg.dok hM ha, aDv hg.ht hg.dok hM ha, Option.bind_some, Int.toNat_natCast]
      rfl
theorem aEu (t : aO) (l : List aE) (n : Int) {o : dN × Int} (h : iW t l n = some o) (Q : dN × Int → Prop) (hq : Q o) : lS t l n Q := by
  unfold lS
  rcases oW t l with ⟨d, hg⟩ | ⟨e, he⟩
  · obtain ⟨must, hd, hM⟩ := mR hg
    rw [qA hg hd hM] at h; cases h
    unfold nF at hq
    refine aKu hg (by simp) (fun ⟨x, hx, hw⟩ => ?_) fun hall won hW => ?_
    · rw [List.mem_singleton] at hx
      subst hx
      rw [hw] at hq
      exact hq
    · have hw := hall n (by simp)
      rw [hw, if_pos rfl] at hq
      simp only [decide_true, Bool.not_true, cond_false, List.map_cons, List.map_nil, aDo]
      refine ⟨_, rfl, ?_⟩
      rcases rP d n with ⟨h1, _⟩ | ⟨a, h1, ha, he⟩
      · rw [h1] at hq ⊢
        exact hq
      · have hneg : decide ((a : Int) < 0) = false := decide_eq_false (by omega)
        have hneg' : ¬ ((a : Int) < 0) := by omega
        rw [h1, if_neg hneg'] at hq
        simp only [h1, hneg, cond_false]
        exact ⟨_, rfl, _, rfl, _, aMh hg.ht hg.dok hM hW ha, _, rfl, _, aDe hg.ht hg.dok hM hW ha, hq⟩
  · rw [aEt he] at h; cases h
    refine aLx he _ ?_
    simp only [he.ne, Bool.not_false, cond_true]
    exact hq

section
variable {t : aO} {l : List aE} {d : List Int} (hg : Good t l d) {must : List (List Int)} (hM : MustIs t must (eX d (Res l)))
include hg hM
end
end Go.Am
