/- Layer 7, plain: May, Left, Reached and Meet of the program and of the reference. -/
import Derived.Test.YtenffgkkeafnpaaBkSh
import Derived.Test.YtenffgkkeafnpaaBrPlain15
namespace Go.Am

/-! Sorted. -/
theorem xF (l : List Int) : Srt (iI l) := aHf l
theorem sQ (l : List Int) : (iI l).Perm l := List.mergeSort_perm l _
theorem zF {l m : List Int} (h1 : Srt m) (h2 : m.Perm l) : m = iI l := aIx h1 (xF l) (h2.trans (sQ l).symm)
theorem aKh (a0 : Int → List Int → Option (List Int)) (l0 : List Int) (i : Int) {l : List Int} : ∀ (n k fuel : Nat) (out : List Int), k = n → SinkI l out k → k < fuel → out.length ≤ 1000 → jB a0 l0 i fuel k out = mZ a0 l0 i (iI l) := by
  intro n
  induction n with
  | zero =>
    intro k fuel out hn hS hf hl
    subst hn
    cases fuel with
    | zero => omega
    | succ fuel =>
      obtain ⟨h1, h2⟩ := hS.done (.inl rfl)
      simp only [jB, show decide ((0 : Int) < ((0 : Nat) : Int)) = false by decide, cond_false, Option.bind_some, zF h1 h2]
  | succ n ih =>
    intro k fuel out hn hS hf hl
    subst hn
    cases fuel with
    | zero => omega
    | succ fuel =>
      have hk := hS.lt
      have hk1 : n < out.length := by omega
      have hlt : decide ((0 : Int) < ((n + 1 : Nat) : Int)) = true := decide_eq_true (by omega)
      have hp : w64 (((n + 1 : Nat) : Int) - 1) = (n : Int) := by rw [fE (by omega) (by omega)]; omega
      simp only [jB, hlt, cond_true, hp, cL hk, cL hk1, Option.bind_some]
      rw [← bW hk 0, ← bW hk1 0]
      by_cases hc : out.getD (n + 1) 0 < out.getD n 0
      · have hN := hS.next (by omega) hc
        have e : ((n + 1 : Nat) : Int).toNat = n + 1 := by omega
        have e2 : ((n : Nat) : Int).toNat = n := by omega
        have hk2 : n < (out.set (n + 1) (out.getD n 0)).length := by rw [List.length_set]; exact hk1
        simp only [hc, decide_true, cond_true, e, e2, cL hk2, Option.bind_some]
        exact ih n fuel _ rfl hN (by omega) (by simp; omega)
      · simp only [hc, decide_false, cond_false]
        obtain ⟨h1, h2⟩ := hS.done (.inr (by simp only [Nat.add_sub_cancel]; omega))
        rw [zF h1 h2]
theorem aHe (l : List Int) (hl : l.length ≤ 900) : oY l = some (iI l) := by
  unfold oY
  have := fB (S := List Int) (fun k i out => jA l k i out) l.length (fun _ _ => some (iI l)) (fun i out => out = iI (l.take i)) ?_ ?_ BIG [] (cX (by omega)) (by simp [iI])
  · exact this
  · rintro k i out hi rfl ih
    have hlen : (iI (l.take i)).length = i := by rw [(sQ _).length_eq]; simp; omega
    simp only [jA, Int.ofNat_lt, hi, decide_true, cond_true, cL hi, Option.bind_some]
    rw [hC (by simp; omega), Option.bind_some]
    have e : w64 (((iI (l.take i) ++ [l[i]]).length : Int) - 1) = (((iI (l.take i)).length : Nat) : Int) := by
      rw [List.length_append, List.length_singleton, fE (by omega) (by omega)]; omega
    rw [e, aKh _ l i (iI (l.take i)).length _ BIG _ rfl (SinkI.start (xF _) l[i]) (cX (by omega)) (by simp; omega)]
    unfold mZ qF
    rw [cJ (show i < 9223372036854775807 by omega)]
    refine ih _ ?_
    rw [List.take_succ_eq_append_getElem hi]
    exact zF (xF _) ((sQ _).trans ((sQ (l.take i)).append_right _))
  · rintro k out rfl
    have hlt : decide ((l.length : Int) < (l.length : Int)) = false := decide_eq_false (by omega)
    simp only [jA, hlt, cond_false, qE, List.take_length]

/-! How far. -/
section
variable {t : aN} (ht : TreeOK t) {d : List Int} (hD : DOK t d) {must : List (List Int)} {P : kJ} (hM : MustIs t must P) {won : List (aB × Int)} (hW : WonIs won P)
include ht hD hM
theorem aDy {a : Nat} (ha : a < d.length) : nW t ⟨d, must⟩ a = some (sO d must a t : Int) := by
  have h1 := ht.r1
  have h5 := ht.r5
  unfold nW
  refine sN (fun k i => jY a t ⟨d, must⟩ k i) t.Rounds.toNat (aDe d must a) (fun i => some (i : Int)) (fun k i hi => ?_) (fun k => ?_) BIG (cX (by omega))
  · have hlt : decide ((i : Int) < t.Rounds) = true := decide_eq_true (by omega)
    have hw : w64 ((i : Int) + 1) = ((i + 1 : Nat) : Int) := cJ (by omega)
    have hu : IntKind.u64.wrap ((i + 1 : Nat) : Int) = ((i + 1 : Nat) : Int) := oR (by omega) (by omega)
    have hch : chk (decide (0 ≤ ((i + 1 : Nat) : Int))) = some () := by unfold chk; rw [decide_eq_true (by omega)]; rfl
    have hmin : min ((i + 1 : Nat) : Int).toNat 64 = i + 1 := by omega
    have hml := hM.len
    have hrl := hM.row i hi
    have hpin := oT ht (hD.len ▸ ha) hi
    have hql : i < must.length := by omega
    have hi1 : idx must (i : Int) = some (must.getD i []) := by rw [cL hql, bW hql]
    have hi2 : idx (must.getD i []) ((a / 2 ^ (i + 1) : Nat) : Int) = some (mat must i (a / 2 ^ (i + 1))) := by
      have hlt' : a / 2 ^ (i + 1) < (must.getD i []).length := by omega
      rw [cL hlt']; exact congrArg some (bW hlt' (-2)).symm
    simp only [jY, hlt, cond_true, hw, hu, hch, hmin, qW, Option.bind_some, hi1, hi2, cL ha, uL, oJ]
    rw [← bW ha 0]
    unfold aDe
    cases decide (mat must i (a / 2 ^ (i + 1)) = -2) <;> cases decide (mat must i (a / 2 ^ (i + 1)) = d.getD a 0) <;> rfl
  · have hlt : decide (((t.Rounds.toNat : Nat) : Int) < t.Rounds) = false := decide_eq_false (by omega)
    simp only [jY, hlt, cond_false, Option.bind_some, oJ]
theorem aIa {a : Nat} (ha : a < d.length) : pK t ⟨d, must⟩ a = some (aDt d must a t : Int) := by
  have h1 := ht.r1
  have h5 := ht.r5
  unfold pK
  refine sN (fun k i => jN a t ⟨d, must⟩ k i) t.Rounds.toNat (aDd d must a) (fun i => some (i : Int)) (fun k i hi => ?_) (fun k => ?_) BIG (cX (by omega))
  · have hlt : decide ((i : Int) < t.Rounds) = true := decide_eq_true (by omega)
    have hw : w64 ((i : Int) + 1) = ((i + 1 : Nat) : Int) := cJ (by omega)
    have hu : IntKind.u64.wrap ((i + 1 : Nat) : Int) = ((i + 1 : Nat) : Int) := oR (by omega) (by omega)
    have hch : chk (decide (0 ≤ ((i + 1 : Nat) : Int))) = some () := by unfold chk; rw [decide_eq_true (by omega)]; rfl
    have hmin : min ((i + 1 : Nat) : Int).toNat 64 = i + 1 := by omega
    have hml := hM.len
    have hrl := hM.row i hi
    have hpin := oT ht (hD.len ▸ ha) hi
    have hql : i < must.length := by omega
    have hi1 : idx must (i : Int) = some (must.getD i []) := by rw [cL hql, bW hql]
    have hi2 : idx (must.getD i []) ((a / 2 ^ (i + 1) : Nat) : Int) = some (mat must i (a / 2 ^ (i + 1))) := by
      have hlt' : a / 2 ^ (i + 1) < (must.getD i []).length := by omega
      rw [cL hlt']; exact congrArg some (bW hlt' (-2)).symm
    simp only [jN, hlt, cond_true, hw, hu, hch, hmin, qW, Option.bind_some, hi1, hi2, cL ha, nR]
    rw [← bW ha 0]
    unfold aDd
    cases decide (mat must i (a / 2 ^ (i + 1)) = d.getD a 0) <;> rfl
  · have hlt : decide (((t.Rounds.toNat : Nat) : Int) < t.Rounds) = false := decide_eq_false (by omega)
    simp only [jN, hlt, cond_false, Option.bind_some, nR]
include hW
theorem aDg {a : Nat} (ha : a < d.length) : jO ⟨t, d, won⟩ a = some (sO d must a t : Int) := by
  have h1 := ht.r1
  have h5 := ht.r5
  have e : t.Rounds = ((t.Rounds.toNat : Nat) : Int) := by omega
  unfold jO
  refine sN (fun k i => gK ⟨t, d, won⟩ a t.Rounds k i) t.Rounds.toNat (aDe d must a) (fun i => some (i : Int)) (fun k i hi => ?_) (fun k => ?_) BIG (cX (by omega))
  · have hlt : decide ((i : Int) < t.Rounds) = true := decide_eq_true (by omega)
    have hpin := oT ht (hD.len ▸ ha) hi
    have hh := vK hW hM hi hpin
    simp only [gK, hlt, cond_true, aAl (show i ≤ 5 by omega), Option.bind_some, cJ (show i < 9223372036854775807 by omega), cL ha]
    have hcell : cell a i = ⟨(i : Int), ((a / 2 ^ (i + 1) : Nat) : Int)⟩ := rfl
    rw [← bW ha 0, hcell, hh]
    unfold aDe
    by_cases h2 : mat must i (a / 2 ^ (i + 1)) = -2
    · simp only [h2, decide_true, Bool.not_true, cond_false, Option.bind_some, Bool.false_and]
    · simp only [h2, decide_false, Bool.not_false, cond_true, Option.bind_some, Bool.true_and, yY hW hM hi hpin h2]
  · have hlt : decide (((t.Rounds.toNat : Nat) : Int) < t.Rounds) = false := decide_eq_false (by omega)
    simp only [gK, hlt, cond_false, nL]
    rw [← e]
theorem aLy {a : Nat} (ha : a < d.length) : kW ⟨t, d, won⟩ a = some (aDt d must a t : Int) := by
  have h1 := ht.r1
  have h5 := ht.r5
  have e : t.Rounds = ((t.Rounds.toNat : Nat) : Int) := by omega
  have hrng := hD.rng a ha
  unfold kW
  refine sN (fun k i => gL ⟨t, d, won⟩ a t.Rounds k i) t.Rounds.toNat (aDd d must a) (fun i => some (i : Int)) (fun k i hi => ?_) (fun k => ?_) BIG (cX (by omega))
  · have hlt : decide ((i : Int) < t.Rounds) = true := decide_eq_true (by omega)
    have hpin := oT ht (hD.len ▸ ha) hi
    have hh := vK hW hM hi hpin
    simp only [gL, hlt, cond_true, aAl (show i ≤ 5 by omega), Option.bind_some, cJ (show i < 9223372036854775807 by omega), cL ha]
    have hcell : cell a i = ⟨(i : Int), ((a / 2 ^ (i + 1) : Nat) : Int)⟩ := rfl
    rw [← bW ha 0, hcell, hh]
    unfold aDd
    by_cases h2 : mat must i (a / 2 ^ (i + 1)) = -2
    · have h3 : decide (mat must i (a / 2 ^ (i + 1)) = d.getD a 0) = false := decide_eq_false (by omega)
      simp only [h2] at h3
      simp only [h2, h3, decide_true, Bool.not_true, Bool.not_false, cond_true, Option.bind_some]
    · simp only [h2, decide_false, Bool.not_false, Bool.not_true, cond_false, Option.bind_some, yY hW hM hi hpin h2]
  · have hlt : decide (((t.Rounds.toNat : Nat) : Int) < t.Rounds) = false := decide_eq_false (by omega)
    simp only [gL, hlt, cond_false, nM]
    rw [← e]
end

/-! May. -/
def wS (d : List Int) (must : List (List Int)) (t : aN) (r p a : Nat) : Bool := !decide (d.getD a 0 = -1) && decide (a / 2 ^ (r + 1) = p) && decide (r < sO d must a t)
def tE (d : List Int) (must : List (List Int)) (t : aN) (r p n : Nat) : List Int := ((List.range n).filter (wS d must t r p)).map (d.getD · 0)
def aDx (d : List Int) (must : List (List Int)) (t : aN) (r p : Nat) : List Int := tE d must t r p d.length
theorem aCb (d : List Int) (must : List (List Int)) (t : aN) (r p n : Nat) : tE d must t r p (n + 1) = tE d must t r p n ++ (if wS d must t r p n = true then [d.getD n 0] else []) := by
  unfold tE
  rw [List.range_succ, List.filter_append, List.map_append]
  congr 1
  simp only [List.filter_cons, List.filter_nil]
  split <;> rfl
theorem vM (d : List Int) (must : List (List Int)) (t : aN) (r p n : Nat) : (tE d must t r p n).length ≤ n := by
  have := List.length_filter_le (wS d must t r p) (List.range n)
  simpa [tE] using this
section
variable {t : aN} {l : List aE} {d : List Int} (hg : Good t l d) {must : List (List Int)} (hd : dF t l = some (⟨d, must⟩, true)) (hM : MustIs t must (fL d (Res l)))
include hg hM
theorem aLc {r p : Nat} (hr : r < t.Rounds.toNat) : gI r p t ⟨d, must⟩ BIG 0 [] = some (iI (aDx d must t r p), 0) := by
  have ht := hg.ht
  have hD := hg.dok
  have h5 := ht.r5
  have h32 := ht.len32
  have hlen := hD.len
  have := fB (S := List Int) (fun k s out => gI r p t ⟨d, must⟩ k s out) d.length (fun _ _ => some (iI (aDx d must t r p), 0)) (fun s out => out = tE d must t r p s) ?_ ?_ BIG [] (cX (by omega)) (by simp [tE])
  · exact this
  · rintro k s out hs rfl ih
    have hml := vM d must t r p s
    have hw : w64 ((r : Int) + 1) = ((r + 1 : Nat) : Int) := cJ (by omega)
    have hu : IntKind.u64.wrap ((r + 1 : Nat) : Int) = ((r + 1 : Nat) : Int) := oR (by omega) (by omega)
    have hch : chk (decide (0 ≤ ((r + 1 : Nat) : Int))) = some () := by unfold chk; rw [decide_eq_true (by omega)]; rfl
    have hmin : min ((r + 1 : Nat) : Int).toNat 64 = r + 1 := by omega
    have hst := aCb d must t r p s
    have hdp : decide (((s / 2 ^ (r + 1) : Nat) : Int) = (p : Int)) = decide (s / 2 ^ (r + 1) = p) := by rw [Bool.eq_iff_iff]; simp only [decide_eq_true_eq]; omega
    have hdm : decide ((r : Int) < (sO d must s t : Int)) = decide (r < sO d must s t) := by rw [Bool.eq_iff_iff]; simp only [decide_eq_true_eq]; omega
    simp only [gI, Int.ofNat_lt, hs, decide_true, cond_true, cL hs, Option.bind_some, hw, hu, hch, hmin, qW, hdp, gW, aDy ht hD hM hs, hdm, cJ (show s < 9223372036854775807 by omega)]
    rw [← bW hs 0]
    have e : (!decide (d.getD s 0 = -1) && decide (s / 2 ^ (r + 1) = p) && decide (r < sO d must s t)) = wS d must t r p s := rfl
    rw [e]
    cases hb : wS d must t r p s with
    | true =>
      rw [hb, if_pos rfl] at hst
      simp only [cond_true]
      rw [hC (by simp; omega), Option.bind_some]
      exact ih _ hst.symm
    | false =>
      rw [hb] at hst
      simp only [cond_false]
      exact ih _ (by rw [hst]; simp)
  · rintro k out rfl
    have hlt : decide ((d.length : Int) < (d.length : Int)) = false := decide_eq_false (by omega)
    have hml := vM d must t r p d.length
    simp only [gI, hlt, cond_false, sG, aHe _ (show (tE d must t r p d.length).length ≤ 900 by omega), Option.bind_some]
    rfl
theorem aJz {won : List (aB × Int)} (hW : WonIs won (fL d (Res l))) {r p : Nat} (hr : r < t.Rounds.toNat) {Q : List Int × Int → Prop} (hq : Q (iI (aDx d must t r p), 0)) :
    gZ Q r (some ⟨t, d, won⟩) d d.length ⟨r, p⟩ BIG 0 [] := by
  have ht := hg.ht
  have hD := hg.dok
  have h5 := ht.r5
  have h32 := ht.len32
  have hlen := hD.len
  refine rT (S := List Int) (fun k s out => gZ Q r (some ⟨t, d, won⟩) d d.length ⟨r, p⟩ k s out) d.length (fun x => x) (fun s out => out = tE d must t r p s ∧ s ≤ d.length) ?_ ?_ BIG 0 [] (cX (by omega)) ⟨by simp [tE], by omega⟩
  · rintro k s out hs ⟨rfl, hsl⟩ ih
    have hml := vM d must t r p s
    have hst := aCb d must t r p s
    have hdm : decide ((r : Int) < (sO d must s t : Int)) = decide (r < sO d must s t) := by rw [Bool.eq_iff_iff]; simp only [decide_eq_true_eq]; omega
    have hdc : decide (cell s r = (⟨r, p⟩ : aB)) = decide (s / 2 ^ (r + 1) = p) := by
      rw [Bool.eq_iff_iff]; simp only [decide_eq_true_eq, cell, aB.mk.injEq, true_and]; omega
    simp only [gZ, Int.ofNat_lt, hs, decide_true, cond_true, cL hs, aAl (show r ≤ 5 by omega), Option.bind_some, aDg ht hD hM hW hs, hdm, hdc, gW, cJ (show s < 9223372036854775807 by omega)]
    refine ⟨_, rfl, _, rfl, _, rfl, wS d must t r p s, ?_, ?_⟩
    · rw [← bW hs 0]
      unfold wS
      cases (!decide (d.getD s 0 = -1) && decide (s / 2 ^ (r + 1) = p)) with
      | false => rfl
      | true => simp only [cond_true, aDg ht hD hM hW hs, Option.bind_some, hdm, Bool.true_and]
    rw [← bW hs 0]
    cases hb : wS d must t r p s with
    | true =>
      rw [hb, if_pos rfl] at hst
      simp only [cond_true]
      exact ⟨_, hC (by simp; omega), ih _ ⟨hst.symm, hs⟩⟩
    | false =>
      rw [hb] at hst
      simp only [cond_false]
      exact ih _ ⟨by rw [hst]; simp, hs⟩
  · rintro k s out hs ⟨rfl, hsl⟩
    have : s = d.length := by omega
    subst this
    have hlt : decide ((d.length : Int) < (d.length : Int)) = false := decide_eq_false (by omega)
    have hml := vM d must t r p d.length
    simp only [gZ, hlt, cond_false, qT]
    refine ⟨iI (aDx d must t r p), ?_, hq⟩
    unfold slices_Sort_int
    rw [if_pos (by omega)]; rfl
end
theorem aBj {α : Type} (A : Option Int) (B : Option (aR × Bool)) (F : aR → Option α) (z : Int → α) {d : aR} (hA : A = some 0) (hB : B = some (d, true)) :
    (A.bind fun r2 => bif !decide (r2 = 0) then some (z r2) else (B.bind fun r3 => F r3.1)) = F d := by subst hA; subst hB; rfl
theorem aKu {t : aN} {l : List aE} {e : Int} (h : Stat t l e) (r p : Int) : iP t l r p = some ([], e) := by
  unfold iP
  rw [aBf h, Option.bind_some]
  simp only [h.ne, Bool.not_false, cond_true]
theorem aKt {t : aN} {l : List aE} {d : List Int} (h : Good t l d) {r p : Int} (hm : iG t r p = false) : iP t l r p = some ([], 1) := by
  unfold iP
  rw [tP h, hm, Option.bind_some]
  rfl
theorem aJd {t : aN} {l : List aE} {d : List Int} (h : Good t l d) {must : List (List Int)} (hd : dF t l = some (⟨d, must⟩, true)) (hM : MustIs t must (fL d (Res l))) {r p : Nat} (hm : iG t r p = true) :
    iP t l r p = some (iI (aDx d must t r p), 0) := by
  obtain ⟨r', p', e1, e2, hr, hp⟩ := aAf hm
  have e1 : r = r' := by omega
  subst e1
  unfold iP
  exact (aBj _ _ (fun dd => gI r p t dd BIG 0 []) (fun r2 => ([], r2)) (by rw [tP h, hm]; rfl) hd).trans (aLc h hM hr)
theorem aKv (t : aN) (l : List aE) (r p : Int) {o : List Int × Int} (h : iP t l r p = some o) (Q : List Int × Int → Prop) (hq : Q o) : pA t l r p Q := by
  unfold pA
  rcases jW t l with ⟨d, hg⟩ | ⟨e, he⟩
  · refine aKx hg fun won hW => ?_
    cases hm : iG t r p with
    | false =>
      rw [aKt hg hm] at h; cases h
      exact hq
    | true =>
      obtain ⟨r', p', rfl, rfl, hr, hp⟩ := aAf hm
      obtain ⟨must, hd, hM⟩ := lQ hg
      rw [aJd hg hd hM hm] at h; cases h
      simp only [cond_true, decide_true, Bool.not_true, cond_false]
      exact ⟨_, rfl, aJz hg hM hW hr hq⟩
  · rw [aKu he] at h; cases h
    refine aLq he ?_
    simp only [he.ne, Bool.not_false, cond_true]
    exact hq
end Go.Am
