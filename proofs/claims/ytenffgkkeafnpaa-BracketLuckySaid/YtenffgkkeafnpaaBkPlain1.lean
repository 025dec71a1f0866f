/- Layer 7, plain: May, Left, Reached and Meet of the program and of the reference. -/
import Derived.Test.YtenffgkkeafnpaaBkSh
import Derived.Test.YtenffgkkeafnpaaBrPlain15
namespace Go.Am

/-! Sorted. -/
theorem yA (l : List Int) : Srt (iL l) := aHq l
theorem sY (l : List Int) : (iL l).Perm l := List.mergeSort_perm l _
theorem zS {l m : List Int} (h1 : Srt m) (h2 : m.Perm l) : m = iL l := aJe h1 (yA l) (h2.trans (sY l).symm)
theorem aKp (a0 : Int → List Int → Option (List Int)) (l0 : List Int) (i : Int) {l : List Int} : ∀ (n k fuel : Nat) (out : List Int), k = n → SinkI l out k → k < fuel → out.length ≤ 1000 → jH a0 l0 i fuel k out = nD a0 l0 i (iL l) := by
  intro n
  induction n with
  | zero =>
    intro k fuel out hn hS hf hl
    subst hn
    cases fuel with
    | zero => omega
    | succ fuel =>
      obtain ⟨h1, h2⟩ := hS.done (.inl rfl)
      simp only [jH, show decide ((0 : Int) < ((0 : Nat) : Int)) = false by decide, cond_false, Option.bind_some, zS h1 h2]
  | succ n ih =>
    intro k fuel out hn hS hf hl
    subst hn
    cases fuel with
    | zero => omega
    | succ fuel =>
      have hk := hS.lt
      have hk1 : n < out.length := by omega
      have hlt : decide ((0 : Int) < ((n + 1 : Nat) : Int)) = true := decide_eq_true (by omega)
      have hp : w64 (((n + 1 : Nat) : Int) - 1) = (n : Int) := by rw [fE (by omega) (by omega)]; omega
      simp only [jH, hlt, cond_true, hp, cJ hk, cJ hk1, Option.bind_some]
      rw [← bR hk 0, ← bR hk1 0]
      by_cases hc : out.getD (n + 1) 0 < out.getD n 0
      · have hN := hS.next (by omega) hc
        have e : ((n + 1 : Nat) : Int).toNat = n + 1 := by omega
        have e2 : ((n : Nat) : Int).toNat = n := by omega
        have hk2 : n < (out.set (n + 1) (out.getD n 0)).length := by rw [List.length_set]; exact hk1
        simp only [hc, decide_true, cond_true, e, e2, cJ hk2, Option.bind_some]
        exact ih n fuel _ rfl hN (by omega) (by simp; omega)
      · simp only [hc, decide_false, cond_false]
        obtain ⟨h1, h2⟩ := hS.done (.inr (by simp only [Nat.add_sub_cancel]; omega))
        rw [zS h1 h2]
theorem aHp (l : List Int) (hl : l.length ≤ 900) : oZ l = some (iL l) := by
  unfold oZ
  have := fM (S := List Int) (fun k i out => jG l k i out) l.length (fun _ _ => some (iL l)) (fun i out => out = iL (l.take i)) ?_ ?_ BIG [] (cY (by omega)) (by simp [iL])
  · exact this
  · rintro k i out hi rfl ih
    have hlen : (iL (l.take i)).length = i := by rw [(sY _).length_eq]; simp; omega
    simp only [jG, Int.ofNat_lt, hi, decide_true, cond_true, cJ hi, Option.bind_some]
    rw [hZ (by simp; omega), Option.bind_some]
    have e : w64 (((iL (l.take i) ++ [l[i]]).length : Int) - 1) = (((iL (l.take i)).length : Nat) : Int) := by
      rw [List.length_append, List.length_singleton, fE (by omega) (by omega)]; omega
    rw [e, aKp _ l i (iL (l.take i)).length _ BIG _ rfl (SinkI.start (yA _) l[i]) (cY (by omega)) (by simp; omega)]
    unfold nD qG
    rw [cK (show i < 9223372036854775807 by omega)]
    refine ih _ ?_
    rw [List.take_succ_eq_append_getElem hi]
    exact zS (yA _) ((sY _).trans ((sY (l.take i)).append_right _))
  · rintro k out rfl
    have hlt : decide ((l.length : Int) < (l.length : Int)) = false := decide_eq_false (by omega)
    simp only [jG, hlt, cond_false, qF, List.take_length]

/-! How far. -/
section
variable {t : aO} (ht : TreeOK t) {d : List Int} (hD : DOK t d) {must : List (List Int)} {P : kV} (hM : MustIs t must P) {won : List (aB × Int)} (hW : WonIs won P)
include ht hD hM
theorem aDv {a : Nat} (ha : a < d.length) : nW t ⟨d, must⟩ a = some (oU d must a t : Int) := by
  have h1 := ht.r1
  have h5 := ht.r5
  unfold nW
  refine sS (fun k i => kH a t ⟨d, must⟩ k i) t.Rounds.toNat (aBk d must a) (fun i => some (i : Int)) (fun k i hi => ?_) (fun k => ?_) BIG (cY (by omega))
  · have hlt : decide ((i : Int) < t.Rounds) = true := decide_eq_true (by omega)
    have hw : w64 ((i : Int) + 1) = ((i + 1 : Nat) : Int) := cK (by omega)
    have hu : IntKind.u64.wrap ((i + 1 : Nat) : Int) = ((i + 1 : Nat) : Int) := oP (by omega) (by omega)
    have hch : chk (decide (0 ≤ ((i + 1 : Nat) : Int))) = some () := by unfold chk; rw [decide_eq_true (by omega)]; rfl
    have hmin : min ((i + 1 : Nat) : Int).toNat 64 = i + 1 := by omega
    have hml := hM.len
    have hrl := hM.row i hi
    have hpin := nL ht (hD.len ▸ ha) hi
    have hql : i < must.length := by omega
    have hi1 : idx must (i : Int) = some (must.getD i []) := by rw [cJ hql, bR hql]
    have hi2 : idx (must.getD i []) ((a / 2 ^ (i + 1) : Nat) : Int) = some (mat must i (a / 2 ^ (i + 1))) := by
      have hlt' : a / 2 ^ (i + 1) < (must.getD i []).length := by omega
      rw [cJ hlt']; exact congrArg some (bR hlt' (-2)).symm
    simp only [kH, hlt, cond_true, hw, hu, hch, hmin, rD, Option.bind_some, hi1, hi2, cJ ha, mP, oG]
    rw [← bR ha 0]
    unfold aBk
    cases decide (mat must i (a / 2 ^ (i + 1)) = -2) <;> cases decide (mat must i (a / 2 ^ (i + 1)) = d.getD a 0) <;> rfl
  · have hlt : decide (((t.Rounds.toNat : Nat) : Int) < t.Rounds) = false := decide_eq_false (by omega)
    simp only [kH, hlt, cond_false, Option.bind_some, oG]
theorem aIk {a : Nat} (ha : a < d.length) : pM t ⟨d, must⟩ a = some (tQ d must a t : Int) := by
  have h1 := ht.r1
  have h5 := ht.r5
  unfold pM
  refine sS (fun k i => jT a t ⟨d, must⟩ k i) t.Rounds.toNat (aBj d must a) (fun i => some (i : Int)) (fun k i hi => ?_) (fun k => ?_) BIG (cY (by omega))
  · have hlt : decide ((i : Int) < t.Rounds) = true := decide_eq_true (by omega)
    have hw : w64 ((i : Int) + 1) = ((i + 1 : Nat) : Int) := cK (by omega)
    have hu : IntKind.u64.wrap ((i + 1 : Nat) : Int) = ((i + 1 : Nat) : Int) := oP (by omega) (by omega)
    have hch : chk (decide (0 ≤ ((i + 1 : Nat) : Int))) = some () := by unfold chk; rw [decide_eq_true (by omega)]; rfl
    have hmin : min ((i + 1 : Nat) : Int).toNat 64 = i + 1 := by omega
    have hml := hM.len
    have hrl := hM.row i hi
    have hpin := nL ht (hD.len ▸ ha) hi
    have hql : i < must.length := by omega
    have hi1 : idx must (i : Int) = some (must.getD i []) := by rw [cJ hql, bR hql]
    have hi2 : idx (must.getD i []) ((a / 2 ^ (i + 1) : Nat) : Int) = some (mat must i (a / 2 ^ (i + 1))) := by
      have hlt' : a / 2 ^ (i + 1) < (must.getD i []).length := by omega
      rw [cJ hlt']; exact congrArg some (bR hlt' (-2)).symm
    simp only [jT, hlt, cond_true, hw, hu, hch, hmin, rD, Option.bind_some, hi1, hi2, cJ ha, nS]
    rw [← bR ha 0]
    unfold aBj
    cases decide (mat must i (a / 2 ^ (i + 1)) = d.getD a 0) <;> rfl
  · have hlt : decide (((t.Rounds.toNat : Nat) : Int) < t.Rounds) = false := decide_eq_false (by omega)
    simp only [jT, hlt, cond_false, Option.bind_some, nS]
include hW
theorem aDe {a : Nat} (ha : a < d.length) : jU ⟨t, d, won⟩ a = some (oU d must a t : Int) := by
  have h1 := ht.r1
  have h5 := ht.r5
  have e : t.Rounds = ((t.Rounds.toNat : Nat) : Int) := by omega
  unfold jU
  refine sS (fun k i => gJ ⟨t, d, won⟩ a t.Rounds k i) t.Rounds.toNat (aBk d must a) (fun i => some (i : Int)) (fun k i hi => ?_) (fun k => ?_) BIG (cY (by omega))
  · have hlt : decide ((i : Int) < t.Rounds) = true := decide_eq_true (by omega)
    have hpin := nL ht (hD.len ▸ ha) hi
    have hh := vZ hW hM hi hpin
    simp only [gJ, hlt, cond_true, aAr (show i ≤ 5 by omega), Option.bind_some, cK (show i < 9223372036854775807 by omega), cJ ha]
    have hcell : cell a i = ⟨(i : Int), ((a / 2 ^ (i + 1) : Nat) : Int)⟩ := rfl
    rw [← bR ha 0, hcell, hh]
    unfold aBk
    by_cases h2 : mat must i (a / 2 ^ (i + 1)) = -2
    · simp only [h2, decide_true, Bool.not_true, cond_false, Option.bind_some, Bool.false_and]
    · simp only [h2, decide_false, Bool.not_false, cond_true, Option.bind_some, Bool.true_and, vY hW hM hi hpin h2]
  · have hlt : decide (((t.Rounds.toNat : Nat) : Int) < t.Rounds) = false := decide_eq_false (by omega)
    simp only [gJ, hlt, cond_false, nO]
    rw [← e]
theorem aMh {a : Nat} (ha : a < d.length) : lI ⟨t, d, won⟩ a = some (tQ d must a t : Int) := by
  have h1 := ht.r1
  have h5 := ht.r5
  have e : t.Rounds = ((t.Rounds.toNat : Nat) : Int) := by omega
  have hrng := hD.rng a ha
  unfold lI
  refine sS (fun k i => gK ⟨t, d, won⟩ a t.Rounds k i) t.Rounds.toNat (aBj d must a) (fun i => some (i : Int)) (fun k i hi => ?_) (fun k => ?_) BIG (cY (by omega))
  · have hlt : decide ((i : Int) < t.Rounds) = true := decide_eq_true (by omega)
    have hpin := nL ht (hD.len ▸ ha) hi
    have hh := vZ hW hM hi hpin
    simp only [gK, hlt, cond_true, aAr (show i ≤ 5 by omega), Option.bind_some, cK (show i < 9223372036854775807 by omega), cJ ha]
    have hcell : cell a i = ⟨(i : Int), ((a / 2 ^ (i + 1) : Nat) : Int)⟩ := rfl
    rw [← bR ha 0, hcell, hh]
    unfold aBj
    by_cases h2 : mat must i (a / 2 ^ (i + 1)) = -2
    · have h3 : decide (mat must i (a / 2 ^ (i + 1)) = d.getD a 0) = false := decide_eq_false (by omega)
      simp only [h2] at h3
      simp only [h2, h3, decide_true, Bool.not_true, Bool.not_false, cond_true, Option.bind_some]
    · simp only [h2, decide_false, Bool.not_false, Bool.not_true, cond_false, Option.bind_some, vY hW hM hi hpin h2]
  · have hlt : decide (((t.Rounds.toNat : Nat) : Int) < t.Rounds) = false := decide_eq_false (by omega)
    simp only [gK, hlt, cond_false, nP]
    rw [← e]
end

/-! May. -/
def xK (d : List Int) (must : List (List Int)) (t : aO) (r p a : Nat) : Bool := !decide (d.getD a 0 = -1) && decide (a / 2 ^ (r + 1) = p) && decide (r < oU d must a t)
def tS (d : List Int) (must : List (List Int)) (t : aO) (r p n : Nat) : List Int := ((List.range n).filter (xK d must t r p)).map (d.getD · 0)
def aDu (d : List Int) (must : List (List Int)) (t : aO) (r p : Nat) : List Int := tS d must t r p d.length
theorem aCf (d : List Int) (must : List (List Int)) (t : aO) (r p n : Nat) : tS d must t r p (n + 1) = tS d must t r p n ++ (if xK d must t r p n = true then [d.getD n 0] else []) := by
  unfold tS
  rw [List.range_succ, List.filter_append, List.map_append]
  congr 1
  simp only [List.filter_cons, List.filter_nil]
  split <;> rfl
theorem wB (d : List Int) (must : List (List Int)) (t : aO) (r p n : Nat) : (tS d must t r p n).length ≤ n := by
  have := List.length_filter_le (xK d must t r p) (List.range n)
  simpa [tS] using this
section
variable {t : aO} {l : List aE} {d : List Int} (hg : Good t l d) {must : List (List Int)} (hd : cS t l = some (⟨d, must⟩, true)) (hM : MustIs t must (eX d (Res l)))
include hg hM
theorem aLm {r p : Nat} (hr : r < t.Rounds.toNat) : gG r p t ⟨d, must⟩ BIG 0 [] = some (iL (aDu d must t r p), 0) := by
  have ht := hg.ht
  have hD := hg.dok
  have h5 := ht.r5
  have h32 := ht.len32
  have hlen := hD.len
  have := fM (S := List Int) (fun k s out => gG r p t ⟨d, must⟩ k s out) d.length (fun _ _ => some (iL (aDu d must t r p), 0)) (fun s out => out = tS d must t r p s) ?_ ?_ BIG [] (cY (by omega)) (by simp [tS])
  · exact this
  · rintro k s out hs rfl ih
    have hml := wB d must t r p s
    have hw : w64 ((r : Int) + 1) = ((r + 1 : Nat) : Int) := cK (by omega)
    have hu : IntKind.u64.wrap ((r + 1 : Nat) : Int) = ((r + 1 : Nat) : Int) := oP (by omega) (by omega)
    have hch : chk (decide (0 ≤ ((r + 1 : Nat) : Int))) = some () := by unfold chk; rw [decide_eq_true (by omega)]; rfl
    have hmin : min ((r + 1 : Nat) : Int).toNat 64 = r + 1 := by omega
    have hst := aCf d must t r p s
    have hdp : decide (((s / 2 ^ (r + 1) : Nat) : Int) = (p : Int)) = decide (s / 2 ^ (r + 1) = p) := by rw [Bool.eq_iff_iff]; simp only [decide_eq_true_eq]; omega
    have hdm : decide ((r : Int) < (oU d must s t : Int)) = decide (r < oU d must s t) := by rw [Bool.eq_iff_iff]; simp only [decide_eq_true_eq]; omega
    simp only [gG, Int.ofNat_lt, hs, decide_true, cond_true, cJ hs, Option.bind_some, hw, hu, hch, hmin, rD, hdp, iM, aDv ht hD hM hs, hdm, cK (show s < 9223372036854775807 by omega)]
    rw [← bR hs 0]
    have e : (!decide (d.getD s 0 = -1) && decide (s / 2 ^ (r + 1) = p) && decide (r < oU d must s t)) = xK d must t r p s := rfl
    rw [e]
    cases hb : xK d must t r p s with
    | true =>
      rw [hb, if_pos rfl] at hst
      simp only [cond_true]
      rw [hZ (by simp; omega), Option.bind_some]
      exact ih _ hst.symm
    | false =>
      rw [hb] at hst
      simp only [cond_false]
      exact ih _ (by rw [hst]; simp)
  · rintro k out rfl
    have hlt : decide ((d.length : Int) < (d.length : Int)) = false := decide_eq_false (by omega)
    have hml := wB d must t r p d.length
    simp only [gG, hlt, cond_false, sL, aHp _ (show (tS d must t r p d.length).length ≤ 900 by omega), Option.bind_some]
    rfl
theorem aKh {won : List (aB × Int)} (hW : WonIs won (eX d (Res l))) {r p : Nat} (hr : r < t.Rounds.toNat) {Q : List Int × Int → Prop} (hq : Q (iL (aDu d must t r p), 0)) :
    gY Q r (some ⟨t, d, won⟩) d d.length ⟨r, p⟩ BIG 0 [] := by
  have ht := hg.ht
  have hD := hg.dok
  have h5 := ht.r5
  have h32 := ht.len32
  have hlen := hD.len
  refine oJ (S := List Int) (fun k s out => gY Q r (some ⟨t, d, won⟩) d d.length ⟨r, p⟩ k s out) d.length (fun x => x) (fun s out => out = tS d must t r p s ∧ s ≤ d.length) ?_ ?_ BIG 0 [] (cY (by omega)) ⟨by simp [tS], by omega⟩
  · rintro k s out hs ⟨rfl, hsl⟩ ih
    have hml := wB d must t r p s
    have hst := aCf d must t r p s
    have hdm : decide ((r : Int) < (oU d must s t : Int)) = decide (r < oU d must s t) := by rw [Bool.eq_iff_iff]; simp only [decide_eq_true_eq]; omega
    have hdc : decide (cell s r = (⟨r, p⟩ : aB)) = decide (s / 2 ^ (r + 1) = p) := by
      rw [Bool.eq_iff_iff]; simp only [decide_eq_true_eq, cell, aB.mk.injEq, true_and]; omega
    simp only [gY, Int.ofNat_lt, hs, decide_true, cond_true, cJ hs, aAr (show r ≤ 5 by omega), Option.bind_some, aDe ht hD hM hW hs, hdm, hdc, iM, cK (show s < 9223372036854775807 by omega)]
    refine ⟨_, rfl, _, rfl, _, rfl, xK d must t r p s, ?_, ?_⟩
    · rw [← bR hs 0]
      unfold xK
      cases (!decide (d.getD s 0 = -1) && decide (s / 2 ^ (r + 1) = p)) with
      | false => rfl
      | true => simp only [cond_true, aDe ht hD hM hW hs, Option.bind_some, hdm, Bool.true_and]
    rw [← bR hs 0]
    cases hb : xK d must t r p s with
    | true =>
      rw [hb, if_pos rfl] at hst
      simp only [cond_true]
      exact ⟨_, hZ (by simp; omega), ih _ ⟨hst.symm, hs⟩⟩
    | false =>
      rw [hb] at hst
      simp only [cond_false]
      exact ih _ ⟨by rw [hst]; simp, hs⟩
  · rintro k s out hs ⟨rfl, hsl⟩
    have : s = d.length := by omega
    subst this
    have hlt : decide ((d.length : Int) < (d.length : Int)) = false := decide_eq_false (by omega)
    have hml := wB d must t r p d.length
    simp only [gY, hlt, cond_false, qZ]
    refine ⟨iL (aDu d must t r p), ?_, hq⟩
    unfold slices_Sort_int
    rw [if_pos (by omega)]; rfl
end
theorem aFx {α : Type} (A : Option Int) (B : Option (aQ × Bool)) (F : aQ → Option α) (z : Int → α) {d : aQ} (hA : A = some 0) (hB : B = some (d, true)) :
    (A.bind fun r2 => bif !decide (r2 = 0) then some (z r2) else (B.bind fun r3 => F r3.1)) = F d := by subst hA; subst hB; rfl
theorem aLb {t : aO} {l : List aE} {e : Int} (h : Stat t l e) (r p : Int) : iU t l r p = some ([], e) := by
  unfold iU
  rw [vC h, Option.bind_some]
  simp only [h.ne, Bool.not_false, cond_true]
theorem aLa {t : aO} {l : List aE} {d : List Int} (h : Good t l d) {r p : Int} (hm : fU t r p = false) : iU t l r p = some ([], 1) := by
  unfold iU
  rw [nV h, hm, Option.bind_some]
  rfl
theorem aJk {t : aO} {l : List aE} {d : List Int} (h : Good t l d) {must : List (List Int)} (hd : cS t l = some (⟨d, must⟩, true)) (hM : MustIs t must (eX d (Res l))) {r p : Nat} (hm : fU t r p = true) :
    iU t l r p = some (iL (aDu d must t r p), 0) := by
  obtain ⟨r', p', e1, e2, hr, hp⟩ := sT hm
  have e1 : r = r' := by omega
  subst e1
  unfold iU
  exact (aFx _ _ (fun dd => gG r p t dd BIG 0 []) (fun r2 => ([], r2)) (by rw [nV h, hm]; rfl) hd).trans (aLm h hM hr)
theorem aLc (t : aO) (l : List aE) (r p : Int) {o : List Int × Int} (h : iU t l r p = some o) (Q : List Int × Int → Prop) (hq : Q o) : pA t l r p Q := by
  unfold pA
  rcases oW t l with ⟨d, hg⟩ | ⟨e, he⟩
  · refine aFq hg fun won hW => ?_
    cases hm : fU t r p with
    | false =>
      rw [aLa hg hm] at h; cases h
      exact hq
    | true =>
      obtain ⟨r', p', rfl, rfl, hr, hp⟩ := sT hm
      obtain ⟨must, hd, hM⟩ := mR hg
      rw [aJk hg hd hM hm] at h; cases h
      simp only [cond_true, decide_true, Bool.not_true, cond_false]
      exact ⟨_, rfl, aKh hg hM hW hr hq⟩
  · rw [aLb he] at h; cases h
    refine aHw he ?_
    simp only [he.ne, Bool.not_false, cond_true]
    exact hq
end Go.Am
