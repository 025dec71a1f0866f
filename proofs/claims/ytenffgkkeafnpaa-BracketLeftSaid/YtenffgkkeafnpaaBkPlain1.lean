/- Layer 7, plain: May, Left, Reached and Meet of the program and of the reference. -/
import Derived.Test.YtenffgkkeafnpaaBkSh
import Derived.Test.YtenffgkkeafnpaaBrPlain15
namespace Go.Am

/-! Sorted. -/
theorem xW (l : List Int) : Srt (iG l) := aHm l
theorem sY (l : List Int) : (iG l).Perm l := List.mergeSort_perm l _
theorem zT {l m : List Int} (h1 : Srt m) (h2 : m.Perm l) : m = iG l := aJf h1 (xW l) (h2.trans (sY l).symm)
theorem aKp (a0 : Int → List Int → Option (List Int)) (l0 : List Int) (i : Int) {l : List Int} : ∀ (n k fuel : Nat) (out : List Int), k = n → SinkI l out k → k < fuel → out.length ≤ 1000 → jC a0 l0 i fuel k out = nE a0 l0 i (iG l) := by
  intro n
  induction n with
  | zero =>
    intro k fuel out hn hS hf hl
    subst hn
    cases fuel with
    | zero => omega
    | succ fuel =>
      obtain ⟨h1, h2⟩ := hS.done (.inl rfl)
      simp only [jC, show decide ((0 : Int) < ((0 : Nat) : Int)) = false by decide, cond_false, Option.bind_some, zT h1 h2]
  | succ n ih =>
    intro k fuel out hn hS hf hl
    subst hn
    cases fuel with
    | zero => omega
    | succ fuel =>
      have hk := hS.lt
      have hk1 : n < out.length := by omega
      have hlt : decide ((0 : Int) < ((n + 1 : Nat) : Int)) = true := decide_eq_true (by omega)
      have hp : w64 (((n + 1 : Nat) : Int) - 1) = (n : Int) := by rw [eT (by omega) (by omega)]; omega
      simp only [jC, hlt, cond_true, hp, cK hk, cK hk1, Option.bind_some]
      rw [← bP hk 0, ← bP hk1 0]
      by_cases hc : out.getD (n + 1) 0 < out.getD n 0
      · have hN := hS.next (by omega) hc
        have e : ((n + 1 : Nat) : Int).toNat = n + 1 := by omega
        have e2 : ((n : Nat) : Int).toNat = n := by omega
        have hk2 : n < (out.set (n + 1) (out.getD n 0)).length := by rw [List.length_set]; exact hk1
        simp only [hc, decide_true, cond_true, e, e2, cK hk2, Option.bind_some]
        exact ih n fuel _ rfl hN (by omega) (by simp; omega)
      · simp only [hc, decide_false, cond_false]
        obtain ⟨h1, h2⟩ := hS.done (.inr (by simp only [Nat.add_sub_cancel]; omega))
        rw [zT h1 h2]
theorem aHl (l : List Int) (hl : l.length ≤ 900) : pA l = some (iG l) := by
  unfold pA
  have := eQ (S := List Int) (fun k i out => jB l k i out) l.length (fun _ _ => some (iG l)) (fun i out => out = iG (l.take i)) ?_ ?_ BIG [] (cW (by omega)) (by simp [iG])
  · exact this
  · rintro k i out hi rfl ih
    have hlen : (iG (l.take i)).length = i := by rw [(sY _).length_eq]; simp; omega
    simp only [jB, Int.ofNat_lt, hi, decide_true, cond_true, cK hi, Option.bind_some]
    rw [gB (by simp; omega), Option.bind_some]
    have e : w64 (((iG (l.take i) ++ [l[i]]).length : Int) - 1) = (((iG (l.take i)).length : Nat) : Int) := by
      rw [List.length_append, List.length_singleton, eT (by omega) (by omega)]; omega
    rw [e, aKp _ l i (iG (l.take i)).length _ BIG _ rfl (SinkI.start (xW _) l[i]) (cW (by omega)) (by simp; omega)]
    unfold nE qF
    rw [cI (show i < 9223372036854775807 by omega)]
    refine ih _ ?_
    rw [List.take_succ_eq_append_getElem hi]
    exact zT (xW _) ((sY _).trans ((sY (l.take i)).append_right _))
  · rintro k out rfl
    have hlt : decide ((l.length : Int) < (l.length : Int)) = false := decide_eq_false (by omega)
    simp only [jB, hlt, cond_false, qE, List.take_length]

/-! How far. -/
section
variable {t : aO} (ht : TreeOK t) {d : List Int} (hD : DOK t d) {must : List (List Int)} {P : kN} (hM : MustIs t must P) {won : List (aB × Int)} (hW : WonIs won P)
include ht hD hM
theorem aEd {a : Nat} (ha : a < d.length) : nY t ⟨d, must⟩ a = some (sX d must a t : Int) := by
  have h1 := ht.r1
  have h5 := ht.r5
  unfold nY
  refine sV (fun k i => kC a t ⟨d, must⟩ k i) t.Rounds.toNat (aDg d must a) (fun i => some (i : Int)) (fun k i hi => ?_) (fun k => ?_) BIG (cW (by omega))
  · have hlt : decide ((i : Int) < t.Rounds) = true := decide_eq_true (by omega)
    have hw : w64 ((i : Int) + 1) = ((i + 1 : Nat) : Int) := cI (by omega)
    have hu : IntKind.u64.wrap ((i + 1 : Nat) : Int) = ((i + 1 : Nat) : Int) := oS (by omega) (by omega)
    have hch : chk (decide (0 ≤ ((i + 1 : Nat) : Int))) = some () := by unfold chk; rw [decide_eq_true (by omega)]; rfl
    have hmin : min ((i + 1 : Nat) : Int).toNat 64 = i + 1 := by omega
    have hml := hM.len
    have hrl := hM.row i hi
    have hpin := nP ht (hD.len ▸ ha) hi
    have hql : i < must.length := by omega
    have hi1 : idx must (i : Int) = some (must.getD i []) := by rw [cK hql, bP hql]
    have hi2 : idx (must.getD i []) ((a / 2 ^ (i + 1) : Nat) : Int) = some (mat must i (a / 2 ^ (i + 1))) := by
      have hlt' : a / 2 ^ (i + 1) < (must.getD i []).length := by omega
      rw [cK hlt']; exact congrArg some (bP hlt' (-2)).symm
    simp only [kC, hlt, cond_true, hw, hu, hch, hmin, rB, Option.bind_some, hi1, hi2, cK ha, rH, oJ]
    rw [← bP ha 0]
    unfold aDg
    cases decide (mat must i (a / 2 ^ (i + 1)) = -2) <;> cases decide (mat must i (a / 2 ^ (i + 1)) = d.getD a 0) <;> rfl
  · have hlt : decide (((t.Rounds.toNat : Nat) : Int) < t.Rounds) = false := decide_eq_false (by omega)
    simp only [kC, hlt, cond_false, Option.bind_some, oJ]
theorem aIf {a : Nat} (ha : a < d.length) : pM t ⟨d, must⟩ a = some (aDz d must a t : Int) := by
  have h1 := ht.r1
  have h5 := ht.r5
  unfold pM
  refine sV (fun k i => jN a t ⟨d, must⟩ k i) t.Rounds.toNat (aDf d must a) (fun i => some (i : Int)) (fun k i hi => ?_) (fun k => ?_) BIG (cW (by omega))
  · have hlt : decide ((i : Int) < t.Rounds) = true := decide_eq_true (by omega)
    have hw : w64 ((i : Int) + 1) = ((i + 1 : Nat) : Int) := cI (by omega)
    have hu : IntKind.u64.wrap ((i + 1 : Nat) : Int) = ((i + 1 : Nat) : Int) := oS (by omega) (by omega)
    have hch : chk (decide (0 ≤ ((i + 1 : Nat) : Int))) = some () := by unfold chk; rw [decide_eq_true (by omega)]; rfl
    have hmin : min ((i + 1 : Nat) : Int).toNat 64 = i + 1 := by omega
    have hml := hM.len
    have hrl := hM.row i hi
    have hpin := nP ht (hD.len ▸ ha) hi
    have hql : i < must.length := by omega
    have hi1 : idx must (i : Int) = some (must.getD i []) := by rw [cK hql, bP hql]
    have hi2 : idx (must.getD i []) ((a / 2 ^ (i + 1) : Nat) : Int) = some (mat must i (a / 2 ^ (i + 1))) := by
      have hlt' : a / 2 ^ (i + 1) < (must.getD i []).length := by omega
      rw [cK hlt']; exact congrArg some (bP hlt' (-2)).symm
    simp only [jN, hlt, cond_true, hw, hu, hch, hmin, rB, Option.bind_some, hi1, hi2, cK ha, nU]
    rw [← bP ha 0]
    unfold aDf
    cases decide (mat must i (a / 2 ^ (i + 1)) = d.getD a 0) <;> rfl
  · have hlt : decide (((t.Rounds.toNat : Nat) : Int) < t.Rounds) = false := decide_eq_false (by omega)
    simp only [jN, hlt, cond_false, Option.bind_some, nU]
include hW
theorem aDh {a : Nat} (ha : a < d.length) : jO ⟨t, d, won⟩ a = some (sX d must a t : Int) := by
  have h1 := ht.r1
  have h5 := ht.r5
  have e : t.Rounds = ((t.Rounds.toNat : Nat) : Int) := by omega
  unfold jO
  refine sV (fun k i => gJ ⟨t, d, won⟩ a t.Rounds k i) t.Rounds.toNat (aDg d must a) (fun i => some (i : Int)) (fun k i hi => ?_) (fun k => ?_) BIG (cW (by omega))
  · have hlt : decide ((i : Int) < t.Rounds) = true := decide_eq_true (by omega)
    have hpin := nP ht (hD.len ▸ ha) hi
    have hh := tM hW hM hi hpin
    simp only [gJ, hlt, cond_true, aAv (show i ≤ 5 by omega), Option.bind_some, cI (show i < 9223372036854775807 by omega), cK ha]
    have hcell : cell a i = ⟨(i : Int), ((a / 2 ^ (i + 1) : Nat) : Int)⟩ := rfl
    rw [← bP ha 0, hcell, hh]
    unfold aDg
    by_cases h2 : mat must i (a / 2 ^ (i + 1)) = -2
    · simp only [h2, decide_true, Bool.not_true, cond_false, Option.bind_some, Bool.false_and]
    · simp only [h2, decide_false, Bool.not_false, cond_true, Option.bind_some, Bool.true_and, vS hW hM hi hpin h2]
  · have hlt : decide (((t.Rounds.toNat : Nat) : Int) < t.Rounds) = false := decide_eq_false (by omega)
    simp only [gJ, hlt, cond_false, nQ]
    rw [← e]
theorem aMj {a : Nat} (ha : a < d.length) : lC ⟨t, d, won⟩ a = some (aDz d must a t : Int) := by
  have h1 := ht.r1
  have h5 := ht.r5
  have e : t.Rounds = ((t.Rounds.toNat : Nat) : Int) := by omega
  have hrng := hD.rng a ha
  unfold lC
  refine sV (fun k i => gK ⟨t, d, won⟩ a t.Rounds k i) t.Rounds.toNat (aDf d must a) (fun i => some (i : Int)) (fun k i hi => ?_) (fun k => ?_) BIG (cW (by omega))
  · have hlt : decide ((i : Int) < t.Rounds) = true := decide_eq_true (by omega)
    have hpin := nP ht (hD.len ▸ ha) hi
    have hh := tM hW hM hi hpin
    simp only [gK, hlt, cond_true, aAv (show i ≤ 5 by omega), Option.bind_some, cI (show i < 9223372036854775807 by omega), cK ha]
    have hcell : cell a i = ⟨(i : Int), ((a / 2 ^ (i + 1) : Nat) : Int)⟩ := rfl
    rw [← bP ha 0, hcell, hh]
    unfold aDf
    by_cases h2 : mat must i (a / 2 ^ (i + 1)) = -2
    · have h3 : decide (mat must i (a / 2 ^ (i + 1)) = d.getD a 0) = false := decide_eq_false (by omega)
      simp only [h2] at h3
      simp only [h2, h3, decide_true, Bool.not_true, Bool.not_false, cond_true, Option.bind_some]
    · simp only [h2, decide_false, Bool.not_false, Bool.not_true, cond_false, Option.bind_some, vS hW hM hi hpin h2]
  · have hlt : decide (((t.Rounds.toNat : Nat) : Int) < t.Rounds) = false := decide_eq_false (by omega)
    simp only [gK, hlt, cond_false, nR]
    rw [← e]
end

/-! May. -/
def xH (d : List Int) (must : List (List Int)) (t : aO) (r p a : Nat) : Bool := !decide (d.getD a 0 = -1) && decide (a / 2 ^ (r + 1) = p) && decide (r < sX d must a t)
def tO (d : List Int) (must : List (List Int)) (t : aO) (r p n : Nat) : List Int := ((List.range n).filter (xH d must t r p)).map (d.getD · 0)
def aEc (d : List Int) (must : List (List Int)) (t : aO) (r p : Nat) : List Int := tO d must t r p d.length
theorem aCf (d : List Int) (must : List (List Int)) (t : aO) (r p n : Nat) : tO d must t r p (n + 1) = tO d must t r p n ++ (if xH d must t r p n = true then [d.getD n 0] else []) := by
  unfold tO
  rw [List.range_succ, List.filter_append, List.map_append]
  congr 1
  simp only [List.filter_cons, List.filter_nil]
  split <;> rfl
theorem vU (d : List Int) (must : List (List Int)) (t : aO) (r p n : Nat) : (tO d must t r p n).length ≤ n := by
  have := List.length_filter_le (xH d must t r p) (List.range n)
  simpa [tO] using this
section
variable {t : aO} {l : List aE} {d : List Int} (hg : Good t l d) {must : List (List Int)} (hd : cQ t l = some (⟨d, must⟩, true)) (hM : MustIs t must (eA d (Res l)))
include hg hM
theorem aLo {r p : Nat} (hr : r < t.Rounds.toNat) : gG r p t ⟨d, must⟩ BIG 0 [] = some (iG (aEc d must t r p), 0) := by
  have ht := hg.ht
  have hD := hg.dok
  have h5 := ht.r5
  have h32 := ht.len32
  have hlen := hD.len
  have := eQ (S := List Int) (fun k s out => gG r p t ⟨d, must⟩ k s out) d.length (fun _ _ => some (iG (aEc d must t r p), 0)) (fun s out => out = tO d must t r p s) ?_ ?_ BIG [] (cW (by omega)) (by simp [tO])
  · exact this
  · rintro k s out hs rfl ih
    have hml := vU d must t r p s
    have hw : w64 ((r : Int) + 1) = ((r + 1 : Nat) : Int) := cI (by omega)
    have hu : IntKind.u64.wrap ((r + 1 : Nat) : Int) = ((r + 1 : Nat) : Int) := oS (by omega) (by omega)
    have hch : chk (decide (0 ≤ ((r + 1 : Nat) : Int))) = some () := by unfold chk; rw [decide_eq_true (by omega)]; rfl
    have hmin : min ((r + 1 : Nat) : Int).toNat 64 = r + 1 := by omega
    have hst := aCf d must t r p s
    have hdp : decide (((s / 2 ^ (r + 1) : Nat) : Int) = (p : Int)) = decide (s / 2 ^ (r + 1) = p) := by rw [Bool.eq_iff_iff]; simp only [decide_eq_true_eq]; omega
    have hdm : decide ((r : Int) < (sX d must s t : Int)) = decide (r < sX d must s t) := by rw [Bool.eq_iff_iff]; simp only [decide_eq_true_eq]; omega
    simp only [gG, Int.ofNat_lt, hs, decide_true, cond_true, cK hs, Option.bind_some, hw, hu, hch, hmin, rB, hdp, fN, aEd ht hD hM hs, hdm, cI (show s < 9223372036854775807 by omega)]
    rw [← bP hs 0]
    have e : (!decide (d.getD s 0 = -1) && decide (s / 2 ^ (r + 1) = p) && decide (r < sX d must s t)) = xH d must t r p s := rfl
    rw [e]
    cases hb : xH d must t r p s with
    | true =>
      rw [hb, if_pos rfl] at hst
      simp only [cond_true]
      rw [gB (by simp; omega), Option.bind_some]
      exact ih _ hst.symm
    | false =>
      rw [hb] at hst
      simp only [cond_false]
      exact ih _ (by rw [hst]; simp)
  · rintro k out rfl
    have hlt : decide ((d.length : Int) < (d.length : Int)) = false := decide_eq_false (by omega)
    have hml := vU d must t r p d.length
    simp only [gG, hlt, cond_false, sP, aHl _ (show (tO d must t r p d.length).length ≤ 900 by omega), Option.bind_some]
    rfl
theorem aKh {won : List (aB × Int)} (hW : WonIs won (eA d (Res l))) {r p : Nat} (hr : r < t.Rounds.toNat) {Q : List Int × Int → Prop} (hq : Q (iG (aEc d must t r p), 0)) :
    gZ Q r (some ⟨t, d, won⟩) d d.length ⟨r, p⟩ BIG 0 [] := by
  have ht := hg.ht
  have hD := hg.dok
  have h5 := ht.r5
  have h32 := ht.len32
  have hlen := hD.len
  refine sA (S := List Int) (fun k s out => gZ Q r (some ⟨t, d, won⟩) d d.length ⟨r, p⟩ k s out) d.length (fun x => x) (fun s out => out = tO d must t r p s ∧ s ≤ d.length) ?_ ?_ BIG 0 [] (cW (by omega)) ⟨by simp [tO], by omega⟩
  · rintro k s out hs ⟨rfl, hsl⟩ ih
    have hml := vU d must t r p s
    have hst := aCf d must t r p s
    have hdm : decide ((r : Int) < (sX d must s t : Int)) = decide (r < sX d must s t) := by rw [Bool.eq_iff_iff]; simp only [decide_eq_true_eq]; omega
    have hdc : decide (cell s r = (⟨r, p⟩ : aB)) = decide (s / 2 ^ (r + 1) = p) := by
      rw [Bool.eq_iff_iff]; simp only [decide_eq_true_eq, cell, aB.mk.injEq, true_and]; omega
    simp only [gZ, Int.ofNat_lt, hs, decide_true, cond_true, cK hs, aAv (show r ≤ 5 by omega), Option.bind_some, aDh ht hD hM hW hs, hdm, hdc, fN, cI (show s < 9223372036854775807 by omega)]
    refine ⟨_, rfl, _, rfl, _, rfl, xH d must t r p s, ?_, ?_⟩
    · rw [← bP hs 0]
      unfold xH
      cases (!decide (d.getD s 0 = -1) && decide (s / 2 ^ (r + 1) = p)) with
      | false => rfl
      | true => simp only [cond_true, aDh ht hD hM hW hs, Option.bind_some, hdm, Bool.true_and]
    rw [← bP hs 0]
    cases hb : xH d must t r p s with
    | true =>
      rw [hb, if_pos rfl] at hst
      simp only [cond_true]
      exact ⟨_, gB (by simp; omega), ih _ ⟨hst.symm, hs⟩⟩
    | false =>
      rw [hb] at hst
      simp only [cond_false]
      exact ih _ ⟨by rw [hst]; simp, hs⟩
  · rintro k s out hs ⟨rfl, hsl⟩
    have : s = d.length := by omega
    subst this
    have hlt : decide ((d.length : Int) < (d.length : Int)) = false := decide_eq_false (by omega)
    have hml := vU d must t r p d.length
    simp only [gZ, hlt, cond_false, qZ]
    refine ⟨iG (aEc d must t r p), ?_, hq⟩
    unfold slices_Sort_int
    rw [if_pos (by omega)]; rfl
end
theorem aBq {α : Type} (A : Option Int) (B : Option (aQ × Bool)) (F : aQ → Option α) (z : Int → α) {d : aQ} (hA : A = some 0) (hB : B = some (d, true)) :
    (A.bind fun r2 => bif !decide (r2 = 0) then some (z r2) else (B.bind fun r3 => F r3.1)) = F d := by subst hA; subst hB; rfl
theorem aLe {t : aO} {l : List aE} {e : Int} (h : Stat t l e) (r p : Int) : iO t l r p = some ([], e) := by
  unfold iO
  rw [uS h, Option.bind_some]
  simp only [h.ne, Bool.not_false, cond_true]
theorem aLd {t : aO} {l : List aE} {d : List Int} (h : Good t l d) {r p : Int} (hm : fU t r p = false) : iO t l r p = some ([], 1) := by
  unfold iO
  rw [nX h, hm, Option.bind_some]
  rfl
theorem aJl {t : aO} {l : List aE} {d : List Int} (h : Good t l d) {must : List (List Int)} (hd : cQ t l = some (⟨d, must⟩, true)) (hM : MustIs t must (eA d (Res l))) {r p : Nat} (hm : fU t r p = true) :
    iO t l r p = some (iG (aEc d must t r p), 0) := by
  obtain ⟨r', p', e1, e2, hr, hp⟩ := sW hm
  have e1 : r = r' := by omega
  subst e1
  unfold iO
  exact (aBq _ _ (fun dd => gG r p t dd BIG 0 []) (fun r2 => ([], r2)) (by rw [nX h, hm]; rfl) hd).trans (aLo h hM hr)
theorem aLf (t : aO) (l : List aE) (r p : Int) {o : List Int × Int} (h : iO t l r p = some o) (Q : List Int × Int → Prop) (hq : Q o) : pB t l r p Q := by
  unfold pB
  rcases nH t l with ⟨d, hg⟩ | ⟨e, he⟩
  · refine aFq hg fun won hW => ?_
    cases hm : fU t r p with
    | false =>
      rw [aLd hg hm] at h; cases h
      exact hq
    | true =>
      obtain ⟨r', p', rfl, rfl, hr, hp⟩ := sW hm
      obtain ⟨must, hd, hM⟩ := lW hg
      rw [aJl hg hd hM hm] at h; cases h
      simp only [cond_true, decide_true, Bool.not_true, cond_false]
      exact ⟨_, rfl, aKh hg hM hW hr hq⟩
  · rw [aLe he] at h; cases h
    refine aHt he ?_
    simp only [he.ne, Bool.not_false, cond_true]
    exact hq
end Go.Am
