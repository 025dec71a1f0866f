/- Layer 7, plain: May, Left, Reached and Meet of the program and of the reference. -/
import Derived.Test.YtenffgkkeafnpaaBkSh
import Derived.Test.YtenffgkkeafnpaaBrPlain15
namespace Go.Am

/-! Sorted. -/
theorem xR (l : List Int) : Srt (iS l) := aHf l
theorem sO (l : List Int) : (iS l).Perm l := List.mergeSort_perm l _
theorem zG {l m : List Int} (h1 : Srt m) (h2 : m.Perm l) : m = iS l := aIr h1 (xR l) (h2.trans (sO l).symm)
theorem aKd (a0 : Int → List Int → Option (List Int)) (l0 : List Int) (i : Int) {l : List Int} : ∀ (n k fuel : Nat) (out : List Int), k = n → SinkI l out k → k < fuel → out.length ≤ 1000 → jM a0 l0 i fuel k out = nE a0 l0 i (iS l) := by
  intro n
  induction n with
  | zero =>
    intro k fuel out hn hS hf hl
    subst hn
    cases fuel with
    | zero => omega
    | succ fuel =>
      obtain ⟨h1, h2⟩ := hS.done (.inl rfl)
      simp only [jM, show decide ((0 : Int) < ((0 : Nat) : Int)) = false by decide, cond_false, Option.bind_some, zG h1 h2]
  | succ n ih =>
    intro k fuel out hn hS hf hl
    subst hn
    cases fuel with
    | zero => omega
    | succ fuel =>
      have hk := hS.lt
      have hk1 : n < out.length := by omega
      have hlt : decide ((0 : Int) < ((n + 1 : Nat) : Int)) = true := decide_eq_true (by omega)
      have hp : w64 (((n + 1 : Nat) : Int) - 1) = (n : Int) := by rw [eK (by omega) (by omega)]; omega
      simp only [jM, hlt, cond_true, hp, cL hk, cL hk1, Option.bind_some]
      rw [← bW hk 0, ← bW hk1 0]
      by_cases hc : out.getD (n + 1) 0 < out.getD n 0
      · have hN := hS.next (by omega) hc
        have e : ((n + 1 : Nat) : Int).toNat = n + 1 := by omega
        have e2 : ((n : Nat) : Int).toNat = n := by omega
        have hk2 : n < (out.set (n + 1) (out.getD n 0)).length := by rw [List.length_set]; exact hk1
        simp only [hc, decide_true, cond_true, e, e2, cL hk2, Option.bind_some]
        exact ih n fuel _ rfl hN (by omega) (by simp; omega)
      · simp only [hc, decide_false, cond_false]
        obtain ⟨h1, h2⟩ := hS.done (.inr (by simp only [Nat.add_sub_cancel]; omega))
        rw [zG h1 h2]
theorem aHe (l : List Int) (hl : l.length ≤ 900) : oW l = some (iS l) := by
  unfold oW
  have := fX (S := List Int) (fun k i out => jL l k i out) l.length (fun _ _ => some (iS l)) (fun i out => out = iS (l.take i)) ?_ ?_ BIG [] (cX (by omega)) (by simp [iS])
  · exact this
  · rintro k i out hi rfl ih
    have hlen : (iS (l.take i)).length = i := by rw [(sO _).length_eq]; simp; omega
    simp only [jL, Int.ofNat_lt, hi, decide_true, cond_true, cL hi, Option.bind_some]
    rw [iD (by simp; omega), Option.bind_some]
    have e : w64 (((iS (l.take i) ++ [l[i]]).length : Int) - 1) = (((iS (l.take i)).length : Nat) : Int) := by
      rw [List.length_append, List.length_singleton, eK (by omega) (by omega)]; omega
    rw [e, aKd _ l i (iS (l.take i)).length _ BIG _ rfl (SinkI.start (xR _) l[i]) (cX (by omega)) (by simp; omega)]
    unfold nE qD
    rw [cK (show i < 9223372036854775807 by omega)]
    refine ih _ ?_
    rw [List.take_succ_eq_append_getElem hi]
    exact zG (xR _) ((sO _).trans ((sO (l.take i)).append_right _))
  · rintro k out rfl
    have hlt : decide ((l.length : Int) < (l.length : Int)) = false := decide_eq_false (by omega)
    simp only [jL, hlt, cond_false, qC, List.take_length]

/-! How far. -/
section
variable {t : aP} (ht : TreeOK t) {d : List Int} (hD : DOK t d) {must : List (List Int)} {P : kH} (hM : MustIs t must P) {won : List (aB × Int)} (hW : WonIs won P)
include ht hD hM
theorem aDu {a : Nat} (ha : a < d.length) : nV t ⟨d, must⟩ a = some (sN d must a t : Int) := by
  have h1 := ht.r1
  have h5 := ht.r5
  unfold nV
  refine sM (fun k i => kK a t ⟨d, must⟩ k i) t.Rounds.toNat (aCw d must a) (fun i => some (i : Int)) (fun k i hi => ?_) (fun k => ?_) BIG (cX (by omega))
  · have hlt : decide ((i : Int) < t.Rounds) = true := decide_eq_true (by omega)
    have hw : w64 ((i : Int) + 1) = ((i + 1 : Nat) : Int) := cK (by omega)
    have hu : IntKind.u64.wrap ((i + 1 : Nat) : Int) = ((i + 1 : Nat) : Int) := oN (by omega) (by omega)
    have hch : chk (decide (0 ≤ ((i + 1 : Nat) : Int))) = some () := by unfold chk; rw [decide_eq_true (by omega)]; rfl
    have hmin : min ((i + 1 : Nat) : Int).toNat 64 = i + 1 := by omega
    have hml := hM.len
    have hrl := hM.row i hi
    have hpin := nM ht (hD.len ▸ ha) hi
    have hql : i < must.length := by omega
    have hi1 : idx must (i : Int) = some (must.getD i []) := by rw [cL hql, bW hql]
    have hi2 : idx (must.getD i []) ((a / 2 ^ (i + 1) : Nat) : Int) = some (mat must i (a / 2 ^ (i + 1))) := by
      have hlt' : a / 2 ^ (i + 1) < (must.getD i []).length := by omega
      rw [cL hlt']; exact congrArg some (bW hlt' (-2)).symm
    simp only [kK, hlt, cond_true, hw, hu, hch, hmin, rB, Option.bind_some, hi1, hi2, cL ha, rH, oF]
    rw [← bW ha 0]
    unfold aCw
    cases decide (mat must i (a / 2 ^ (i + 1)) = -2) <;> cases decide (mat must i (a / 2 ^ (i + 1)) = d.getD a 0) <;> rfl
  · have hlt : decide (((t.Rounds.toNat : Nat) : Int) < t.Rounds) = false := decide_eq_false (by omega)
    simp only [kK, hlt, cond_false, Option.bind_some, oF]
theorem aHx {a : Nat} (ha : a < d.length) : pK t ⟨d, must⟩ a = some (aDo d must a t : Int) := by
  have h1 := ht.r1
  have h5 := ht.r5
  unfold pK
  refine sM (fun k i => jX a t ⟨d, must⟩ k i) t.Rounds.toNat (aCv d must a) (fun i => some (i : Int)) (fun k i hi => ?_) (fun k => ?_) BIG (cX (by omega))
  · have hlt : decide ((i : Int) < t.Rounds) = true := decide_eq_true (by omega)
    have hw : w64 ((i : Int) + 1) = ((i + 1 : Nat) : Int) := cK (by omega)
    have hu : IntKind.u64.wrap ((i + 1 : Nat) : Int) = ((i + 1 : Nat) : Int) := oN (by omega) (by omega)
    have hch : chk (decide (0 ≤ ((i + 1 : Nat) : Int))) = some () := by unfold chk; rw [decide_eq_true (by omega)]; rfl
    have hmin : min ((i + 1 : Nat) : Int).toNat 64 = i + 1 := by omega
    have hml := hM.len
    have hrl := hM.row i hi
    have hpin := nM ht (hD.len ▸ ha) hi
    have hql : i < must.length := by omega
    have hi1 : idx must (i : Int) = some (must.getD i []) := by rw [cL hql, bW hql]
    have hi2 : idx (must.getD i []) ((a / 2 ^ (i + 1) : Nat) : Int) = some (mat must i (a / 2 ^ (i + 1))) := by
      have hlt' : a / 2 ^ (i + 1) < (must.getD i []).length := by omega
      rw [cL hlt']; exact congrArg some (bW hlt' (-2)).symm
    simp only [jX, hlt, cond_true, hw, hu, hch, hmin, rB, Option.bind_some, hi1, hi2, cL ha, nR]
    rw [← bW ha 0]
    unfold aCv
    cases decide (mat must i (a / 2 ^ (i + 1)) = d.getD a 0) <;> rfl
  · have hlt : decide (((t.Rounds.toNat : Nat) : Int) < t.Rounds) = false := decide_eq_false (by omega)
    simp only [jX, hlt, cond_false, Option.bind_some, nR]
include hW
theorem aCx {a : Nat} (ha : a < d.length) : jY ⟨t, d, won⟩ a = some (sN d must a t : Int) := by
  have h1 := ht.r1
  have h5 := ht.r5
  have e : t.Rounds = ((t.Rounds.toNat : Nat) : Int) := by omega
  unfold jY
  refine sM (fun k i => gS ⟨t, d, won⟩ a t.Rounds k i) t.Rounds.toNat (aCw d must a) (fun i => some (i : Int)) (fun k i hi => ?_) (fun k => ?_) BIG (cX (by omega))
  · have hlt : decide ((i : Int) < t.Rounds) = true := decide_eq_true (by omega)
    have hpin := nM ht (hD.len ▸ ha) hi
    have hh := vP hW hM hi hpin
    simp only [gS, hlt, cond_true, aAh (show i ≤ 5 by omega), Option.bind_some, cK (show i < 9223372036854775807 by omega), cL ha]
    have hcell : cell a i = ⟨(i : Int), ((a / 2 ^ (i + 1) : Nat) : Int)⟩ := rfl
    rw [← bW ha 0, hcell, hh]
    unfold aCw
    by_cases h2 : mat must i (a / 2 ^ (i + 1)) = -2
    · simp only [h2, decide_true, Bool.not_true, cond_false, Option.bind_some, Bool.false_and]
    · simp only [h2, decide_false, Bool.not_false, cond_true, Option.bind_some, Bool.true_and, vO hW hM hi hpin h2]
  · have hlt : decide (((t.Rounds.toNat : Nat) : Int) < t.Rounds) = false := decide_eq_false (by omega)
    simp only [gS, hlt, cond_false, nO]
    rw [← e]
theorem aLy {a : Nat} (ha : a < d.length) : lK ⟨t, d, won⟩ a = some (aDo d must a t : Int) := by
  have h1 := ht.r1
  have h5 := ht.r5
  have e : t.Rounds = ((t.Rounds.toNat : Nat) : Int) := by omega
  have hrng := hD.rng a ha
  unfold lK
  refine sM (fun k i => gT ⟨t, d, won⟩ a t.Rounds k i) t.Rounds.toNat (aCv d must a) (fun i => some (i : Int)) (fun k i hi => ?_) (fun k => ?_) BIG (cX (by omega))
  · have hlt : decide ((i : Int) < t.Rounds) = true := decide_eq_true (by omega)
    have hpin := nM ht (hD.len ▸ ha) hi
    have hh := vP hW hM hi hpin
    simp only [gT, hlt, cond_true, aAh (show i ≤ 5 by omega), Option.bind_some, cK (show i < 9223372036854775807 by omega), cL ha]
    have hcell : cell a i = ⟨(i : Int), ((a / 2 ^ (i + 1) : Nat) : Int)⟩ := rfl
    rw [← bW ha 0, hcell, hh]
    unfold aCv
    by_cases h2 : mat must i (a / 2 ^ (i + 1)) = -2
    · have h3 : decide (mat must i (a / 2 ^ (i + 1)) = d.getD a 0) = false := decide_eq_false (by omega)
      simp only [h2] at h3
      simp only [h2, h3, decide_true, Bool.not_true, Bool.not_false, cond_true, Option.bind_some]
    · simp only [h2, decide_false, Bool.not_false, Bool.not_true, cond_false, Option.bind_some, vO hW hM hi hpin h2]
  · have hlt : decide (((t.Rounds.toNat : Nat) : Int) < t.Rounds) = false := decide_eq_false (by omega)
    simp only [gT, hlt, cond_false, nP]
    rw [← e]
end

/-! May. -/
def xD (d : List Int) (must : List (List Int)) (t : aP) (r p a : Nat) : Bool := !decide (d.getD a 0 = -1) && decide (a / 2 ^ (r + 1) = p) && decide (r < sN d must a t)
def tE (d : List Int) (must : List (List Int)) (t : aP) (r p n : Nat) : List Int := ((List.range n).filter (xD d must t r p)).map (d.getD · 0)
def aDt (d : List Int) (must : List (List Int)) (t : aP) (r p : Nat) : List Int := tE d must t r p d.length
theorem aBt (d : List Int) (must : List (List Int)) (t : aP) (r p n : Nat) : tE d must t r p (n + 1) = tE d must t r p n ++ (if xD d must t r p n = true then [d.getD n 0] else []) := by
  unfold tE
  rw [List.range_succ, List.filter_append, List.map_append]
  congr 1
  simp only [List.filter_cons, List.filter_nil]
  split <;> rfl
theorem vR (d : List Int) (must : List (List Int)) (t : aP) (r p n : Nat) : (tE d must t r p n).length ≤ n := by
  have := List.length_filter_le (xD d must t r p) (List.range n)
  simpa [tE] using this
section
variable {t : aP} {l : List aE} {d : List Int} (hg : Good t l d) {must : List (List Int)} (hd : cY t l = some (⟨d, must⟩, true)) (hM : MustIs t must (eB d (Res l)))
include hg hM
theorem aLd {r p : Nat} (hr : r < t.Rounds.toNat) : gP r p t ⟨d, must⟩ BIG 0 [] = some (iS (aDt d must t r p), 0) := by
  have ht := hg.ht
  have hD := hg.dok
  have h5 := ht.r5
  have h32 := ht.len32
  have hlen := hD.len
  have := fX (S := List Int) (fun k s out => gP r p t ⟨d, must⟩ k s out) d.length (fun _ _ => some (iS (aDt d must t r p), 0)) (fun s out => out = tE d must t r p s) ?_ ?_ BIG [] (cX (by omega)) (by simp [tE])
  · exact this
  · rintro k s out hs rfl ih
    have hml := vR d must t r p s
    have hw : w64 ((r : Int) + 1) = ((r + 1 : Nat) : Int) := cK (by omega)
    have hu : IntKind.u64.wrap ((r + 1 : Nat) : Int) = ((r + 1 : Nat) : Int) := oN (by omega) (by omega)
    have hch : chk (decide (0 ≤ ((r + 1 : Nat) : Int))) = some () := by unfold chk; rw [decide_eq_true (by omega)]; rfl
    have hmin : min ((r + 1 : Nat) : Int).toNat 64 = r + 1 := by omega
    have hst := aBt d must t r p s
    have hdp : decide (((s / 2 ^ (r + 1) : Nat) : Int) = (p : Int)) = decide (s / 2 ^ (r + 1) = p) := by rw [Bool.eq_iff_iff]; simp only [decide_eq_true_eq]; omega
    have hdm : decide ((r : Int) < (sN d must s t : Int)) = decide (r < sN d must s t) := by rw [Bool.eq_iff_iff]; simp only [decide_eq_true_eq]; omega
    simp only [gP, Int.ofNat_lt, hs, decide_true, cond_true, cL hs, Option.bind_some, hw, hu, hch, hmin, rB, hdp, iM, aDu ht hD hM hs, hdm, cK (show s < 9223372036854775807 by omega)]
    rw [← bW hs 0]
    have e : (!decide (d.getD s 0 = -1) && decide (s / 2 ^ (r + 1) = p) && decide (r < sN d must s t)) = xD d must t r p s := rfl
    rw [e]
    cases hb : xD d must t r p s with
    | true =>
      rw [hb, if_pos rfl] at hst
      simp only [cond_true]
      rw [iD (by simp; omega), Option.bind_some]
      exact ih _ hst.symm
    | false =>
      rw [hb] at hst
      simp only [cond_false]
      exact ih _ (by rw [hst]; simp)
  · rintro k out rfl
    have hlt : decide ((d.length : Int) < (d.length : Int)) = false := decide_eq_false (by omega)
    have hml := vR d must t r p d.length
    simp only [gP, hlt, cond_false, sF, aHe _ (show (tE d must t r p d.length).length ≤ 900 by omega), Option.bind_some]
    rfl
theorem aJu {won : List (aB × Int)} (hW : WonIs won (eB d (Res l))) {r p : Nat} (hr : r < t.Rounds.toNat) {Q : List Int × Int → Prop} (hq : Q (iS (aDt d must t r p), 0)) :
    iI Q r (some ⟨t, d, won⟩) d d.length ⟨r, p⟩ BIG 0 [] := by
  have ht := hg.ht
  have hD := hg.dok
  have h5 := ht.r5
  have h32 := ht.len32
  have hlen := hD.len
  refine pT (S := List Int) (fun k s out => iI Q r (some ⟨t, d, won⟩) d d.length ⟨r, p⟩ k s out) d.length (fun x => x) (fun s out => out = tE d must t r p s ∧ s ≤ d.length) ?_ ?_ BIG 0 [] (cX (by omega)) ⟨by simp [tE], by omega⟩
  · rintro k s out hs ⟨rfl, hsl⟩ ih
    have hml := vR d must t r p s
    have hst := aBt d must t r p s
    have hdm : decide ((r : Int) < (sN d must s t : Int)) = decide (r < sN d must s t) := by rw [Bool.eq_iff_iff]; simp only [decide_eq_true_eq]; omega
    have hdc : decide (cell s r = (⟨r, p⟩ : aB)) = decide (s / 2 ^ (r + 1) = p) := by
      rw [Bool.eq_iff_iff]; simp only [decide_eq_true_eq, cell, aB.mk.injEq, true_and]; omega
    simp only [iI, Int.ofNat_lt, hs, decide_true, cond_true, cL hs, aAh (show r ≤ 5 by omega), Option.bind_some, aCx ht hD hM hW hs, hdm, hdc, iM, cK (show s < 9223372036854775807 by omega)]
    refine ⟨_, rfl, _, rfl, _, rfl, xD d must t r p s, ?_, ?_⟩
    · rw [← bW hs 0]
      unfold xD
      cases (!decide (d.getD s 0 = -1) && decide (s / 2 ^ (r + 1) = p)) with
      | false => rfl
      | true => simp only [cond_true, aCx ht hD hM hW hs, Option.bind_some, hdm, Bool.true_and]
    rw [← bW hs 0]
    cases hb : xD d must t r p s with
    | true =>
      rw [hb, if_pos rfl] at hst
      simp only [cond_true]
      exact ⟨_, iD (by simp; omega), ih _ ⟨hst.symm, hs⟩⟩
    | false =>
      rw [hb] at hst
      simp only [cond_false]
      exact ih _ ⟨by rw [hst]; simp, hs⟩
  · rintro k s out hs ⟨rfl, hsl⟩
    have : s = d.length := by omega
    subst this
    have hlt : decide ((d.length : Int) < (d.length : Int)) = false := decide_eq_false (by omega)
    have hml := vR d must t r p d.length
    simp only [iI, hlt, cond_false, qX]
    refine ⟨iS (aDt d must t r p), ?_, hq⟩
    unfold slices_Sort_int
    rw [if_pos (by omega)]; rfl
end
theorem aFp {α : Type} (A : Option Int) (B : Option (aR × Bool)) (F : aR → Option α) (z : Int → α) {d : aR} (hA : A = some 0) (hB : B = some (d, true)) :
    (A.bind fun r2 => bif !decide (r2 = 0) then some (z r2) else (B.bind fun r3 => F r3.1)) = F d := by subst hA; subst hB; rfl
theorem aKu {t : aP} {l : List aE} {e : Int} (h : Stat t l e) (r p : Int) : iZ t l r p = some ([], e) := by
  unfold iZ
  rw [uO h, Option.bind_some]
  simp only [h.ne, Bool.not_false, cond_true]
theorem aKt {t : aP} {l : List aE} {d : List Int} (h : Good t l d) {r p : Int} (hm : fY t r p = false) : iZ t l r p = some ([], 1) := by
  unfold iZ
  rw [nU h, hm, Option.bind_some]
  rfl
theorem aIz {t : aP} {l : List aE} {d : List Int} (h : Good t l d) {must : List (List Int)} (hd : cY t l = some (⟨d, must⟩, true)) (hM : MustIs t must (eB d (Res l))) {r p : Nat} (hm : fY t r p = true) :
    iZ t l r p = some (iS (aDt d must t r p), 0) := by
  obtain ⟨r', p', e1, e2, hr, hp⟩ := qG hm
  have e1 : r = r' := by omega
  subst e1
  unfold iZ
  exact (aFp _ _ (fun dd => gP r p t dd BIG 0 []) (fun r2 => ([], r2)) (by rw [nU h, hm]; rfl) hd).trans (aLd h hM hr)
theorem aKv (t : aP) (l : List aE) (r p : Int) {o : List Int × Int} (h : iZ t l r p = some o) (Q : List Int × Int → Prop) (hq : Q o) : oX t l r p Q := by
  unfold oX
  rcases oS t l with ⟨d, hg⟩ | ⟨e, he⟩
  · refine aFi hg fun won hW => ?_
    cases hm : fY t r p with
    | false =>
      rw [aKt hg hm] at h; cases h
      exact hq
    | true =>
      obtain ⟨r', p', rfl, rfl, hr, hp⟩ := qG hm
      obtain ⟨must, hd, hM⟩ := mA hg
      rw [aIz hg hd hM hm] at h; cases h
      simp only [cond_true, decide_true, Bool.not_true, cond_false]
      exact ⟨_, rfl, aJu hg hM hW hr hq⟩
  · rw [aKu he] at h; cases h
    refine aHl he ?_
    simp only [he.ne, Bool.not_false, cond_true]
    exact hq
end Go.Am
