/- Layer 7, plain: May, Left, Reached and Meet of the program and of the reference. -/
import Derived.Test.YtenffgkkeafnpaaBkSh
import Derived.Test.YtenffgkkeafnpaaBrPlain15
namespace Go.Am

/-! Sorted. -/
theorem xZ (l : List Int) : Srt (iI l) := aHo l
theorem qY (l : List Int) : (iI l).Perm l := List.mergeSort_perm l _
theorem zW {l m : List Int} (h1 : Srt m) (h2 : m.Perm l) : m = iI l := aJd h1 (xZ l) (h2.trans (qY l).symm)
theorem aKs (a0 : Int → List Int → Option (List Int)) (l0 : List Int) (i : Int) {l : List Int} : ∀ (n k fuel : Nat) (out : List Int), k = n → SinkI l out k → k < fuel → out.length ≤ 1000 → gF a0 l0 i fuel k out = kW a0 l0 i (iI l) := by
  intro n
  induction n with
  | zero =>
    intro k fuel out hn hS hf hl
    subst hn
    cases fuel with
    | zero => omega
    | succ fuel =>
      obtain ⟨h1, h2⟩ := hS.done (.inl rfl)
      simp only [gF, show decide ((0 : Int) < ((0 : Nat) : Int)) = false by decide, cond_false, Option.bind_some, zW h1 h2]
  | succ n ih =>
    intro k fuel out hn hS hf hl
    subst hn
    cases fuel with
    | zero => omega
    | succ fuel =>
      have hk := hS.lt
      have hk1 : n < out.length := by omega
      have hlt : decide ((0 : Int) < ((n + 1 : Nat) : Int)) = true := decide_eq_true (by omega)
      have hp : w64 (((n + 1 : Nat) : Int) - 1) = (n : Int) := by rw [fK (by omega) (by omega)]; omega
      simp only [gF, hlt, cond_true, hp, cP hk, cP hk1, Option.bind_some]
      rw [← bY hk 0, ← bY hk1 0]
      by_cases hc : out.getD (n + 1) 0 < out.getD n 0
      · have hN := hS.next (by omega) hc
        have e : ((n + 1 : Nat) : Int).toNat = n + 1 := by omega
        have e2 : ((n : Nat) : Int).toNat = n := by omega
        have hk2 : n < (out.set (n + 1) (out.getD n 0)).length := by rw [List.length_set]; exact hk1
        simp only [hc, decide_true, cond_true, e, e2, cP hk2, Option.bind_some]
        exact ih n fuel _ rfl hN (by omega) (by simp; omega)
      · simp only [hc, decide_false, cond_false]
        obtain ⟨h1, h2⟩ := hS.done (.inr (by simp only [Nat.add_sub_cancel]; omega))
        rw [zW h1 h2]
theorem aHn (l : List Int) (hl : l.length ≤ 900) : kU l = some (iI l) := by
  unfold kU
  have := fP (S := List Int) (fun k i out => fG l k i out) l.length (fun _ _ => some (iI l)) (fun i out => out = iI (l.take i)) ?_ ?_ BIG [] (dD (by omega)) (by simp [iI])
  · exact this
  · rintro k i out hi rfl ih
    have hlen : (iI (l.take i)).length = i := by rw [(qY _).length_eq]; simp; omega
    simp only [fG, Int.ofNat_lt, hi, decide_true, cond_true, cP hi, Option.bind_some]
    rw [iR (by simp; omega), Option.bind_some]
    have e : w64 (((iI (l.take i) ++ [l[i]]).length : Int) - 1) = (((iI (l.take i)).length : Nat) : Int) := by
      rw [List.length_append, List.length_singleton, fK (by omega) (by omega)]; omega
    rw [e, aKs _ l i (iI (l.take i)).length _ BIG _ rfl (SinkI.start (xZ _) l[i]) (dD (by omega)) (by simp; omega)]
    unfold kW nI
    rw [cN (show i < 9223372036854775807 by omega)]
    refine ih _ ?_
    rw [List.take_succ_eq_append_getElem hi]
    exact zW (xZ _) ((qY _).trans ((qY (l.take i)).append_right _))
  · rintro k out rfl
    have hlt : decide ((l.length : Int) < (l.length : Int)) = false := decide_eq_false (by omega)
    simp only [fG, hlt, cond_false, nH, List.take_length]

/-! How far. -/
section
variable {t : aO} (ht : TreeOK t) {d : List Int} (hD : DOK t d) {must : List (List Int)} {P : kO} (hM : MustIs t must P) {won : List (aB × Int)} (hW : WonIs won P)
include ht hD hM
theorem vX {a : Nat} (ha : a < d.length) : iG t ⟨d, must⟩ a = some (iB d must a t : Int) := by
  have h1 := ht.r1
  have h5 := ht.r5
  unfold iG
  refine sV (fun k i => gZ a t ⟨d, must⟩ k i) t.Rounds.toNat (aDk d must a) (fun i => some (i : Int)) (fun k i hi => ?_) (fun k => ?_) BIG (dD (by omega))
  · have hlt : decide ((i : Int) < t.Rounds) = true := decide_eq_true (by omega)
    have hw : w64 ((i : Int) + 1) = ((i + 1 : Nat) : Int) := cN (by omega)
    have hu : IntKind.u64.wrap ((i + 1 : Nat) : Int) = ((i + 1 : Nat) : Int) := mZ (by omega) (by omega)
    have hch : chk (decide (0 ≤ ((i + 1 : Nat) : Int))) = some () := by unfold chk; rw [decide_eq_true (by omega)]; rfl
    have hmin : min ((i + 1 : Nat) : Int).toNat 64 = i + 1 := by omega
    have hml := hM.len
    have hrl := hM.row i hi
    have hpin := pB ht (hD.len ▸ ha) hi
    have hql : i < must.length := by omega
    have hi1 : idx must (i : Int) = some (must.getD i []) := by rw [cP hql, bY hql]
    have hi2 : idx (must.getD i []) ((a / 2 ^ (i + 1) : Nat) : Int) = some (mat must i (a / 2 ^ (i + 1))) := by
      have hlt' : a / 2 ^ (i + 1) < (must.getD i []).length := by omega
      rw [cP hlt']; exact congrArg some (bY hlt' (-2)).symm
    simp only [gZ, hlt, cond_true, hw, hu, hch, hmin, pY, Option.bind_some, hi1, hi2, cP ha, rQ, lZ]
    rw [← bY ha 0]
    unfold aDk
    cases decide (mat must i (a / 2 ^ (i + 1)) = -2) <;> cases decide (mat must i (a / 2 ^ (i + 1)) = d.getD a 0) <;> rfl
  · have hlt : decide (((t.Rounds.toNat : Nat) : Int) < t.Rounds) = false := decide_eq_false (by omega)
    simp only [gZ, hlt, cond_false, Option.bind_some, lZ]
theorem aIk {a : Nat} (ha : a < d.length) : lF t ⟨d, must⟩ a = some (aDy d must a t : Int) := by
  have h1 := ht.r1
  have h5 := ht.r5
  unfold lF
  refine sV (fun k i => gO a t ⟨d, must⟩ k i) t.Rounds.toNat (aDj d must a) (fun i => some (i : Int)) (fun k i hi => ?_) (fun k => ?_) BIG (dD (by omega))
  · have hlt : decide ((i : Int) < t.Rounds) = true := decide_eq_true (by omega)
    have hw : w64 ((i : Int) + 1) = ((i + 1 : Nat) : Int) := cN (by omega)
    have hu : IntKind.u64.wrap ((i + 1 : Nat) : Int) = ((i + 1 : Nat) : Int) := mZ (by omega) (by omega)
    have hch : chk (decide (0 ≤ ((i + 1 : Nat) : Int))) = some () := by unfold chk; rw [decide_eq_true (by omega)]; rfl
    have hmin : min ((i + 1 : Nat) : Int).toNat 64 = i + 1 := by omega
    have hml := hM.len
    have hrl := hM.row i hi
    have hpin := pB ht (hD.len ▸ ha) hi
    have hql : i < must.length := by omega
    have hi1 : idx must (i : Int) = some (must.getD i []) := by rw [cP hql, bY hql]
    have hi2 : idx (must.getD i []) ((a / 2 ^ (i + 1) : Nat) : Int) = some (mat must i (a / 2 ^ (i + 1))) := by
      have hlt' : a / 2 ^ (i + 1) < (must.getD i []).length := by omega
      rw [cP hlt']; exact congrArg some (bY hlt' (-2)).symm
    simp only [gO, hlt, cond_true, hw, hu, hch, hmin, pY, Option.bind_some, hi1, hi2, cP ha, lO]
    rw [← bY ha 0]
    unfold aDj
    cases decide (mat must i (a / 2 ^ (i + 1)) = d.getD a 0) <;> rfl
  · have hlt : decide (((t.Rounds.toNat : Nat) : Int) < t.Rounds) = false := decide_eq_false (by omega)
    simp only [gO, hlt, cond_false, Option.bind_some, lO]
include hW
theorem xA {a : Nat} (ha : a < d.length) : gY ⟨t, d, won⟩ a = some (iB d must a t : Int) := by
  have h1 := ht.r1
  have h5 := ht.r5
  have e : t.Rounds = ((t.Rounds.toNat : Nat) : Int) := by omega
  unfold gY
  refine sV (fun k i => gL ⟨t, d, won⟩ a t.Rounds k i) t.Rounds.toNat (aDk d must a) (fun i => some (i : Int)) (fun k i hi => ?_) (fun k => ?_) BIG (dD (by omega))
  · have hlt : decide ((i : Int) < t.Rounds) = true := decide_eq_true (by omega)
    have hpin := pB ht (hD.len ▸ ha) hi
    have hh := vT hW hM hi hpin
    simp only [gL, hlt, cond_true, tZ (show i ≤ 5 by omega), Option.bind_some, cN (show i < 9223372036854775807 by omega), cP ha]
    have hcell : cell a i = ⟨(i : Int), ((a / 2 ^ (i + 1) : Nat) : Int)⟩ := rfl
    rw [← bY ha 0, hcell, hh]
    unfold aDk
    by_cases h2 : mat must i (a / 2 ^ (i + 1)) = -2
    · simp only [h2, decide_true, Bool.not_true, cond_false, Option.bind_some, Bool.false_and]
    · simp only [h2, decide_false, Bool.not_false, cond_true, Option.bind_some, Bool.true_and, vS hW hM hi hpin h2]
  · have hlt : decide (((t.Rounds.toNat : Nat) : Int) < t.Rounds) = false := decide_eq_false (by omega)
    simp only [gL, hlt, cond_false, nX]
    rw [← e]
theorem aMc {a : Nat} (ha : a < d.length) : lD ⟨t, d, won⟩ a = some (aDy d must a t : Int) := by
  have h1 := ht.r1
  have h5 := ht.r5
  have e : t.Rounds = ((t.Rounds.toNat : Nat) : Int) := by omega
  have hrng := hD.rng a ha
  unfold lD
  refine sV (fun k i => gM ⟨t, d, won⟩ a t.Rounds k i) t.Rounds.toNat (aDj d must a) (fun i => some (i : Int)) (fun k i hi => ?_) (fun k => ?_) BIG (dD (by omega))
  · have hlt : decide ((i : Int) < t.Rounds) = true := decide_eq_true (by omega)
    have hpin := pB ht (hD.len ▸ ha) hi
    have hh := vT hW hM hi hpin
    simp only [gM, hlt, cond_true, tZ (show i ≤ 5 by omega), Option.bind_some, cN (show i < 9223372036854775807 by omega), cP ha]
    have hcell : cell a i = ⟨(i : Int), ((a / 2 ^ (i + 1) : Nat) : Int)⟩ := rfl
    rw [← bY ha 0, hcell, hh]
    unfold aDj
    by_cases h2 : mat must i (a / 2 ^ (i + 1)) = -2
    · have h3 : decide (mat must i (a / 2 ^ (i + 1)) = d.getD a 0) = false := decide_eq_false (by omega)
      simp only [h2] at h3
      simp only [h2, h3, decide_true, Bool.not_true, Bool.not_false, cond_true, Option.bind_some]
    · simp only [h2, decide_false, Bool.not_false, Bool.not_true, cond_false, Option.bind_some, vS hW hM hi hpin h2]
  · have hlt : decide (((t.Rounds.toNat : Nat) : Int) < t.Rounds) = false := decide_eq_false (by omega)
    simp only [gM, hlt, cond_false, nY]
    rw [← e]
end

/-! May. -/
def xL (d : List Int) (must : List (List Int)) (t : aO) (r p a : Nat) : Bool := !decide (d.getD a 0 = -1) && decide (a / 2 ^ (r + 1) = p) && decide (r < iB d must a t)
def tK (d : List Int) (must : List (List Int)) (t : aO) (r p n : Nat) : List Int := ((List.range n).filter (xL d must t r p)).map (d.getD · 0)
def zP (d : List Int) (must : List (List Int)) (t : aO) (r p : Nat) : List Int := tK d must t r p d.length
theorem aCi (d : List Int) (must : List (List Int)) (t : aO) (r p n : Nat) : tK d must t r p (n + 1) = tK d must t r p n ++ (if xL d must t r p n = true then [d.getD n 0] else []) := by
  unfold tK
  rw [List.range_succ, List.filter_append, List.map_append]
  congr 1
  simp only [List.filter_cons, List.filter_nil]
  split <;> rfl
theorem tL (d : List Int) (must : List (List Int)) (t : aO) (r p n : Nat) : (tK d must t r p n).length ≤ n := by
  have := List.length_filter_le (xL d must t r p) (List.range n)
  simpa [tK] using this
section
variable {t : aO} {l : List aG} {d : List Int} (hg : Good t l d) {must : List (List Int)} (hd : dA t l = some (⟨d, must⟩, true)) (hM : MustIs t must (fO d (Res l)))
include hg hM
theorem aLk {r p : Nat} (hr : r < t.Rounds.toNat) : eX r p t ⟨d, must⟩ BIG 0 [] = some (iI (zP d must t r p), 0) := by
  have ht := hg.ht
  have hD := hg.dok
  have h5 := ht.r5
  have h32 := ht.len32
  have hlen := hD.len
  have := fP (S := List Int) (fun k s out => eX r p t ⟨d, must⟩ k s out) d.length (fun _ _ => some (iI (zP d must t r p), 0)) (fun s out => out = tK d must t r p s) ?_ ?_ BIG [] (dD (by omega)) (by simp [tK])
  · exact this
  · rintro k s out hs rfl ih
    have hml := tL d must t r p s
    have hw : w64 ((r : Int) + 1) = ((r + 1 : Nat) : Int) := cN (by omega)
    have hu : IntKind.u64.wrap ((r + 1 : Nat) : Int) = ((r + 1 : Nat) : Int) := mZ (by omega) (by omega)
    have hch : chk (decide (0 ≤ ((r + 1 : Nat) : Int))) = some () := by unfold chk; rw [decide_eq_true (by omega)]; rfl
    have hmin : min ((r + 1 : Nat) : Int).toNat 64 = r + 1 := by omega
    have hst := aCi d must t r p s
    have hdp : decide (((s / 2 ^ (r + 1) : Nat) : Int) = (p : Int)) = decide (s / 2 ^ (r + 1) = p) := by rw [Bool.eq_iff_iff]; simp only [decide_eq_true_eq]; omega
    have hdm : decide ((r : Int) < (iB d must s t : Int)) = decide (r < iB d must s t) := by rw [Bool.eq_iff_iff]; simp only [decide_eq_true_eq]; omega
    simp only [eX, Int.ofNat_lt, hs, decide_true, cond_true, cP hs, Option.bind_some, hw, hu, hch, hmin, pY, hdp, jA, vX ht hD hM hs, hdm, cN (show s < 9223372036854775807 by omega)]
    rw [← bY hs 0]
    have e : (!decide (d.getD s 0 = -1) && decide (s / 2 ^ (r + 1) = p) && decide (r < iB d must s t)) = xL d must t r p s := rfl
    rw [e]
    cases hb : xL d must t r p s with
    | true =>
      rw [hb, if_pos rfl] at hst
      simp only [cond_true]
      rw [iR (by simp; omega), Option.bind_some]
      exact ih _ hst.symm
    | false =>
      rw [hb] at hst
      simp only [cond_false]
      exact ih _ (by rw [hst]; simp)
  · rintro k out rfl
    have hlt : decide ((d.length : Int) < (d.length : Int)) = false := decide_eq_false (by omega)
    have hml := tL d must t r p d.length
    simp only [eX, hlt, cond_false, pG, aHn _ (show (tK d must t r p d.length).length ≤ 900 by omega), Option.bind_some]
    rfl
theorem aKh {won : List (aB × Int)} (hW : WonIs won (fO d (Res l))) {r p : Nat} (hr : r < t.Rounds.toNat) {Q : List Int × Int → Prop} (hq : Q (iI (zP d must t r p), 0)) :
    iA Q r (some ⟨t, d, won⟩) d d.length ⟨r, p⟩ BIG 0 [] := by
  have ht := hg.ht
  have hD := hg.dok
  have h5 := ht.r5
  have h32 := ht.len32
  have hlen := hD.len
  refine qH (S := List Int) (fun k s out => iA Q r (some ⟨t, d, won⟩) d d.length ⟨r, p⟩ k s out) d.length (fun x => x) (fun s out => out = tK d must t r p s ∧ s ≤ d.length) ?_ ?_ BIG 0 [] (dD (by omega)) ⟨by simp [tK], by omega⟩
  · rintro k s out hs ⟨rfl, hsl⟩ ih
    have hml := tL d must t r p s
    have hst := aCi d must t r p s
    have hdm : decide ((r : Int) < (iB d must s t : Int)) = decide (r < iB d must s t) := by rw [Bool.eq_iff_iff]; simp only [decide_eq_true_eq]; omega
    have hdc : decide (cell s r = (⟨r, p⟩ : aB)) = decide (s / 2 ^ (r + 1) = p) := by
      rw [Bool.eq_iff_iff]; simp only [decide_eq_true_eq, cell, aB.mk.injEq, true_and]; omega
    simp only [iA, Int.ofNat_lt, hs, decide_true, cond_true, cP hs, tZ (show r ≤ 5 by omega), Option.bind_some, xA ht hD hM hW hs, hdm, hdc, jA, cN (show s < 9223372036854775807 by omega)]
    refine ⟨_, rfl, _, rfl, _, rfl, xL d must t r p s, ?_, ?_⟩
    · rw [← bY hs 0]
      unfold xL
      cases (!decide (d.getD s 0 = -1) && decide (s / 2 ^ (r + 1) = p)) with
      | false => rfl
      | true => simp only [cond_true, xA ht hD hM hW hs, Option.bind_some, hdm, Bool.true_and]
    rw [← bY hs 0]
    cases hb : xL d must t r p s with
    | true =>
      rw [hb, if_pos rfl] at hst
      simp only [cond_true]
      exact ⟨_, iR (by simp; omega), ih _ ⟨hst.symm, hs⟩⟩
    | false =>
      rw [hb] at hst
      simp only [cond_false]
      exact ih _ ⟨by rw [hst]; simp, hs⟩
  · rintro k s out hs ⟨rfl, hsl⟩
    have : s = d.length := by omega
    subst this
    have hlt : decide ((d.length : Int) < (d.length : Int)) = false := decide_eq_false (by omega)
    have hml := tL d must t r p d.length
    simp only [iA, hlt, cond_false, rH]
    refine ⟨iI (zP d must t r p), ?_, hq⟩
    unfold slices_Sort_int
    rw [if_pos (by omega)]; rfl
end
theorem aGa {α : Type} (A : Option Int) (B : Option (aR × Bool)) (F : aR → Option α) (z : Int → α) {d : aR} (hA : A = some 0) (hB : B = some (d, true)) :
    (A.bind fun r2 => bif !decide (r2 = 0) then some (z r2) else (B.bind fun r3 => F r3.1)) = F d := by subst hA; subst hB; rfl
theorem aFs {t : aO} {l : List aG} {e : Int} (h : Stat t l e) (r p : Int) : fB t l r p = some ([], e) := by
  unfold fB
  rw [uP h, Option.bind_some]
  simp only [h.ne, Bool.not_false, cond_true]
theorem aFr {t : aO} {l : List aG} {d : List Int} (h : Good t l d) {r p : Int} (hm : fY t r p = false) : fB t l r p = some ([], 1) := by
  unfold fB
  rw [oC h, hm, Option.bind_some]
  rfl
theorem aDb {t : aO} {l : List aG} {d : List Int} (h : Good t l d) {must : List (List Int)} (hd : dA t l = some (⟨d, must⟩, true)) (hM : MustIs t must (fO d (Res l))) {r p : Nat} (hm : fY t r p = true) :
    fB t l r p = some (iI (zP d must t r p), 0) := by
  obtain ⟨r', p', e1, e2, hr, hp⟩ := pD hm
  have e1 : r = r' := by omega
  subst e1
  unfold fB
  exact (aGa _ _ (fun dd => eX r p t dd BIG 0 []) (fun r2 => ([], r2)) (by rw [oC h, hm]; rfl) hd).trans (aLk h hM hr)
theorem aLd (t : aO) (l : List aG) (r p : Int) {o : List Int × Int} (h : fB t l r p = some o) (Q : List Int × Int → Prop) (hq : Q o) : pK t l r p Q := by
  unfold pK
  rcases jY t l with ⟨d, hg⟩ | ⟨e, he⟩
  · refine aFt hg fun won hW => ?_
    cases hm : fY t r p with
    | false =>
      rw [aFr hg hm] at h; cases h
      exact hq
    | true =>
      obtain ⟨r', p', rfl, rfl, hr, hp⟩ := pD hm
      obtain ⟨must, hd, hM⟩ := kC hg
      rw [aDb hg hd hM hm] at h; cases h
      simp only [cond_true, decide_true, Bool.not_true, cond_false]
      exact ⟨_, rfl, aKh hg hM hW hr hq⟩
  · rw [aFs he] at h; cases h
    refine aHw he ?_
    simp only [he.ne, Bool.not_false, cond_true]
    exact hq
end Go.Am
