/- Layer 7, plain: May, Left, Reached and Meet of the program and of the reference. -/
import Derived.Test.YtenffgkkeafnpaaBkSh
import Derived.Test.YtenffgkkeafnpaaBrPlain15
namespace Go.Am

/-! Sorted. -/
theorem yI (l : List Int) : Srt (iP l) := aIc l
theorem tB (l : List Int) : (iP l).Perm l := List.mergeSort_perm l _
theorem aAj {l m : List Int} (h1 : Srt m) (h2 : m.Perm l) : m = iP l := aJq h1 (yI l) (h2.trans (tB l).symm)
theorem aLg (a0 : Int → List Int → Option (List Int)) (l0 : List Int) (i : Int) {l : List Int} : ∀ (n k fuel : Nat) (out : List Int), k = n → SinkI l out k → k < fuel → out.length ≤ 1000 → jK a0 l0 i fuel k out = nU a0 l0 i (iP l) := by
  intro n
  induction n with
  | zero =>
    intro k fuel out hn hS hf hl
    subst hn
    cases fuel with
    | zero => omega
    | succ fuel =>
      obtain ⟨h1, h2⟩ := hS.done (.inl rfl)
      simp only [jK, show decide ((0 : Int) < ((0 : Nat) : Int)) = false by decide, cond_false, Option.bind_some, aAj h1 h2]
  | succ n ih =>
    intro k fuel out hn hS hf hl
    subst hn
    cases fuel with
    | zero => omega
    | succ fuel =>
      have hk := hS.lt
      have hk1 : n < out.length := by omega
      have hlt : decide ((0 : Int) < ((n + 1 : Nat) : Int)) = true := decide_eq_true (by omega)
      have hp : w64 (((n + 1 : Nat) : Int) - 1) = (n : Int) := by rw [fG (by omega) (by omega)]; omega
      simp only [jK, hlt, cond_true, hp, cM hk, cM hk1, Option.bind_some]
      rw [← bV hk 0, ← bV hk1 0]
      by_cases hc : out.getD (n + 1) 0 < out.getD n 0
      · have hN := hS.next (by omega) hc
        have e : ((n + 1 : Nat) : Int).toNat = n + 1 := by omega
        have e2 : ((n : Nat) : Int).toNat = n := by omega
        have hk2 : n < (out.set (n + 1) (out.getD n 0)).length := by rw [List.length_set]; exact hk1
        simp only [hc, decide_true, cond_true, e, e2, cM hk2, Option.bind_some]
        exact ih n fuel _ rfl hN (by omega) (by simp; omega)
      · simp only [hc, decide_false, cond_false]
        obtain ⟨h1, h2⟩ := hS.done (.inr (by simp only [Nat.add_sub_cancel]; omega))
        rw [aAj h1 h2]
theorem aIb (l : List Int) (hl : l.length ≤ 900) : pO l = some (iP l) := by
  unfold pO
  have := fJ (S := List Int) (fun k i out => jJ l k i out) l.length (fun _ _ => some (iP l)) (fun i out => out = iP (l.take i)) ?_ ?_ BIG [] (cZ (by omega)) (by simp [iP])
  · exact this
  · rintro k i out hi rfl ih
    have hlen : (iP (l.take i)).length = i := by rw [(tB _).length_eq]; simp; omega
    simp only [jJ, Int.ofNat_lt, hi, decide_true, cond_true, cM hi, Option.bind_some]
    rw [iT (by simp; omega), Option.bind_some]
    have e : w64 (((iP (l.take i) ++ [l[i]]).length : Int) - 1) = (((iP (l.take i)).length : Nat) : Int) := by
      rw [List.length_append, List.length_singleton, fG (by omega) (by omega)]; omega
    rw [e, aLg _ l i (iP (l.take i)).length _ BIG _ rfl (SinkI.start (yI _) l[i]) (cZ (by omega)) (by simp; omega)]
    unfold nU qW
    rw [cJ (show i < 9223372036854775807 by omega)]
    refine ih _ ?_
    rw [List.take_succ_eq_append_getElem hi]
    exact aAj (yI _) ((tB _).trans ((tB (l.take i)).append_right _))
  · rintro k out rfl
    have hlt : decide ((l.length : Int) < (l.length : Int)) = false := decide_eq_false (by omega)
    simp only [jJ, hlt, cond_false, qV, List.take_length]

/-! How far. -/
section
variable {t : aO} (ht : TreeOK t) {d : List Int} (hD : DOK t d) {must : List (List Int)} {P : iN} (hM : MustIs t must P) {won : List (aB × Int)} (hW : WonIs won P)
include ht hD hM
theorem wI {a : Nat} (ha : a < d.length) : kZ t ⟨d, must⟩ a = some (fP d must a t : Int) := by
  have h1 := ht.r1
  have h5 := ht.r5
  unfold kZ
  refine sY (fun k i => kO a t ⟨d, must⟩ k i) t.Rounds.toNat (zM d must a) (fun i => some (i : Int)) (fun k i hi => ?_) (fun k => ?_) BIG (cZ (by omega))
  · have hlt : decide ((i : Int) < t.Rounds) = true := decide_eq_true (by omega)
    have hw : w64 ((i : Int) + 1) = ((i + 1 : Nat) : Int) := cJ (by omega)
    have hu : IntKind.u64.wrap ((i + 1 : Nat) : Int) = ((i + 1 : Nat) : Int) := kU (by omega) (by omega)
    have hch : chk (decide (0 ≤ ((i + 1 : Nat) : Int))) = some () := by unfold chk; rw [decide_eq_true (by omega)]; rfl
    have hmin : min ((i + 1 : Nat) : Int).toNat 64 = i + 1 := by omega
    have hml := hM.len
    have hrl := hM.row i hi
    have hpin := lS ht (hD.len ▸ ha) hi
    have hql : i < must.length := by omega
    have hi1 : idx must (i : Int) = some (must.getD i []) := by rw [cM hql, bV hql]
    have hi2 : idx (must.getD i []) ((a / 2 ^ (i + 1) : Nat) : Int) = some (mat must i (a / 2 ^ (i + 1))) := by
      have hlt' : a / 2 ^ (i + 1) < (must.getD i []).length := by omega
      rw [cM hlt']; exact congrArg some (bV hlt' (-2)).symm
    simp only [kO, hlt, cond_true, hw, hu, hch, hmin, mS, Option.bind_some, hi1, hi2, cM ha, lC, pC]
    rw [← bV ha 0]
    unfold zM
    cases decide (mat must i (a / 2 ^ (i + 1)) = -2) <;> cases decide (mat must i (a / 2 ^ (i + 1)) = d.getD a 0) <;> rfl
  · have hlt : decide (((t.Rounds.toNat : Nat) : Int) < t.Rounds) = false := decide_eq_false (by omega)
    simp only [kO, hlt, cond_false, Option.bind_some, pC]
theorem aIw {a : Nat} (ha : a < d.length) : qC t ⟨d, must⟩ a = some (aEj d must a t : Int) := by
  have h1 := ht.r1
  have h5 := ht.r5
  unfold qC
  refine sY (fun k i => kA a t ⟨d, must⟩ k i) t.Rounds.toNat (aDv d must a) (fun i => some (i : Int)) (fun k i hi => ?_) (fun k => ?_) BIG (cZ (by omega))
  · have hlt : decide ((i : Int) < t.Rounds) = true := decide_eq_true (by omega)
    have hw : w64 ((i : Int) + 1) = ((i + 1 : Nat) : Int) := cJ (by omega)
    have hu : IntKind.u64.wrap ((i + 1 : Nat) : Int) = ((i + 1 : Nat) : Int) := kU (by omega) (by omega)
    have hch : chk (decide (0 ≤ ((i + 1 : Nat) : Int))) = some () := by unfold chk; rw [decide_eq_true (by omega)]; rfl
    have hmin : min ((i + 1 : Nat) : Int).toNat 64 = i + 1 := by omega
    have hml := hM.len
    have hrl := hM.row i hi
    have hpin := lS ht (hD.len ▸ ha) hi
    have hql : i < must.length := by omega
    have hi1 : idx must (i : Int) = some (must.getD i []) := by rw [cM hql, bV hql]
    have hi2 : idx (must.getD i []) ((a / 2 ^ (i + 1) : Nat) : Int) = some (mat must i (a / 2 ^ (i + 1))) := by
      have hlt' : a / 2 ^ (i + 1) < (must.getD i []).length := by omega
      rw [cM hlt']; exact congrArg some (bV hlt' (-2)).symm
    simp only [kA, hlt, cond_true, hw, hu, hch, hmin, mS, Option.bind_some, hi1, hi2, cM ha, oN]
    rw [← bV ha 0]
    unfold aDv
    cases decide (mat must i (a / 2 ^ (i + 1)) = d.getD a 0) <;> rfl
  · have hlt : decide (((t.Rounds.toNat : Nat) : Int) < t.Rounds) = false := decide_eq_false (by omega)
    simp only [kA, hlt, cond_false, Option.bind_some, oN]
include hW
theorem xG {a : Nat} (ha : a < d.length) : gX ⟨t, d, won⟩ a = some (fP d must a t : Int) := by
  have h1 := ht.r1
  have h5 := ht.r5
  have e : t.Rounds = ((t.Rounds.toNat : Nat) : Int) := by omega
  unfold gX
  refine sY (fun k i => gM ⟨t, d, won⟩ a t.Rounds k i) t.Rounds.toNat (zM d must a) (fun i => some (i : Int)) (fun k i hi => ?_) (fun k => ?_) BIG (cZ (by omega))
  · have hlt : decide ((i : Int) < t.Rounds) = true := decide_eq_true (by omega)
    have hpin := lS ht (hD.len ▸ ha) hi
    have hh := aAa hW hM hi hpin
    simp only [gM, hlt, cond_true, uK (show i ≤ 5 by omega), Option.bind_some, cJ (show i < 9223372036854775807 by omega), cM ha]
    have hcell : cell a i = ⟨(i : Int), ((a / 2 ^ (i + 1) : Nat) : Int)⟩ := rfl
    rw [← bV ha 0, hcell, hh]
    unfold zM
    by_cases h2 : mat must i (a / 2 ^ (i + 1)) = -2
    · simp only [h2, decide_true, Bool.not_true, cond_false, Option.bind_some, Bool.false_and]
    · simp only [h2, decide_false, Bool.not_false, cond_true, Option.bind_some, Bool.true_and, zZ hW hM hi hpin h2]
  · have hlt : decide (((t.Rounds.toNat : Nat) : Int) < t.Rounds) = false := decide_eq_false (by omega)
    simp only [gM, hlt, cond_false, oJ]
    rw [← e]
theorem aNa {a : Nat} (ha : a < d.length) : lW ⟨t, d, won⟩ a = some (aEj d must a t : Int) := by
  have h1 := ht.r1
  have h5 := ht.r5
  have e : t.Rounds = ((t.Rounds.toNat : Nat) : Int) := by omega
  have hrng := hD.rng a ha
  unfold lW
  refine sY (fun k i => gN ⟨t, d, won⟩ a t.Rounds k i) t.Rounds.toNat (aDv d must a) (fun i => some (i : Int)) (fun k i hi => ?_) (fun k => ?_) BIG (cZ (by omega))
  · have hlt : decide ((i : Int) < t.Rounds) = true := decide_eq_true (by omega)
    have hpin := lS ht (hD.len ▸ ha) hi
    have hh := aAa hW hM hi hpin
    simp only [gN, hlt, cond_true, uK (show i ≤ 5 by omega), Option.bind_some, cJ (show i < 9223372036854775807 by omega), cM ha]
    have hcell : cell a i = ⟨(i : Int), ((a / 2 ^ (i + 1) : Nat) : Int)⟩ := rfl
    rw [← bV ha 0, hcell, hh]
    unfold aDv
    by_cases h2 : mat must i (a / 2 ^ (i + 1)) = -2
    · have h3 : decide (mat must i (a / 2 ^ (i + 1)) = d.getD a 0) = false := decide_eq_false (by omega)
      simp only [h2] at h3
      simp only [h2, h3, decide_true, Bool.not_true, Bool.not_false, cond_true, Option.bind_some]
    · simp only [h2, decide_false, Bool.not_false, Bool.not_true, cond_false, Option.bind_some, zZ hW hM hi hpin h2]
  · have hlt : decide (((t.Rounds.toNat : Nat) : Int) < t.Rounds) = false := decide_eq_false (by omega)
    simp only [gN, hlt, cond_false, oK]
    rw [← e]
end

/-! May. -/
def xS (d : List Int) (must : List (List Int)) (t : aO) (r p a : Nat) : Bool := !decide (d.getD a 0 = -1) && decide (a / 2 ^ (r + 1) = p) && decide (r < fP d must a t)
def tS (d : List Int) (must : List (List Int)) (t : aO) (r p n : Nat) : List Int := ((List.range n).filter (xS d must t r p)).map (d.getD · 0)
def aEn (d : List Int) (must : List (List Int)) (t : aO) (r p : Nat) : List Int := tS d must t r p d.length
theorem aCv (d : List Int) (must : List (List Int)) (t : aO) (r p n : Nat) : tS d must t r p (n + 1) = tS d must t r p n ++ (if xS d must t r p n = true then [d.getD n 0] else []) := by
  unfold tS
  rw [List.range_succ, List.filter_append, List.map_append]
  congr 1
  simp only [List.filter_cons, List.filter_nil]
  split <;> rfl
theorem wD (d : List Int) (must : List (List Int)) (t : aO) (r p n : Nat) : (tS d must t r p n).length ≤ n := by
  have := List.length_filter_le (xS d must t r p) (List.range n)
  simpa [tS] using this
section
variable {t : aO} {l : List aE} {d : List Int} (hg : Good t l d) {must : List (List Int)} (hd : dH t l = some (⟨d, must⟩, true)) (hM : MustIs t must (dN d (Res l)))
include hg hM
theorem aMe {r p : Nat} (hr : r < t.Rounds.toNat) : gK r p t ⟨d, must⟩ BIG 0 [] = some (iP (aEn d must t r p), 0) := by
  have ht := hg.ht
  have hD := hg.dok
  have h5 := ht.r5
  have h32 := ht.len32
  have hlen := hD.len
  have := fJ (S := List Int) (fun k s out => gK r p t ⟨d, must⟩ k s out) d.length (fun _ _ => some (iP (aEn d must t r p), 0)) (fun s out => out = tS d must t r p s) ?_ ?_ BIG [] (cZ (by omega)) (by simp [tS])
  · exact this
  · rintro k s out hs rfl ih
    have hml := wD d must t r p s
    have hw : w64 ((r : Int) + 1) = ((r + 1 : Nat) : Int) := cJ (by omega)
    have hu : IntKind.u64.wrap ((r + 1 : Nat) : Int) = ((r + 1 : Nat) : Int) := kU (by omega) (by omega)
    have hch : chk (decide (0 ≤ ((r + 1 : Nat) : Int))) = some () := by unfold chk; rw [decide_eq_true (by omega)]; rfl
    have hmin : min ((r + 1 : Nat) : Int).toNat 64 = r + 1 := by omega
    have hst := aCv d must t r p s
    have hdp : decide (((s / 2 ^ (r + 1) : Nat) : Int) = (p : Int)) = decide (s / 2 ^ (r + 1) = p) := by rw [Bool.eq_iff_iff]; simp only [decide_eq_true_eq]; omega
    have hdm : decide ((r : Int) < (fP d must s t : Int)) = decide (r < fP d must s t) := by rw [Bool.eq_iff_iff]; simp only [decide_eq_true_eq]; omega
    simp only [gK, Int.ofNat_lt, hs, decide_true, cond_true, cM hs, Option.bind_some, hw, hu, hch, hmin, mS, hdp, iG, wI ht hD hM hs, hdm, cJ (show s < 9223372036854775807 by omega)]
    rw [← bV hs 0]
    have e : (!decide (d.getD s 0 = -1) && decide (s / 2 ^ (r + 1) = p) && decide (r < fP d must s t)) = xS d must t r p s := rfl
    rw [e]
    cases hb : xS d must t r p s with
    | true =>
      rw [hb, if_pos rfl] at hst
      simp only [cond_true]
      rw [iT (by simp; omega), Option.bind_some]
      exact ih _ hst.symm
    | false =>
      rw [hb] at hst
      simp only [cond_false]
      exact ih _ (by rw [hst]; simp)
  · rintro k out rfl
    have hlt : decide ((d.length : Int) < (d.length : Int)) = false := decide_eq_false (by omega)
    have hml := wD d must t r p d.length
    simp only [gK, hlt, cond_false, sT, aIb _ (show (tS d must t r p d.length).length ≤ 900 by omega), Option.bind_some]
    rfl
theorem aKv {won : List (aB × Int)} (hW : WonIs won (dN d (Res l))) {r p : Nat} (hr : r < t.Rounds.toNat) {Q : List Int × Int → Prop} (hq : Q (iP (aEn d must t r p), 0)) :
    iC Q r (some ⟨t, d, won⟩) d d.length ⟨r, p⟩ BIG 0 [] := by
  have ht := hg.ht
  have hD := hg.dok
  have h5 := ht.r5
  have h32 := ht.len32
  have hlen := hD.len
  refine mP (S := List Int) (fun k s out => iC Q r (some ⟨t, d, won⟩) d d.length ⟨r, p⟩ k s out) d.length (fun x => x) (fun s out => out = tS d must t r p s ∧ s ≤ d.length) ?_ ?_ BIG 0 [] (cZ (by omega)) ⟨by simp [tS], by omega⟩
  · rintro k s out hs ⟨rfl, hsl⟩ ih
    have hml := wD d must t r p s
    have hst := aCv d must t r p s
    have hdm : decide ((r : Int) < (fP d must s t : Int)) = decide (r < fP d must s t) := by rw [Bool.eq_iff_iff]; simp only [decide_eq_true_eq]; omega
    have hdc : decide (cell s r = (⟨r, p⟩ : aB)) = decide (s / 2 ^ (r + 1) = p) := by
      rw [Bool.eq_iff_iff]; simp only [decide_eq_true_eq, cell, aB.mk.injEq, true_and]; omega
    simp only [iC, Int.ofNat_lt, hs, decide_true, cond_true, cM hs, uK (show r ≤ 5 by omega), Option.bind_some, xG ht hD hM hW hs, hdm, hdc, iG, cJ (show s < 9223372036854775807 by omega)]
    refine ⟨_, rfl, _, rfl, _, rfl, xS d must t r p s, ?_, ?_⟩
    · rw [← bV hs 0]
      unfold xS
      cases (!decide (d.getD s 0 = -1) && decide (s / 2 ^ (r + 1) = p)) with
      | false => rfl
      | true => simp only [cond_true, xG ht hD hM hW hs, Option.bind_some, hdm, Bool.true_and]
    rw [← bV hs 0]
    cases hb : xS d must t r p s with
    | true =>
      rw [hb, if_pos rfl] at hst
      simp only [cond_true]
      exact ⟨_, iT (by simp; omega), ih _ ⟨hst.symm, hs⟩⟩
    | false =>
      rw [hb] at hst
      simp only [cond_false]
      exact ih _ ⟨by rw [hst]; simp, hs⟩
  · rintro k s out hs ⟨rfl, hsl⟩
    have : s = d.length := by omega
    subst this
    have hlt : decide ((d.length : Int) < (d.length : Int)) = false := decide_eq_false (by omega)
    have hml := wD d must t r p d.length
    simp only [iC, hlt, cond_false, rL]
    refine ⟨iP (aEn d must t r p), ?_, hq⟩
    unfold slices_Sort_int
    rw [if_pos (by omega)]; rfl
end
theorem aGn {α : Type} (A : Option Int) (B : Option (aQ × Bool)) (F : aQ → Option α) (z : Int → α) {d : aQ} (hA : A = some 0) (hB : B = some (d, true)) :
    (A.bind fun r2 => bif !decide (r2 = 0) then some (z r2) else (B.bind fun r3 => F r3.1)) = F d := by subst hA; subst hB; rfl
theorem aLv {t : aO} {l : List aE} {e : Int} (h : Stat t l e) (r p : Int) : iW t l r p = some ([], e) := by
  unfold iW
  rw [aCe h, Option.bind_some]
  simp only [h.ne, Bool.not_false, cond_true]
theorem aLu {t : aO} {l : List aE} {d : List Int} (h : Good t l d) {r p : Int} (hm : iB t r p = false) : iW t l r p = some ([], 1) := by
  unfold iW
  rw [uG h, hm, Option.bind_some]
  rfl
theorem aJy {t : aO} {l : List aE} {d : List Int} (h : Good t l d) {must : List (List Int)} (hd : dH t l = some (⟨d, must⟩, true)) (hM : MustIs t must (dN d (Res l))) {r p : Nat} (hm : iB t r p = true) :
    iW t l r p = some (iP (aEn d must t r p), 0) := by
  obtain ⟨r', p', e1, e2, hr, hp⟩ := aBk hm
  have e1 : r = r' := by omega
  subst e1
  unfold iW
  exact (aGn _ _ (fun dd => gK r p t dd BIG 0 []) (fun r2 => ([], r2)) (by rw [uG h, hm]; rfl) hd).trans (aMe h hM hr)
theorem aLw (t : aO) (l : List aE) (r p : Int) {o : List Int × Int} (h : iW t l r p = some o) (Q : List Int × Int → Prop) (hq : Q o) : pQ t l r p Q := by
  unfold pQ
  rcases nZ t l with ⟨d, hg⟩ | ⟨e, he⟩
  · refine aLy hg fun won hW => ?_
    cases hm : iB t r p with
    | false =>
      rw [aLu hg hm] at h; cases h
      exact hq
    | true =>
      obtain ⟨r', p', rfl, rfl, hr, hp⟩ := aBk hm
      obtain ⟨must, hd, hM⟩ := nJ hg
      rw [aJy hg hd hM hm] at h; cases h
      simp only [cond_true, decide_true, Bool.not_true, cond_false]
      exact ⟨_, rfl, aKv hg hM hW hr hq⟩
  · rw [aLv he] at h; cases h
    refine aMt he ?_
    simp only [he.ne, Bool.not_false, cond_true]
    exact hq
end Go.Am
