/- Layer 7, plain: May, Left, Reached and Meet of the program and of the reference. -/
import Derived.Test.YtenffgkkeafnpaaBkSh
import Derived.Test.YtenffgkkeafnpaaBrPlain15
namespace Go.Am

/-! Sorted. -/
theorem xK (l : List Int) : Srt (fT l) := aGv l
theorem oN (l : List Int) : (fT l).Perm l := List.mergeSort_perm l _
theorem zF {l m : List Int} (h1 : Srt m) (h2 : m.Perm l) : m = fT l := aIi h1 (xK l) (h2.trans (oN l).symm)
theorem aJv (a0 : Int → List Int → Option (List Int)) (l0 : List Int) (i : Int) {l : List Int} : ∀ (n k fuel : Nat) (out : List Int), k = n → SinkI l out k → k < fuel → out.length ≤ 1000 → iW a0 l0 i fuel k out = mU a0 l0 i (fT l) := by
  intro n
  induction n with
  | zero =>
    intro k fuel out hn hS hf hl
    subst hn
    cases fuel with
    | zero => omega
    | succ fuel =>
      obtain ⟨h1, h2⟩ := hS.done (.inl rfl)
      simp only [iW, show decide ((0 : Int) < ((0 : Nat) : Int)) = false by decide, cond_false, Option.bind_some, zF h1 h2]
  | succ n ih =>
    intro k fuel out hn hS hf hl
    subst hn
    cases fuel with
    | zero => omega
    | succ fuel =>
      have hk := hS.lt
      have hk1 : n < out.length := by omega
      have hlt : decide ((0 : Int) < ((n + 1 : Nat) : Int)) = true := decide_eq_true (by omega)
      have hp : w64 (((n + 1 : Nat) : Int) - 1) = (n : Int) := by rw [eZ (by omega) (by omega)]; omega
      simp only [iW, hlt, cond_true, hp, cI hk, cI hk1, Option.bind_some]
      rw [← bJ hk 0, ← bJ hk1 0]
      by_cases hc : out.getD (n + 1) 0 < out.getD n 0
      · have hN := hS.next (by omega) hc
        have e : ((n + 1 : Nat) : Int).toNat = n + 1 := by omega
        have e2 : ((n : Nat) : Int).toNat = n := by omega
        have hk2 : n < (out.set (n + 1) (out.getD n 0)).length := by rw [List.length_set]; exact hk1
        simp only [hc, decide_true, cond_true, e, e2, cI hk2, Option.bind_some]
        exact ih n fuel _ rfl hN (by omega) (by simp; omega)
      · simp only [hc, decide_false, cond_false]
        obtain ⟨h1, h2⟩ := hS.done (.inr (by simp only [Nat.add_sub_cancel]; omega))
        rw [zF h1 h2]
theorem aGu (l : List Int) (hl : l.length ≤ 900) : oR l = some (fT l) := by
  unfold oR
  have := fB (S := List Int) (fun k i out => iV l k i out) l.length (fun _ _ => some (fT l)) (fun i out => out = fT (l.take i)) ?_ ?_ BIG [] (cU (by omega)) (by simp [fT])
  · exact this
  · rintro k i out hi rfl ih
    have hlen : (fT (l.take i)).length = i := by rw [(oN _).length_eq]; simp; omega
    simp only [iV, Int.ofNat_lt, hi, decide_true, cond_true, cI hi, Option.bind_some]
    rw [iG (by simp; omega), Option.bind_some]
    have e : w64 (((fT (l.take i) ++ [l[i]]).length : Int) - 1) = (((fT (l.take i)).length : Nat) : Int) := by
      rw [List.length_append, List.length_singleton, eZ (by omega) (by omega)]; omega
    rw [e, aJv _ l i (fT (l.take i)).length _ BIG _ rfl (SinkI.start (xK _) l[i]) (cU (by omega)) (by simp; omega)]
    unfold mU pY
    rw [cF (show i < 9223372036854775807 by omega)]
    refine ih _ ?_
    rw [List.take_succ_eq_append_getElem hi]
    exact zF (xK _) ((oN _).trans ((oN (l.take i)).append_right _))
  · rintro k out rfl
    have hlt : decide ((l.length : Int) < (l.length : Int)) = false := decide_eq_false (by omega)
    simp only [iV, hlt, cond_false, pX, List.take_length]

/-! How far. -/
section
variable {t : aO} (ht : TreeOK t) {d : List Int} (hD : DOK t d) {must : List (List Int)} {P : iR} (hM : MustIs t must P) {won : List (aB × Int)} (hW : WonIs won P)
include ht hD hM
theorem aDk {a : Nat} (ha : a < d.length) : nQ t ⟨d, must⟩ a = some (lJ d must a t : Int) := by
  have h1 := ht.r1
  have h5 := ht.r5
  unfold nQ
  refine sJ (fun k i => jY a t ⟨d, must⟩ k i) t.Rounds.toNat (wI d must a) (fun i => some (i : Int)) (fun k i hi => ?_) (fun k => ?_) BIG (cU (by omega))
  · have hlt : decide ((i : Int) < t.Rounds) = true := decide_eq_true (by omega)
    have hw : w64 ((i : Int) + 1) = ((i + 1 : Nat) : Int) := cF (by omega)
    have hu : IntKind.u64.wrap ((i + 1 : Nat) : Int) = ((i + 1 : Nat) : Int) := lR (by omega) (by omega)
    have hch : chk (decide (0 ≤ ((i + 1 : Nat) : Int))) = some () := by unfold chk; rw [decide_eq_true (by omega)]; rfl
    have hmin : min ((i + 1 : Nat) : Int).toNat 64 = i + 1 := by omega
    have hml := hM.len
    have hrl := hM.row i hi
    have hpin := kF ht (hD.len ▸ ha) hi
    have hql : i < must.length := by omega
    have hi1 : idx must (i : Int) = some (must.getD i []) := by rw [cI hql, bJ hql]
    have hi2 : idx (must.getD i []) ((a / 2 ^ (i + 1) : Nat) : Int) = some (mat must i (a / 2 ^ (i + 1))) := by
      have hlt' : a / 2 ^ (i + 1) < (must.getD i []).length := by omega
      rw [cI hlt']; exact congrArg some (bJ hlt' (-2)).symm
    simp only [jY, hlt, cond_true, hw, hu, hch, hmin, oD, Option.bind_some, hi1, hi2, cI ha, nG, oA]
    rw [← bJ ha 0]
    unfold wI
    cases decide (mat must i (a / 2 ^ (i + 1)) = -2) <;> cases decide (mat must i (a / 2 ^ (i + 1)) = d.getD a 0) <;> rfl
  · have hlt : decide (((t.Rounds.toNat : Nat) : Int) < t.Rounds) = false := decide_eq_false (by omega)
    simp only [jY, hlt, cond_false, Option.bind_some, oA]
theorem aHq {a : Nat} (ha : a < d.length) : pE t ⟨d, must⟩ a = some (oV d must a t : Int) := by
  have h1 := ht.r1
  have h5 := ht.r5
  unfold pE
  refine sJ (fun k i => jJ a t ⟨d, must⟩ k i) t.Rounds.toNat (uZ d must a) (fun i => some (i : Int)) (fun k i hi => ?_) (fun k => ?_) BIG (cU (by omega))
  · have hlt : decide ((i : Int) < t.Rounds) = true := decide_eq_true (by omega)
    have hw : w64 ((i : Int) + 1) = ((i + 1 : Nat) : Int) := cF (by omega)
    have hu : IntKind.u64.wrap ((i + 1 : Nat) : Int) = ((i + 1 : Nat) : Int) := lR (by omega) (by omega)
    have hch : chk (decide (0 ≤ ((i + 1 : Nat) : Int))) = some () := by unfold chk; rw [decide_eq_true (by omega)]; rfl
    have hmin : min ((i + 1 : Nat) : Int).toNat 64 = i + 1 := by omega
    have hml := hM.len
    have hrl := hM.row i hi
    have hpin := kF ht (hD.len ▸ ha) hi
    have hql : i < must.length := by omega
    have hi1 : idx must (i : Int) = some (must.getD i []) := by rw [cI hql, bJ hql]
    have hi2 : idx (must.getD i []) ((a / 2 ^ (i + 1) : Nat) : Int) = some (mat must i (a / 2 ^ (i + 1))) := by
      have hlt' : a / 2 ^ (i + 1) < (must.getD i []).length := by omega
      rw [cI hlt']; exact congrArg some (bJ hlt' (-2)).symm
    simp only [jJ, hlt, cond_true, hw, hu, hch, hmin, oD, Option.bind_some, hi1, hi2, cI ha, nM]
    rw [← bJ ha 0]
    unfold uZ
    cases decide (mat must i (a / 2 ^ (i + 1)) = d.getD a 0) <;> rfl
  · have hlt : decide (((t.Rounds.toNat : Nat) : Int) < t.Rounds) = false := decide_eq_false (by omega)
    simp only [jJ, hlt, cond_false, Option.bind_some, nM]
include hW
theorem aCq {a : Nat} (ha : a < d.length) : jL ⟨t, d, won⟩ a = some (lJ d must a t : Int) := by
  have h1 := ht.r1
  have h5 := ht.r5
  have e : t.Rounds = ((t.Rounds.toNat : Nat) : Int) := by omega
  unfold jL
  refine sJ (fun k i => gB ⟨t, d, won⟩ a t.Rounds k i) t.Rounds.toNat (wI d must a) (fun i => some (i : Int)) (fun k i hi => ?_) (fun k => ?_) BIG (cU (by omega))
  · have hlt : decide ((i : Int) < t.Rounds) = true := decide_eq_true (by omega)
    have hpin := kF ht (hD.len ▸ ha) hi
    have hh := yZ hW hM hi hpin
    simp only [gB, hlt, cond_true, aAg (show i ≤ 5 by omega), Option.bind_some, cF (show i < 9223372036854775807 by omega), cI ha]
    have hcell : cell a i = ⟨(i : Int), ((a / 2 ^ (i + 1) : Nat) : Int)⟩ := rfl
    rw [← bJ ha 0, hcell, hh]
    unfold wI
    by_cases h2 : mat must i (a / 2 ^ (i + 1)) = -2
    · simp only [h2, decide_true, Bool.not_true, cond_false, Option.bind_some, Bool.false_and]
    · simp only [h2, decide_false, Bool.not_false, cond_true, Option.bind_some, Bool.true_and, yY hW hM hi hpin h2]
  · have hlt : decide (((t.Rounds.toNat : Nat) : Int) < t.Rounds) = false := decide_eq_false (by omega)
    simp only [gB, hlt, cond_false, nI]
    rw [← e]
theorem aLv {a : Nat} (ha : a < d.length) : kZ ⟨t, d, won⟩ a = some (oV d must a t : Int) := by
  have h1 := ht.r1
  have h5 := ht.r5
  have e : t.Rounds = ((t.Rounds.toNat : Nat) : Int) := by omega
  have hrng := hD.rng a ha
  unfold kZ
  refine sJ (fun k i => gC ⟨t, d, won⟩ a t.Rounds k i) t.Rounds.toNat (uZ d must a) (fun i => some (i : Int)) (fun k i hi => ?_) (fun k => ?_) BIG (cU (by omega))
  · have hlt : decide ((i : Int) < t.Rounds) = true := decide_eq_true (by omega)
    have hpin := kF ht (hD.len ▸ ha) hi
    have hh := yZ hW hM hi hpin
    simp only [gC, hlt, cond_true, aAg (show i ≤ 5 by omega), Option.bind_some, cF (show i < 9223372036854775807 by omega), cI ha]
    have hcell : cell a i = ⟨(i : Int), ((a / 2 ^ (i + 1) : Nat) : Int)⟩ := rfl
    rw [← bJ ha 0, hcell, hh]
    unfold uZ
    by_cases h2 : mat must i (a / 2 ^ (i + 1)) = -2
    · have h3 : decide (mat must i (a / 2 ^ (i + 1)) = d.getD a 0) = false := decide_eq_false (by omega)
      simp only [h2] at h3
      simp only [h2, h3, decide_true, Bool.not_true, Bool.not_false, cond_true, Option.bind_some]
    · simp only [h2, decide_false, Bool.not_false, Bool.not_true, cond_false, Option.bind_some, yY hW hM hi hpin h2]
  · have hlt : decide (((t.Rounds.toNat : Nat) : Int) < t.Rounds) = false := decide_eq_false (by omega)
    simp only [gC, hlt, cond_false, nJ]
    rw [← e]
end

/-! May. -/
def tB (d : List Int) (must : List (List Int)) (t : aO) (r p a : Nat) : Bool := !decide (d.getD a 0 = -1) && decide (a / 2 ^ (r + 1) = p) && decide (r < lJ d must a t)
def sA (d : List Int) (must : List (List Int)) (t : aO) (r p n : Nat) : List Int := ((List.range n).filter (tB d must t r p)).map (d.getD · 0)
def qX (d : List Int) (must : List (List Int)) (t : aO) (r p : Nat) : List Int := sA d must t r p d.length
theorem aBq (d : List Int) (must : List (List Int)) (t : aO) (r p n : Nat) : sA d must t r p (n + 1) = sA d must t r p n ++ (if tB d must t r p n = true then [d.getD n 0] else []) := by
  unfold sA
  rw [List.range_succ, List.filter_append, List.map_append]
  congr 1
  simp only [List.filter_cons, List.filter_nil]
  split <;> rfl
theorem tC (d : List Int) (must : List (List Int)) (t : aO) (r p n : Nat) : (sA d must t r p n).length ≤ n := by
  have := List.length_filter_le (tB d must t r p) (List.range n)
  simpa [sA] using this
section
variable {t : aO} {l : List aD} {d : List Int} (hg : Good t l d) {must : List (List Int)} (hd : dF t l = some (⟨d, must⟩, true)) (hM : MustIs t must (dC d (Res l)))
include hg hM
theorem aKy {r p : Nat} (hr : r < t.Rounds.toNat) : fZ r p t ⟨d, must⟩ BIG 0 [] = some (fT (qX d must t r p), 0) := by
  have ht := hg.ht
  have hD := hg.dok
  have h5 := ht.r5
  have h32 := ht.len32
  have hlen := hD.len
  have := fB (S := List Int) (fun k s out => fZ r p t ⟨d, must⟩ k s out) d.length (fun _ _ => some (fT (qX d must t r p), 0)) (fun s out => out = sA d must t r p s) ?_ ?_ BIG [] (cU (by omega)) (by simp [sA])
  · exact this
  · rintro k s out hs rfl ih
    have hml := tC d must t r p s
    have hw : w64 ((r : Int) + 1) = ((r + 1 : Nat) : Int) := cF (by omega)
    have hu : IntKind.u64.wrap ((r + 1 : Nat) : Int) = ((r + 1 : Nat) : Int) := lR (by omega) (by omega)
    have hch : chk (decide (0 ≤ ((r + 1 : Nat) : Int))) = some () := by unfold chk; rw [decide_eq_true (by omega)]; rfl
    have hmin : min ((r + 1 : Nat) : Int).toNat 64 = r + 1 := by omega
    have hst := aBq d must t r p s
    have hdp : decide (((s / 2 ^ (r + 1) : Nat) : Int) = (p : Int)) = decide (s / 2 ^ (r + 1) = p) := by rw [Bool.eq_iff_iff]; simp only [decide_eq_true_eq]; omega
    have hdm : decide ((r : Int) < (lJ d must s t : Int)) = decide (r < lJ d must s t) := by rw [Bool.eq_iff_iff]; simp only [decide_eq_true_eq]; omega
    simp only [fZ, Int.ofNat_lt, hs, decide_true, cond_true, cI hs, Option.bind_some, hw, hu, hch, hmin, oD, hdp, iD, aDk ht hD hM hs, hdm, cF (show s < 9223372036854775807 by omega)]
    rw [← bJ hs 0]
    have e : (!decide (d.getD s 0 = -1) && decide (s / 2 ^ (r + 1) = p) && decide (r < lJ d must s t)) = tB d must t r p s := rfl
    rw [e]
    cases hb : tB d must t r p s with
    | true =>
      rw [hb, if_pos rfl] at hst
      simp only [cond_true]
      rw [iG (by simp; omega), Option.bind_some]
      exact ih _ hst.symm
    | false =>
      rw [hb] at hst
      simp only [cond_false]
      exact ih _ (by rw [hst]; simp)
  · rintro k out rfl
    have hlt : decide ((d.length : Int) < (d.length : Int)) = false := decide_eq_false (by omega)
    have hml := tC d must t r p d.length
    simp only [fZ, hlt, cond_false, sE, aGu _ (show (sA d must t r p d.length).length ≤ 900 by omega), Option.bind_some]
    rfl
theorem aJn {won : List (aB × Int)} (hW : WonIs won (dC d (Res l))) {r p : Nat} (hr : r < t.Rounds.toNat) {Q : List Int × Int → Prop} (hq : Q (fT (qX d must t r p), 0)) :
    gV Q r (some ⟨t, d, won⟩) d d.length ⟨r, p⟩ BIG 0 [] := by
  have ht := hg.ht
  have hD := hg.dok
  have h5 := ht.r5
  have h32 := ht.len32
  have hlen := hD.len
  refine oF (S := List Int) (fun k s out => gV Q r (some ⟨t, d, won⟩) d d.length ⟨r, p⟩ k s out) d.length (fun x => x) (fun s out => out = sA d must t r p s ∧ s ≤ d.length) ?_ ?_ BIG 0 [] (cU (by omega)) ⟨by simp [sA], by omega⟩
  · rintro k s out hs ⟨rfl, hsl⟩ ih
    have hml := tC d must t r p s
    have hst := aBq d must t r p s
    have hdm : decide ((r : Int) < (lJ d must s t : Int)) = decide (r < lJ d must s t) := by rw [Bool.eq_iff_iff]; simp only [decide_eq_true_eq]; omega
    have hdc : decide (cell s r = (⟨r, p⟩ : aB)) = decide (s / 2 ^ (r + 1) = p) := by
      rw [Bool.eq_iff_iff]; simp only [decide_eq_true_eq, cell, aB.mk.injEq, true_and]; omega
    simp only [gV, Int.ofNat_lt, hs, decide_true, cond_true, cI hs, aAg (show r ≤ 5 by omega), Option.bind_some, aCq ht hD hM hW hs, hdm, hdc, iD, cF (show s < 9223372036854775807 by omega)]
    refine ⟨_, rfl, _, rfl, _, rfl, tB d must t r p s, ?_, ?_⟩
    · rw [← bJ hs 0]
      unfold tB
      cases (!decide (d.getD s 0 = -1) && decide (s / 2 ^ (r + 1) = p)) with
      | false => rfl
      | true => simp only [cond_true, aCq ht hD hM hW hs, Option.bind_some, hdm, Bool.true_and]
    rw [← bJ hs 0]
    cases hb : tB d must t r p s with
    | true =>
      rw [hb, if_pos rfl] at hst
      simp only [cond_true]
      exact ⟨_, iG (by simp; omega), ih _ ⟨hst.symm, hs⟩⟩
    | false =>
      rw [hb] at hst
      simp only [cond_false]
      exact ih _ ⟨by rw [hst]; simp, hs⟩
  · rintro k s out hs ⟨rfl, hsl⟩
    have : s = d.length := by omega
    subst this
    have hlt : decide ((d.length : Int) < (d.length : Int)) = false := decide_eq_false (by omega)
    have hml := tC d must t r p d.length
    simp only [gV, hlt, cond_false, qO]
    refine ⟨fT (qX d must t r p), ?_, hq⟩
    unfold slices_Sort_int
    rw [if_pos (by omega)]; rfl
end
theorem aFf {α : Type} (A : Option Int) (B : Option (aQ × Bool)) (F : aQ → Option α) (z : Int → α) {d : aQ} (hA : A = some 0) (hB : B = some (d, true)) :
    (A.bind fun r2 => bif !decide (r2 = 0) then some (z r2) else (B.bind fun r3 => F r3.1)) = F d := by subst hA; subst hB; rfl
theorem aKm {t : aO} {l : List aD} {e : Int} (h : Stat t l e) (r p : Int) : iJ t l r p = some ([], e) := by
  unfold iJ
  rw [aAx h, Option.bind_some]
  simp only [h.ne, Bool.not_false, cond_true]
theorem aKl {t : aO} {l : List aD} {d : List Int} (h : Good t l d) {r p : Int} (hm : gT t r p = false) : iJ t l r p = some ([], 1) := by
  unfold iJ
  rw [tN h, hm, Option.bind_some]
  rfl
theorem aCi {t : aO} {l : List aD} {d : List Int} (h : Good t l d) {must : List (List Int)} (hd : dF t l = some (⟨d, must⟩, true)) (hM : MustIs t must (dC d (Res l))) {r p : Nat} (hm : gT t r p = true) :
    iJ t l r p = some (fT (qX d must t r p), 0) := by
  obtain ⟨r', p', e1, e2, hr, hp⟩ := aAc hm
  have e1 : r = r' := by omega
  subst e1
  unfold iJ
  exact (aFf _ _ (fun dd => fZ r p t dd BIG 0 []) (fun r2 => ([], r2)) (by rw [tN h, hm]; rfl) hd).trans (aKy h hM hr)
theorem aKn (t : aO) (l : List aD) (r p : Int) {o : List Int × Int} (h : iJ t l r p = some o) (Q : List Int × Int → Prop) (hq : Q o) : oS t l r p Q := by
  unfold oS
  rcases oO t l with ⟨d, hg⟩ | ⟨e, he⟩
  · refine aKp hg fun won hW => ?_
    cases hm : gT t r p with
    | false =>
      rw [aKl hg hm] at h; cases h
      exact hq
    | true =>
      obtain ⟨r', p', rfl, rfl, hr, hp⟩ := aAc hm
      obtain ⟨must, hd, hM⟩ := oC hg
      rw [aCi hg hd hM hm] at h; cases h
      simp only [cond_true, decide_true, Bool.not_true, cond_false]
      exact ⟨_, rfl, aJn hg hM hW hr hq⟩
  · rw [aKm he] at h; cases h
    refine aLo he ?_
    simp only [he.ne, Bool.not_false, cond_true]
    exact hq
end Go.Am
