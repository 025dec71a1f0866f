/- Layer 7, plain: May, Left, Reached and Meet of the program and of the reference. -/
import Derived.Test.YtenffgkkeafnpaaBkSh
import Derived.Test.YtenffgkkeafnpaaBrPlain15
namespace Go.Am

/-! Sorted. -/
theorem tG (l : List Int) : Srt (eZ l) := aFy l
theorem mL (l : List Int) : (eZ l).Perm l := List.mergeSort_perm l _
theorem yJ {l m : List Int} (h1 : Srt m) (h2 : m.Perm l) : m = eZ l := aHj h1 (tG l) (h2.trans (mL l).symm)
theorem aIv (a0 : Int → List Int → Option (List Int)) (l0 : List Int) (i : Int) {l : List Int} : ∀ (n k fuel : Nat) (out : List Int), k = n → SinkI l out k → k < fuel → out.length ≤ 1000 → iO a0 l0 i fuel k out = mJ a0 l0 i (eZ l) := by
  intro n
  induction n with
  | zero =>
    intro k fuel out hn hS hf hl
    subst hn
    cases fuel with
    | zero => omega
    | succ fuel =>
      obtain ⟨h1, h2⟩ := hS.done (.inl rfl)
      simp only [iO, show decide ((0 : Int) < ((0 : Nat) : Int)) = false by decide, cond_false, Option.bind_some, yJ h1 h2]
  | succ n ih =>
    intro k fuel out hn hS hf hl
    subst hn
    cases fuel with
    | zero => omega
    | succ fuel =>
      have hk := hS.lt
      have hk1 : n < out.length := by omega
      have hlt : decide ((0 : Int) < ((n + 1 : Nat) : Int)) = true := decide_eq_true (by omega)
      have hp : w64 (((n + 1 : Nat) : Int) - 1) = (n : Int) := by rw [eX (by omega) (by omega)]; omega
      simp only [iO, hlt, cond_true, hp, cI hk, cI hk1, Option.bind_some]
      rw [← bN hk 0, ← bN hk1 0]
      by_cases hc : out.getD (n + 1) 0 < out.getD n 0
      · have hN := hS.next (by omega) hc
        have e : ((n + 1 : Nat) : Int).toNat = n + 1 := by omega
        have e2 : ((n : Nat) : Int).toNat = n := by omega
        have hk2 : n < (out.set (n + 1) (out.getD n 0)).length := by rw [List.length_set]; exact hk1
        simp only [hc, decide_true, cond_true, e, e2, cI hk2, Option.bind_some]
        exact ih n fuel _ rfl hN (by omega) (by simp; omega)
      · simp only [hc, decide_false, cond_false]
        obtain ⟨h1, h2⟩ := hS.done (.inr (by simp only [Nat.add_sub_cancel]; omega))
        rw [yJ h1 h2]
theorem aFx (l : List Int) (hl : l.length ≤ 900) : oE l = some (eZ l) := by
  unfold oE
  have := fF (S := List Int) (fun k i out => iN l k i out) l.length (fun _ _ => some (eZ l)) (fun i out => out = eZ (l.take i)) ?_ ?_ BIG [] (cZ (by omega)) (by simp [eZ])
  · exact this
  · rintro k i out hi rfl ih
    have hlen : (eZ (l.take i)).length = i := by rw [(mL _).length_eq]; simp; omega
    simp only [iN, Int.ofNat_lt, hi, decide_true, cond_true, cI hi, Option.bind_some]
    rw [hZ (by simp; omega), Option.bind_some]
    have e : w64 (((eZ (l.take i) ++ [l[i]]).length : Int) - 1) = (((eZ (l.take i)).length : Nat) : Int) := by
      rw [List.length_append, List.length_singleton, eX (by omega) (by omega)]; omega
    rw [e, aIv _ l i (eZ (l.take i)).length _ BIG _ rfl (SinkI.start (tG _) l[i]) (cZ (by omega)) (by simp; omega)]
    unfold mJ pL
    rw [cH (show i < 9223372036854775807 by omega)]
    refine ih _ ?_
    rw [List.take_succ_eq_append_getElem hi]
    exact yJ (tG _) ((mL _).trans ((mL (l.take i)).append_right _))
  · rintro k out rfl
    have hlt : decide ((l.length : Int) < (l.length : Int)) = false := decide_eq_false (by omega)
    simp only [iN, hlt, cond_false, pK, List.take_length]

/-! How far. -/
section
variable {t : aO} (ht : TreeOK t) {d : List Int} (hD : DOK t d) {must : List (List Int)} {P : kD} (hM : MustIs t must P) {won : List (aB × Int)} (hW : WonIs won P)
include ht hD hM
theorem aCp {a : Nat} (ha : a < d.length) : nC t ⟨d, must⟩ a = some (pO d must a t : Int) := by
  have h1 := ht.r1
  have h5 := ht.r5
  unfold nC
  refine rV (fun k i => jQ a t ⟨d, must⟩ k i) t.Rounds.toNat (xS d must a) (fun i => some (i : Int)) (fun k i hi => ?_) (fun k => ?_) BIG (cZ (by omega))
  · have hlt : decide ((i : Int) < t.Rounds) = true := decide_eq_true (by omega)
    have hw : w64 ((i : Int) + 1) = ((i + 1 : Nat) : Int) := cH (by omega)
    have hu : IntKind.u64.wrap ((i + 1 : Nat) : Int) = ((i + 1 : Nat) : Int) := nX (by omega) (by omega)
    have hch : chk (decide (0 ≤ ((i + 1 : Nat) : Int))) = some () := by unfold chk; rw [decide_eq_true (by omega)]; rfl
    have hmin : min ((i + 1 : Nat) : Int).toNat 64 = i + 1 := by omega
    have hml := hM.len
    have hrl := hM.row i hi
    have hpin := lR ht (hD.len ▸ ha) hi
    have hql : i < must.length := by omega
    have hi1 : idx must (i : Int) = some (must.getD i []) := by rw [cI hql, bN hql]
    have hi2 : idx (must.getD i []) ((a / 2 ^ (i + 1) : Nat) : Int) = some (mat must i (a / 2 ^ (i + 1))) := by
      have hlt' : a / 2 ^ (i + 1) < (must.getD i []).length := by omega
      rw [cI hlt']; exact congrArg some (bN hlt' (-2)).symm
    simp only [jQ, hlt, cond_true, hw, hu, hch, hmin, qF, Option.bind_some, hi1, hi2, cI ha, pA, nO]
    rw [← bN ha 0]
    unfold xS
    cases decide (mat must i (a / 2 ^ (i + 1)) = -2) <;> cases decide (mat must i (a / 2 ^ (i + 1)) = d.getD a 0) <;> rfl
  · have hlt : decide (((t.Rounds.toNat : Nat) : Int) < t.Rounds) = false := decide_eq_false (by omega)
    simp only [jQ, hlt, cond_false, Option.bind_some, nO]
theorem aGr {a : Nat} (ha : a < d.length) : oP t ⟨d, must⟩ a = some (aCk d must a t : Int) := by
  have h1 := ht.r1
  have h5 := ht.r5
  unfold oP
  refine rV (fun k i => jB a t ⟨d, must⟩ k i) t.Rounds.toNat (aBt d must a) (fun i => some (i : Int)) (fun k i hi => ?_) (fun k => ?_) BIG (cZ (by omega))
  · have hlt : decide ((i : Int) < t.Rounds) = true := decide_eq_true (by omega)
    have hw : w64 ((i : Int) + 1) = ((i + 1 : Nat) : Int) := cH (by omega)
    have hu : IntKind.u64.wrap ((i + 1 : Nat) : Int) = ((i + 1 : Nat) : Int) := nX (by omega) (by omega)
    have hch : chk (decide (0 ≤ ((i + 1 : Nat) : Int))) = some () := by unfold chk; rw [decide_eq_true (by omega)]; rfl
    have hmin : min ((i + 1 : Nat) : Int).toNat 64 = i + 1 := by omega
    have hml := hM.len
    have hrl := hM.row i hi
    have hpin := lR ht (hD.len ▸ ha) hi
    have hql : i < must.length := by omega
    have hi1 : idx must (i : Int) = some (must.getD i []) := by rw [cI hql, bN hql]
    have hi2 : idx (must.getD i []) ((a / 2 ^ (i + 1) : Nat) : Int) = some (mat must i (a / 2 ^ (i + 1))) := by
      have hlt' : a / 2 ^ (i + 1) < (must.getD i []).length := by omega
      rw [cI hlt']; exact congrArg some (bN hlt' (-2)).symm
    simp only [jB, hlt, cond_true, hw, hu, hch, hmin, qF, Option.bind_some, hi1, hi2, cI ha, mX]
    rw [← bN ha 0]
    unfold aBt
    cases decide (mat must i (a / 2 ^ (i + 1)) = d.getD a 0) <;> rfl
  · have hlt : decide (((t.Rounds.toNat : Nat) : Int) < t.Rounds) = false := decide_eq_false (by omega)
    simp only [jB, hlt, cond_false, Option.bind_some, mX]
include hW
theorem aBw {a : Nat} (ha : a < d.length) : jC ⟨t, d, won⟩ a = some (pO d must a t : Int) := by
  have h1 := ht.r1
  have h5 := ht.r5
  have e : t.Rounds = ((t.Rounds.toNat : Nat) : Int) := by omega
  unfold jC
  refine rV (fun k i => fX ⟨t, d, won⟩ a t.Rounds k i) t.Rounds.toNat (xS d must a) (fun i => some (i : Int)) (fun k i hi => ?_) (fun k => ?_) BIG (cZ (by omega))
  · have hlt : decide ((i : Int) < t.Rounds) = true := decide_eq_true (by omega)
    have hpin := lR ht (hD.len ▸ ha) hi
    have hh := yD hW hM hi hpin
    simp only [fX, hlt, cond_true, zI (show i ≤ 5 by omega), Option.bind_some, cH (show i < 9223372036854775807 by omega), cI ha]
    have hcell : cell a i = ⟨(i : Int), ((a / 2 ^ (i + 1) : Nat) : Int)⟩ := rfl
    rw [← bN ha 0, hcell, hh]
    unfold xS
    by_cases h2 : mat must i (a / 2 ^ (i + 1)) = -2
    · simp only [h2, decide_true, Bool.not_true, cond_false, Option.bind_some, Bool.false_and]
    · simp only [h2, decide_false, Bool.not_false, cond_true, Option.bind_some, Bool.true_and, yC hW hM hi hpin h2]
  · have hlt : decide (((t.Rounds.toNat : Nat) : Int) < t.Rounds) = false := decide_eq_false (by omega)
    simp only [fX, hlt, cond_false, mT]
    rw [← e]
theorem aKr {a : Nat} (ha : a < d.length) : kS ⟨t, d, won⟩ a = some (aCk d must a t : Int) := by
  have h1 := ht.r1
  have h5 := ht.r5
  have e : t.Rounds = ((t.Rounds.toNat : Nat) : Int) := by omega
  have hrng := hD.rng a ha
  unfold kS
  refine rV (fun k i => fY ⟨t, d, won⟩ a t.Rounds k i) t.Rounds.toNat (aBt d must a) (fun i => some (i : Int)) (fun k i hi => ?_) (fun k => ?_) BIG (cZ (by omega))
  · have hlt : decide ((i : Int) < t.Rounds) = true := decide_eq_true (by omega)
    have hpin := lR ht (hD.len ▸ ha) hi
    have hh := yD hW hM hi hpin
    simp only [fY, hlt, cond_true, zI (show i ≤ 5 by omega), Option.bind_some, cH (show i < 9223372036854775807 by omega), cI ha]
    have hcell : cell a i = ⟨(i : Int), ((a / 2 ^ (i + 1) : Nat) : Int)⟩ := rfl
    rw [← bN ha 0, hcell, hh]
    unfold aBt
    by_cases h2 : mat must i (a / 2 ^ (i + 1)) = -2
    · have h3 : decide (mat must i (a / 2 ^ (i + 1)) = d.getD a 0) = false := decide_eq_false (by omega)
      simp only [h2] at h3
      simp only [h2, h3, decide_true, Bool.not_true, Bool.not_false, cond_true, Option.bind_some]
    · simp only [h2, decide_false, Bool.not_false, Bool.not_true, cond_false, Option.bind_some, yC hW hM hi hpin h2]
  · have hlt : decide (((t.Rounds.toNat : Nat) : Int) < t.Rounds) = false := decide_eq_false (by omega)
    simp only [fY, hlt, cond_false, mU]
    rw [← e]
end

/-! May. -/
def oT (d : List Int) (must : List (List Int)) (t : aO) (r p a : Nat) : Bool := !decide (d.getD a 0 = -1) && decide (a / 2 ^ (r + 1) = p) && decide (r < pO d must a t)
def qN (d : List Int) (must : List (List Int)) (t : aO) (r p n : Nat) : List Int := ((List.range n).filter (oT d must t r p)).map (d.getD · 0)
def mY (d : List Int) (must : List (List Int)) (t : aO) (r p : Nat) : List Int := qN d must t r p d.length
theorem aAv (d : List Int) (must : List (List Int)) (t : aO) (r p n : Nat) : qN d must t r p (n + 1) = qN d must t r p n ++ (if oT d must t r p n = true then [d.getD n 0] else []) := by
  unfold qN
  rw [List.range_succ, List.filter_append, List.map_append]
  congr 1
  simp only [List.filter_cons, List.filter_nil]
  split <;> rfl
theorem sK (d : List Int) (must : List (List Int)) (t : aO) (r p n : Nat) : (qN d must t r p n).length ≤ n := by
  have := List.length_filter_le (oT d must t r p) (List.range n)
  simpa [qN] using this
section
variable {t : aO} {l : List aD} {d : List Int} (hg : Good t l d) {must : List (List Int)} (hd : cY t l = some (⟨d, must⟩, true)) (hM : MustIs t must (eR d (Res l)))
include hg hM
theorem aJu {r p : Nat} (hr : r < t.Rounds.toNat) : fV r p t ⟨d, must⟩ BIG 0 [] = some (eZ (mY d must t r p), 0) := by
  have ht := hg.ht
  have hD := hg.dok
  have h5 := ht.r5
  have h32 := ht.len32
  have hlen := hD.len
  have := fF (S := List Int) (fun k s out => fV r p t ⟨d, must⟩ k s out) d.length (fun _ _ => some (eZ (mY d must t r p), 0)) (fun s out => out = qN d must t r p s) ?_ ?_ BIG [] (cZ (by omega)) (by simp [qN])
  · exact this
  · rintro k s out hs rfl ih
    have hml := sK d must t r p s
    have hw : w64 ((r : Int) + 1) = ((r + 1 : Nat) : Int) := cH (by omega)
    have hu : IntKind.u64.wrap ((r + 1 : Nat) : Int) = ((r + 1 : Nat) : Int) := nX (by omega) (by omega)
    have hch : chk (decide (0 ≤ ((r + 1 : Nat) : Int))) = some () := by unfold chk; rw [decide_eq_true (by omega)]; rfl
    have hmin : min ((r + 1 : Nat) : Int).toNat 64 = r + 1 := by omega
    have hst := aAv d must t r p s
    have hdp : decide (((s / 2 ^ (r + 1) : Nat) : Int) = (p : Int)) = decide (s / 2 ^ (r + 1) = p) := by rw [Bool.eq_iff_iff]; simp only [decide_eq_true_eq]; omega
    have hdm : decide ((r : Int) < (pO d must s t : Int)) = decide (r < pO d must s t) := by rw [Bool.eq_iff_iff]; simp only [decide_eq_true_eq]; omega
    simp only [fV, Int.ofNat_lt, hs, decide_true, cond_true, cI hs, Option.bind_some, hw, hu, hch, hmin, qF, hdp, gX, aCp ht hD hM hs, hdm, cH (show s < 9223372036854775807 by omega)]
    rw [← bN hs 0]
    have e : (!decide (d.getD s 0 = -1) && decide (s / 2 ^ (r + 1) = p) && decide (r < pO d must s t)) = oT d must t r p s := rfl
    rw [e]
    cases hb : oT d must t r p s with
    | true =>
      rw [hb, if_pos rfl] at hst
      simp only [cond_true]
      rw [hZ (by simp; omega), Option.bind_some]
      exact ih _ hst.symm
    | false =>
      rw [hb] at hst
      simp only [cond_false]
      exact ih _ (by rw [hst]; simp)
  · rintro k out rfl
    have hlt : decide ((d.length : Int) < (d.length : Int)) = false := decide_eq_false (by omega)
    have hml := sK d must t r p d.length
    simp only [fV, hlt, cond_false, rP, aFx _ (show (qN d must t r p d.length).length ≤ 900 by omega), Option.bind_some]
    rfl
theorem aIm {won : List (aB × Int)} (hW : WonIs won (eR d (Res l))) {r p : Nat} (hr : r < t.Rounds.toNat) {Q : List Int × Int → Prop} (hq : Q (eZ (mY d must t r p), 0)) :
    gP Q r (some ⟨t, d, won⟩) d d.length ⟨r, p⟩ BIG 0 [] := by
  have ht := hg.ht
  have hD := hg.dok
  have h5 := ht.r5
  have h32 := ht.len32
  have hlen := hD.len
  refine oZ (S := List Int) (fun k s out => gP Q r (some ⟨t, d, won⟩) d d.length ⟨r, p⟩ k s out) d.length (fun x => x) (fun s out => out = qN d must t r p s ∧ s ≤ d.length) ?_ ?_ BIG 0 [] (cZ (by omega)) ⟨by simp [qN], by omega⟩
  · rintro k s out hs ⟨rfl, hsl⟩ ih
    have hml := sK d must t r p s
    have hst := aAv d must t r p s
    have hdm : decide ((r : Int) < (pO d must s t : Int)) = decide (r < pO d must s t) := by rw [Bool.eq_iff_iff]; simp only [decide_eq_true_eq]; omega
    have hdc : decide (cell s r = (⟨r, p⟩ : aB)) = decide (s / 2 ^ (r + 1) = p) := by
      rw [Bool.eq_iff_iff]; simp only [decide_eq_true_eq, cell, aB.mk.injEq, true_and]; omega
    simp only [gP, Int.ofNat_lt, hs, decide_true, cond_true, cI hs, zI (show r ≤ 5 by omega), Option.bind_some, aBw ht hD hM hW hs, hdm, hdc, gX, cH (show s < 9223372036854775807 by omega)]
    refine ⟨_, rfl, _, rfl, _, rfl, oT d must t r p s, ?_, ?_⟩
    · rw [← bN hs 0]
      unfold oT
      cases (!decide (d.getD s 0 = -1) && decide (s / 2 ^ (r + 1) = p)) with
      | false => rfl
      | true => simp only [cond_true, aBw ht hD hM hW hs, Option.bind_some, hdm, Bool.true_and]
    rw [← bN hs 0]
    cases hb : oT d must t r p s with
    | true =>
      rw [hb, if_pos rfl] at hst
      simp only [cond_true]
      exact ⟨_, hZ (by simp; omega), ih _ ⟨hst.symm, hs⟩⟩
    | false =>
      rw [hb] at hst
      simp only [cond_false]
      exact ih _ ⟨by rw [hst]; simp, hs⟩
  · rintro k s out hs ⟨rfl, hsl⟩
    have : s = d.length := by omega
    subst this
    have hlt : decide ((d.length : Int) < (d.length : Int)) = false := decide_eq_false (by omega)
    have hml := sK d must t r p d.length
    simp only [gP, hlt, cond_false, qC]
    refine ⟨eZ (mY d must t r p), ?_, hq⟩
    unfold slices_Sort_int
    rw [if_pos (by omega)]; rfl
end
theorem aEl {α : Type} (A : Option Int) (B : Option (aQ × Bool)) (F : aQ → Option α) (z : Int → α) {d : aQ} (hA : A = some 0) (hB : B = some (d, true)) :
    (A.bind fun r2 => bif !decide (r2 = 0) then some (z r2) else (B.bind fun r3 => F r3.1)) = F d := by subst hA; subst hB; rfl
theorem aJi {t : aO} {l : List aD} {e : Int} (h : Stat t l e) (r p : Int) : iB t l r p = some ([], e) := by
  unfold iB
  rw [aAc h, Option.bind_some]
  simp only [h.ne, Bool.not_false, cond_true]
theorem aJh {t : aO} {l : List aD} {d : List Int} (h : Good t l d) {r p : Int} (hm : gD t r p = false) : iB t l r p = some ([], 1) := by
  unfold iB
  rw [sV h, hm, Option.bind_some]
  rfl
theorem aBn {t : aO} {l : List aD} {d : List Int} (h : Good t l d) {must : List (List Int)} (hd : cY t l = some (⟨d, must⟩, true)) (hM : MustIs t must (eR d (Res l))) {r p : Nat} (hm : gD t r p = true) :
    iB t l r p = some (eZ (mY d must t r p), 0) := by
  obtain ⟨r', p', e1, e2, hr, hp⟩ := uU hm
  have e1 : r = r' := by omega
  subst e1
  unfold iB
  exact (aEl _ _ (fun dd => fV r p t dd BIG 0 []) (fun r2 => ([], r2)) (by rw [sV h, hm]; rfl) hd).trans (aJu h hM hr)
theorem aJj (t : aO) (l : List aD) (r p : Int) {o : List Int × Int} (h : iB t l r p = some o) (Q : List Int × Int → Prop) (hq : Q o) : oF t l r p Q := by
  unfold oF
  rcases oB t l with ⟨d, hg⟩ | ⟨e, he⟩
  · refine aJl hg fun won hW => ?_
    cases hm : gD t r p with
    | false =>
      rw [aJh hg hm] at h; cases h
      exact hq
    | true =>
      obtain ⟨r', p', rfl, rfl, hr, hp⟩ := uU hm
      obtain ⟨must, hd, hM⟩ := oY hg
      rw [aBn hg hd hM hm] at h; cases h
      simp only [cond_true, decide_true, Bool.not_true, cond_false]
      exact ⟨_, rfl, aIm hg hM hW hr hq⟩
  · rw [aJi he] at h; cases h
    refine aKj he ?_
    simp only [he.ne, Bool.not_false, cond_true]
    exact hq
end Go.Am
