/- Layer 7, plain: May, Left, Reached and Meet of the program and of the reference. -/
import Derived.Test.YtenffgkkeafnpaaBkSh
import Derived.Test.YtenffgkkeafnpaaBrPlain15
namespace Go.Am

/-! Sorted. -/
theorem yQ (l : List Int) : Srt (fW l) := aHv l
theorem pH (l : List Int) : (fW l).Perm l := List.mergeSort_perm l _
theorem aAi {l m : List Int} (h1 : Srt m) (h2 : m.Perm l) : m = fW l := aJh h1 (yQ l) (h2.trans (pH l).symm)
theorem aKs (a0 : Int → List Int → Option (List Int)) (l0 : List Int) (i : Int) {l : List Int} : ∀ (n k fuel : Nat) (out : List Int), k = n → SinkI l out k → k < fuel → out.length ≤ 1000 → jO a0 l0 i fuel k out = nR a0 l0 i (fW l) := by
  intro n
  induction n with
  | zero =>
    intro k fuel out hn hS hf hl
    subst hn
    cases fuel with
    | zero => omega
    | succ fuel =>
      obtain ⟨h1, h2⟩ := hS.done (.inl rfl)
      simp only [jO, show decide ((0 : Int) < ((0 : Nat) : Int)) = false by decide, cond_false, Option.bind_some, aAi h1 h2]
  | succ n ih =>
    intro k fuel out hn hS hf hl
    subst hn
    cases fuel with
    | zero => omega
    | succ fuel =>
      have hk := hS.lt
      have hk1 : n < out.length := by omega
      have hlt : decide ((0 : Int) < ((n + 1 : Nat) : Int)) = true := decide_eq_true (by omega)
      have hp : w64 (((n + 1 : Nat) : Int) - 1) = (n : Int) := by rw [eU (by omega) (by omega)]; omega
      simp only [jO, hlt, cond_true, hp, cH hk, cH hk1, Option.bind_some]
      rw [← bT hk 0, ← bT hk1 0]
      by_cases hc : out.getD (n + 1) 0 < out.getD n 0
      · have hN := hS.next (by omega) hc
        have e : ((n + 1 : Nat) : Int).toNat = n + 1 := by omega
        have e2 : ((n : Nat) : Int).toNat = n := by omega
        have hk2 : n < (out.set (n + 1) (out.getD n 0)).length := by rw [List.length_set]; exact hk1
        simp only [hc, decide_true, cond_true, e, e2, cH hk2, Option.bind_some]
        exact ih n fuel _ rfl hN (by omega) (by simp; omega)
      · simp only [hc, decide_false, cond_false]
        obtain ⟨h1, h2⟩ := hS.done (.inr (by simp only [Nat.add_sub_cancel]; omega))
        rw [aAi h1 h2]
theorem aHu (l : List Int) (hl : l.length ≤ 900) : pL l = some (fW l) := by
  unfold pL
  have := fM (S := List Int) (fun k i out => jN l k i out) l.length (fun _ _ => some (fW l)) (fun i out => out = fW (l.take i)) ?_ ?_ BIG [] (dD (by omega)) (by simp [fW])
  · exact this
  · rintro k i out hi rfl ih
    have hlen : (fW (l.take i)).length = i := by rw [(pH _).length_eq]; simp; omega
    simp only [jN, Int.ofNat_lt, hi, decide_true, cond_true, cH hi, Option.bind_some]
    rw [iU (by simp; omega), Option.bind_some]
    have e : w64 (((fW (l.take i) ++ [l[i]]).length : Int) - 1) = (((fW (l.take i)).length : Nat) : Int) := by
      rw [List.length_append, List.length_singleton, eU (by omega) (by omega)]; omega
    rw [e, aKs _ l i (fW (l.take i)).length _ BIG _ rfl (SinkI.start (yQ _) l[i]) (dD (by omega)) (by simp; omega)]
    unfold nR qX
    rw [cJ (show i < 9223372036854775807 by omega)]
    refine ih _ ?_
    rw [List.take_succ_eq_append_getElem hi]
    exact aAi (yQ _) ((pH _).trans ((pH (l.take i)).append_right _))
  · rintro k out rfl
    have hlt : decide ((l.length : Int) < (l.length : Int)) = false := decide_eq_false (by omega)
    simp only [jN, hlt, cond_false, qW, List.take_length]

/-! How far. -/
section
variable {t : aT} (ht : TreeOK t) {d : List Int} (hD : DOK t d) {must : List (List Int)} {P : lC} (hM : MustIs t must P) {won : List (aF × Int)} (hW : WonIs won P)
include ht hD hM
theorem aEi {a : Nat} (ha : a < d.length) : oH t ⟨d, must⟩ a = some (mU d must a t : Int) := by
  have h1 := ht.r1
  have h5 := ht.r5
  unfold oH
  refine rA (fun k i => kR a t ⟨d, must⟩ k i) t.Rounds.toNat (wA d must a) (fun i => some (i : Int)) (fun k i hi => ?_) (fun k => ?_) BIG (dD (by omega))
  · have hlt : decide ((i : Int) < t.Rounds) = true := decide_eq_true (by omega)
    have hw : w64 ((i : Int) + 1) = ((i + 1 : Nat) : Int) := cJ (by omega)
    have hu : IntKind.u64.wrap ((i + 1 : Nat) : Int) = ((i + 1 : Nat) : Int) := nH (by omega) (by omega)
    have hch : chk (decide (0 ≤ ((i + 1 : Nat) : Int))) = some () := by unfold chk; rw [decide_eq_true (by omega)]; rfl
    have hmin : min ((i + 1 : Nat) : Int).toNat 64 = i + 1 := by omega
    have hml := hM.len
    have hrl := hM.row i hi
    have hpin := kX ht (hD.len ▸ ha) hi
    have hql : i < must.length := by omega
    have hi1 : idx must (i : Int) = some (must.getD i []) := by rw [cH hql, bT hql]
    have hi2 : idx (must.getD i []) ((a / 2 ^ (i + 1) : Nat) : Int) = some (mat must i (a / 2 ^ (i + 1))) := by
      have hlt' : a / 2 ^ (i + 1) < (must.getD i []).length := by omega
      rw [cH hlt']; exact congrArg some (bT hlt' (-2)).symm
    simp only [kR, hlt, cond_true, hw, hu, hch, hmin, qE, Option.bind_some, hi1, hi2, cH ha, tO, oR]
    rw [← bT ha 0]
    unfold wA
    cases decide (mat must i (a / 2 ^ (i + 1)) = -2) <;> cases decide (mat must i (a / 2 ^ (i + 1)) = d.getD a 0) <;> rfl
  · have hlt : decide (((t.Rounds.toNat : Nat) : Int) < t.Rounds) = false := decide_eq_false (by omega)
    simp only [kR, hlt, cond_false, Option.bind_some, oR]
theorem aIq {a : Nat} (ha : a < d.length) : qC t ⟨d, must⟩ a = some (qZ d must a t : Int) := by
  have h1 := ht.r1
  have h5 := ht.r5
  unfold qC
  refine rA (fun k i => kD a t ⟨d, must⟩ k i) t.Rounds.toNat (zR d must a) (fun i => some (i : Int)) (fun k i hi => ?_) (fun k => ?_) BIG (dD (by omega))
  · have hlt : decide ((i : Int) < t.Rounds) = true := decide_eq_true (by omega)
    have hw : w64 ((i : Int) + 1) = ((i + 1 : Nat) : Int) := cJ (by omega)
    have hu : IntKind.u64.wrap ((i + 1 : Nat) : Int) = ((i + 1 : Nat) : Int) := nH (by omega) (by omega)
    have hch : chk (decide (0 ≤ ((i + 1 : Nat) : Int))) = some () := by unfold chk; rw [decide_eq_true (by omega)]; rfl
    have hmin : min ((i + 1 : Nat) : Int).toNat 64 = i + 1 := by omega
    have hml := hM.len
    have hrl := hM.row i hi
    have hpin := kX ht (hD.len ▸ ha) hi
    have hql : i < must.length := by omega
    have hi1 : idx must (i : Int) = some (must.getD i []) := by rw [cH hql, bT hql]
    have hi2 : idx (must.getD i []) ((a / 2 ^ (i + 1) : Nat) : Int) = some (mat must i (a / 2 ^ (i + 1))) := by
      have hlt' : a / 2 ^ (i + 1) < (must.getD i []).length := by omega
      rw [cH hlt']; exact congrArg some (bT hlt' (-2)).symm
    simp only [kD, hlt, cond_true, hw, hu, hch, hmin, qE, Option.bind_some, hi1, hi2, cH ha, oD]
    rw [← bT ha 0]
    unfold zR
    cases decide (mat must i (a / 2 ^ (i + 1)) = d.getD a 0) <;> rfl
  · have hlt : decide (((t.Rounds.toNat : Nat) : Int) < t.Rounds) = false := decide_eq_false (by omega)
    simp only [kD, hlt, cond_false, Option.bind_some, oD]
include hW
theorem aDo {a : Nat} (ha : a < d.length) : kF ⟨t, d, won⟩ a = some (mU d must a t : Int) := by
  have h1 := ht.r1
  have h5 := ht.r5
  have e : t.Rounds = ((t.Rounds.toNat : Nat) : Int) := by omega
  unfold kF
  refine rA (fun k i => gS ⟨t, d, won⟩ a t.Rounds k i) t.Rounds.toNat (wA d must a) (fun i => some (i : Int)) (fun k i hi => ?_) (fun k => ?_) BIG (dD (by omega))
  · have hlt : decide ((i : Int) < t.Rounds) = true := decide_eq_true (by omega)
    have hpin := kX ht (hD.len ▸ ha) hi
    have hh := wJ hW hM hi hpin
    simp only [gS, hlt, cond_true, aBh (show i ≤ 5 by omega), Option.bind_some, cJ (show i < 9223372036854775807 by omega), cH ha]
    have hcell : cell a i = ⟨(i : Int), ((a / 2 ^ (i + 1) : Nat) : Int)⟩ := rfl
    rw [← bT ha 0, hcell, hh]
    unfold wA
    by_cases h2 : mat must i (a / 2 ^ (i + 1)) = -2
    · simp only [h2, decide_true, Bool.not_true, cond_false, Option.bind_some, Bool.false_and]
    · simp only [h2, decide_false, Bool.not_false, cond_true, Option.bind_some, Bool.true_and, wI hW hM hi hpin h2]
  · have hlt : decide (((t.Rounds.toNat : Nat) : Int) < t.Rounds) = false := decide_eq_false (by omega)
    simp only [gS, hlt, cond_false, nZ]
    rw [← e]
theorem aMl {a : Nat} (ha : a < d.length) : lQ ⟨t, d, won⟩ a = some (qZ d must a t : Int) := by
  have h1 := ht.r1
  have h5 := ht.r5
  have e : t.Rounds = ((t.Rounds.toNat : Nat) : Int) := by omega
  have hrng := hD.rng a ha
  unfold lQ
  refine rA (fun k i => gT ⟨t, d, won⟩ a t.Rounds k i) t.Rounds.toNat (zR d must a) (fun i => some (i : Int)) (fun k i hi => ?_) (fun k => ?_) BIG (dD (by omega))
  · have hlt : decide ((i : Int) < t.Rounds) = true := decide_eq_true (by omega)
    have hpin := kX ht (hD.len ▸ ha) hi
    have hh := wJ hW hM hi hpin
    simp only [gT, hlt, cond_true, aBh (show i ≤ 5 by omega), Option.bind_some, cJ (show i < 9223372036854775807 by omega), cH ha]
    have hcell : cell a i = ⟨(i : Int), ((a / 2 ^ (i + 1) : Nat) : Int)⟩ := rfl
    rw [← bT ha 0, hcell, hh]
    unfold zR
    by_cases h2 : mat must i (a / 2 ^ (i + 1)) = -2
    · have h3 : decide (mat must i (a / 2 ^ (i + 1)) = d.getD a 0) = false := decide_eq_false (by omega)
      simp only [h2] at h3
      simp only [h2, h3, decide_true, Bool.not_true, Bool.not_false, cond_true, Option.bind_some]
    · simp only [h2, decide_false, Bool.not_false, Bool.not_true, cond_false, Option.bind_some, wI hW hM hi hpin h2]
  · have hlt : decide (((t.Rounds.toNat : Nat) : Int) < t.Rounds) = false := decide_eq_false (by omega)
    simp only [gT, hlt, cond_false, oA]
    rw [← e]
end

/-! May. -/
def tY (d : List Int) (must : List (List Int)) (t : aT) (r p a : Nat) : Bool := !decide (d.getD a 0 = -1) && decide (a / 2 ^ (r + 1) = p) && decide (r < mU d must a t)
def tC (d : List Int) (must : List (List Int)) (t : aT) (r p n : Nat) : List Int := ((List.range n).filter (tY d must t r p)).map (d.getD · 0)
def rD (d : List Int) (must : List (List Int)) (t : aT) (r p : Nat) : List Int := tC d must t r p d.length
theorem aCp (d : List Int) (must : List (List Int)) (t : aT) (r p n : Nat) : tC d must t r p (n + 1) = tC d must t r p n ++ (if tY d must t r p n = true then [d.getD n 0] else []) := by
  unfold tC
  rw [List.range_succ, List.filter_append, List.map_append]
  congr 1
  simp only [List.filter_cons, List.filter_nil]
  split <;> rfl
theorem tZ (d : List Int) (must : List (List Int)) (t : aT) (r p n : Nat) : (tC d must t r p n).length ≤ n := by
  have := List.length_filter_le (tY d must t r p) (List.range n)
  simpa [tC] using this
section
variable {t : aT} {l : List aI} {d : List Int} (hg : Good t l d) {must : List (List Int)} (hd : dA t l = some (⟨d, must⟩, true)) (hM : MustIs t must (eR d (Res l)))
include hg hM
theorem aLq {r p : Nat} (hr : r < t.Rounds.toNat) : gQ r p t ⟨d, must⟩ BIG 0 [] = some (fW (rD d must t r p), 0) := by
  have ht := hg.ht
  have hD := hg.dok
  have h5 := ht.r5
  have h32 := ht.len32
  have hlen := hD.len
  have := fM (S := List Int) (fun k s out => gQ r p t ⟨d, must⟩ k s out) d.length (fun _ _ => some (fW (rD d must t r p), 0)) (fun s out => out = tC d must t r p s) ?_ ?_ BIG [] (dD (by omega)) (by simp [tC])
  · exact this
  · rintro k s out hs rfl ih
    have hml := tZ d must t r p s
    have hw : w64 ((r : Int) + 1) = ((r + 1 : Nat) : Int) := cJ (by omega)
    have hu : IntKind.u64.wrap ((r + 1 : Nat) : Int) = ((r + 1 : Nat) : Int) := nH (by omega) (by omega)
    have hch : chk (decide (0 ≤ ((r + 1 : Nat) : Int))) = some () := by unfold chk; rw [decide_eq_true (by omega)]; rfl
    have hmin : min ((r + 1 : Nat) : Int).toNat 64 = r + 1 := by omega
    have hst := aCp d must t r p s
    have hdp : decide (((s / 2 ^ (r + 1) : Nat) : Int) = (p : Int)) = decide (s / 2 ^ (r + 1) = p) := by rw [Bool.eq_iff_iff]; simp only [decide_eq_true_eq]; omega
    have hdm : decide ((r : Int) < (mU d must s t : Int)) = decide (r < mU d must s t) := by rw [Bool.eq_iff_iff]; simp only [decide_eq_true_eq]; omega
    simp only [gQ, Int.ofNat_lt, hs, decide_true, cond_true, cH hs, Option.bind_some, hw, hu, hch, hmin, qE, hdp, jJ, aEi ht hD hM hs, hdm, cJ (show s < 9223372036854775807 by omega)]
    rw [← bT hs 0]
    have e : (!decide (d.getD s 0 = -1) && decide (s / 2 ^ (r + 1) = p) && decide (r < mU d must s t)) = tY d must t r p s := rfl
    rw [e]
    cases hb : tY d must t r p s with
    | true =>
      rw [hb, if_pos rfl] at hst
      simp only [cond_true]
      rw [iU (by simp; omega), Option.bind_some]
      exact ih _ hst.symm
    | false =>
      rw [hb] at hst
      simp only [cond_false]
      exact ih _ (by rw [hst]; simp)
  · rintro k out rfl
    have hlt : decide ((d.length : Int) < (d.length : Int)) = false := decide_eq_false (by omega)
    have hml := tZ d must t r p d.length
    simp only [gQ, hlt, cond_false, tE, aHu _ (show (tC d must t r p d.length).length ≤ 900 by omega), Option.bind_some]
    rfl
theorem aKj {won : List (aF × Int)} (hW : WonIs won (eR d (Res l))) {r p : Nat} (hr : r < t.Rounds.toNat) {Q : List Int × Int → Prop} (hq : Q (fW (rD d must t r p), 0)) :
    iE Q r (some ⟨t, d, won⟩) d d.length ⟨r, p⟩ BIG 0 [] := by
  have ht := hg.ht
  have hD := hg.dok
  have h5 := ht.r5
  have h32 := ht.len32
  have hlen := hD.len
  refine lL (S := List Int) (fun k s out => iE Q r (some ⟨t, d, won⟩) d d.length ⟨r, p⟩ k s out) d.length (fun x => x) (fun s out => out = tC d must t r p s ∧ s ≤ d.length) ?_ ?_ BIG 0 [] (dD (by omega)) ⟨by simp [tC], by omega⟩
  · rintro k s out hs ⟨rfl, hsl⟩ ih
    have hml := tZ d must t r p s
    have hst := aCp d must t r p s
    have hdm : decide ((r : Int) < (mU d must s t : Int)) = decide (r < mU d must s t) := by rw [Bool.eq_iff_iff]; simp only [decide_eq_true_eq]; omega
    have hdc : decide (cell s r = (⟨r, p⟩ : aF)) = decide (s / 2 ^ (r + 1) = p) := by
      rw [Bool.eq_iff_iff]; simp only [decide_eq_true_eq, cell, aF.mk.injEq, true_and]; omega
    simp only [iE, Int.ofNat_lt, hs, decide_true, cond_true, cH hs, aBh (show r ≤ 5 by omega), Option.bind_some, aDo ht hD hM hW hs, hdm, hdc, jJ, cJ (show s < 9223372036854775807 by omega)]
    refine ⟨_, rfl, _, rfl, _, rfl, tY d must t r p s, ?_, ?_⟩
    · rw [← bT hs 0]
      unfold tY
      cases (!decide (d.getD s 0 = -1) && decide (s / 2 ^ (r + 1) = p)) with
      | false => rfl
      | true => simp only [cond_true, aDo ht hD hM hW hs, Option.bind_some, hdm, Bool.true_and]
    rw [← bT hs 0]
    cases hb : tY d must t r p s with
    | true =>
      rw [hb, if_pos rfl] at hst
      simp only [cond_true]
      exact ⟨_, iU (by simp; omega), ih _ ⟨hst.symm, hs⟩⟩
    | false =>
      rw [hb] at hst
      simp only [cond_false]
      exact ih _ ⟨by rw [hst]; simp, hs⟩
  · rintro k s out hs ⟨rfl, hsl⟩
    have : s = d.length := by omega
    subst this
    have hlt : decide ((d.length : Int) < (d.length : Int)) = false := decide_eq_false (by omega)
    have hml := tZ d must t r p d.length
    simp only [iE, hlt, cond_false, rS]
    refine ⟨fW (rD d must t r p), ?_, hq⟩
    unfold slices_Sort_int
    rw [if_pos (by omega)]; rfl
end
theorem aGg {α : Type} (A : Option Int) (B : Option (aW × Bool)) (F : aW → Option α) (z : Int → α) {d : aW} (hA : A = some 0) (hB : B = some (d, true)) :
    (A.bind fun r2 => bif !decide (r2 = 0) then some (z r2) else (B.bind fun r3 => F r3.1)) = F d := by subst hA; subst hB; rfl
theorem aLh {t : aT} {l : List aI} {e : Int} (h : Stat t l e) (r p : Int) : iX t l r p = some ([], e) := by
  unfold iX
  rw [vI h, Option.bind_some]
  simp only [h.ne, Bool.not_false, cond_true]
theorem aLg {t : aT} {l : List aI} {d : List Int} (h : Good t l d) {r p : Int} (hm : gB t r p = false) : iX t l r p = some ([], 1) := by
  unfold iX
  rw [oG h, hm, Option.bind_some]
  rfl
theorem aDi {t : aT} {l : List aI} {d : List Int} (h : Good t l d) {must : List (List Int)} (hd : dA t l = some (⟨d, must⟩, true)) (hM : MustIs t must (eR d (Res l))) {r p : Nat} (hm : gB t r p = true) :
    iX t l r p = some (fW (rD d must t r p), 0) := by
  obtain ⟨r', p', e1, e2, hr, hp⟩ := rC hm
  have e1 : r = r' := by omega
  subst e1
  unfold iX
  exact (aGg _ _ (fun dd => gQ r p t dd BIG 0 []) (fun r2 => ([], r2)) (by rw [oG h, hm]; rfl) hd).trans (aLq h hM hr)
theorem aLi (t : aT) (l : List aI) (r p : Int) {o : List Int × Int} (h : iX t l r p = some o) (Q : List Int × Int → Prop) (hq : Q o) : pM t l r p Q := by
  unfold pM
  rcases pI t l with ⟨d, hg⟩ | ⟨e, he⟩
  · refine aFx hg fun won hW => ?_
    cases hm : gB t r p with
    | false =>
      rw [aLg hg hm] at h; cases h
      exact hq
    | true =>
      obtain ⟨r', p', rfl, rfl, hr, hp⟩ := rC hm
      obtain ⟨must, hd, hM⟩ := oT hg
      rw [aDi hg hd hM hm] at h; cases h
      simp only [cond_true, decide_true, Bool.not_true, cond_false]
      exact ⟨_, rfl, aKj hg hM hW hr hq⟩
  · rw [aLh he] at h; cases h
    refine aIc he ?_
    simp only [he.ne, Bool.not_false, cond_true]
    exact hq
end Go.Am
