/- Plain laws, one behind the other. -/
import Derived.Test.YtiohgpipanopaaaGreatBkPlain1
import Derived.KernelRfl
import Derived.Test.YtiohgpipanopaaaGreatTlSh
section
namespace Go.Am
theorem aIs {α : Type} (p : α → Bool) : ∀ l : List α, (l.filter p).length + (l.filter fun x => !p x).length = l.length
 | [] => rfl
 | x :: l => by
  have := aIs p l
  simp only [List.filter_cons]
  cases p x <;> simp <;> omega
def kP (must : List (List Int)) (x : Nat × Nat) : Bool := decide (mat must x.1 x.2 = -2)
def aAc (t : aN) (must : List (List Int)) : Nat := ((gL t).filter (kP must)).length
def xQ (t : aN) (n : Nat) : List (Nat × Nat) := (List.range n).flatMap fun r : Nat => (List.range (bV t r)).map fun p : Nat => (r, p)
theorem aLa (t : aN) (n : Nat) : xQ t (n + 1) = xQ t n ++ (List.range (bV t n)).map fun p : Nat => (n, p) := uX _ _
theorem aHm (t : aN) : ∀ n, n ≤ t.Rounds.toNat → (xQ t n).length + 2 ^ (t.Rounds.toNat - n) = 2 ^ t.Rounds.toNat
 | 0, _ => by simp [xQ]
 | n + 1, h => by
  have ih := aHm t n (by omega)
  rw [aLa, List.length_append, List.length_map, List.length_range]
  unfold bV
  have e : t.Rounds.toNat - 1 - ((n : Nat) : Int).toNat = t.Rounds.toNat - (n + 1) := by simp; omega
  have e2 : 2 ^ (t.Rounds.toNat - n) = 2 * 2 ^ (t.Rounds.toNat - (n + 1)) := by
   have : t.Rounds.toNat - n = (t.Rounds.toNat - (n + 1)) + 1 := by omega
   rw [this, Nat.pow_succ]; omega
  rw [e]
  omega
theorem aCq {t : aN} (ht : TreeOK t) : (gL t).length + 1 = t.Slots.length := by
 have := aHm t t.Rounds.toNat (Nat.le_refl _)
 rw [ht.len]
 simpa [xQ, gL] using this
theorem Good.inn {t : aN} {l : List aF} {d : List Int} (hg : Good t l d) {m : aD} {v : Int} (h : eV d (Res l) m v) : ∃ r p : Nat, m = ⟨r, p⟩ ∧ r < t.Rounds.toNat ∧ p < bV t r := by
 have h1 := hg.ht.r1
 have hlen := hg.dok.len
 rcases h with ⟨j, hj, hb, rfl, _⟩ | ⟨x, hx, a, ha, he, _, q, hq, rfl⟩
 ·exact ⟨0, sib j / 2 ^ (0 + 1), rfl, by omega, rI hg.ht (aBo hg.ht (by omega)) (by omega)⟩
 ·have := (hg.rok hx).r1
  have := (hg.rok hx).r0
  exact ⟨q, a / 2 ^ (q + 1), rfl, by omega, rI hg.ht (by omega) (by omega)⟩
theorem aXs {t : aN} {l : List aF} {d : List Int} (hg : Good t l d) {must : List (List Int)} (hM : MustIs t must (eV d (Res l))) {won : List (aD × Int)} (hW : WonIs won (eV d (Res l))) : won.length + aAc t must + 1 = t.Slots.length := by
 have hs := aIs (kP must) (gL t)
 have hl := aCq hg.ht
 have hmem : ∀ m : aD, m ∈ won.map (·.1) ↔ m ∈ ((gL t).filter fun x => !kP must x).map fun x => (⟨x.1, x.2⟩ : aD) := by
  intro m
  rw [List.mem_map, List.mem_map]
  constructor
  ·rintro ⟨⟨m', v⟩, hv, rfl⟩
   have hP := (hW.mem _ _).1 hv
   obtain ⟨r, p, rfl, hr, hp⟩ := hg.inn hP
   refine ⟨(r, p), ?_, rfl⟩
   rw [List.mem_filter, zL]
   have := (hM.mem r p v hr hp).2 hP
   refine ⟨⟨hr, hp⟩, ?_⟩
   unfold kP
   rw [this.1]; simp [this.2]
  ·rintro ⟨x, hx, rfl⟩
   rw [List.mem_filter, zL] at hx
   obtain ⟨⟨hr, hp⟩, ho⟩ := hx
   have h2 : mat must x.1 x.2 ≠ -2 := by simpa [kP] using ho
   exact ⟨(⟨x.1, x.2⟩, mat must x.1 x.2), (hW.mem _ _).2 ((hM.mem x.1 x.2 _ hr hp).1 ⟨rfl, h2⟩), rfl⟩
 have hnd : (((gL t).filter fun x => !kP must x).map fun x => (⟨x.1, x.2⟩ : aD)).Nodup := by
  refine List.Pairwise.map _ (fun x y hxy e => hxy ?_) ((aIv t).filter _)
  simp only [aD.mk.injEq] at e
  exact Prod.ext (by omega) (by omega)
 have := aNm hW.nd hnd hmem
 rw [List.length_map, List.length_map] at this
 unfold aAc
 omega
section
variable {t : aN} {l : List aF} {d : List Int} (hg : Good t l d) {must : List (List Int)} (hM : MustIs t must (eV d (Res l)))
include hg hM
theorem aVg : fT t ⟨d, must⟩ BIG 0 0 = some (((aAc t must : Nat) : Int), 0) := by
 have ht := hg.ht
 have h1 := ht.r1
 have h5 := ht.r5
 have hil := aCq ht
 have h32 := ht.len32
 have hlen : ∀ n, n ≤ t.Rounds.toNat → ((xQ t n).filter (kP must)).length ≤ 40 := fun n hn => by
  have hA := List.length_filter_le (kP must) (xQ t n)
  have hB := aHm t n hn
  rw [← ht.len] at hB
  generalize 2 ^ (t.Rounds.toNat - n) = z at hB
  omega
 have := fP (S := Int) (fun k r n => fT t ⟨d, must⟩ k n r) t.Rounds.toNat (fun _ _ => some (((aAc t must : Nat) : Int), 0)) (fun r n => n = (((xQ t r).filter (kP must)).length : Nat)) ?_ ?_ BIG 0 (cX (by omega)) (by simp [xQ])
 ·exact this
 ·rintro k r n hr rfl ih
  have hlt : decide ((r : Int) < t.Rounds) = true := decide_eq_true (by omega)
  have hP := wQ ht (r := (r : Int)) (by omega) (by omega)
  have hpl := kF ht (r := (r : Int))
  have hl0 := hlen r (by omega)
  have hin := fP (S := Int) (fun q p n => jY (fT t ⟨d, must⟩ k) r t ⟨d, must⟩ q n p) (bV t r)
   (fun _ _ => sH (fT t ⟨d, must⟩ k) ((((xQ t (r + 1)).filter (kP must)).length : Nat) : Int) r t ⟨d, must⟩)
   (fun p n => n = ((((xQ t r).filter (kP must)).length + (((List.range p).map fun p : Nat => (r, p)).filter (kP must)).length : Nat) : Int)) ?_ ?_ BIG (((xQ t r).filter (kP must)).length : Nat) (cX (by omega)) (by simp)
  ·simp only [fT, hlt, cond_true]
   refine hin.trans ?_
   unfold sH wV
   rw [cI (show r < 9223372036854775807 by omega)]
   exact ih _ rfl
  ·rintro q p n hp rfl ih2
   have hle : (((List.range p).map fun p : Nat => (r, p)).filter (kP must)).length ≤ p := by
    have := List.length_filter_le (kP must) ((List.range p).map fun p : Nat => (r, p)); simpa using this
   have hi := aFv hM hr hp
   simp only [jY, hP, Option.bind_some, Int.ofNat_lt, hp, decide_true, cond_true, cI (show p < 9223372036854775807 by omega)]
   rw [← Option.bind_assoc, hi, Option.bind_some]
   have hst : (((List.range (p + 1)).map fun p : Nat => (r, p)).filter (kP must)).length = (((List.range p).map fun p : Nat => (r, p)).filter (kP must)).length + (if kP must (r, p) = true then 1 else 0) := by
    rw [List.range_succ, List.map_append, List.filter_append, List.length_append]
    congr 1
    simp only [List.map_cons, List.map_nil, List.filter_cons, List.filter_nil]
    split <;> rfl
   by_cases ho : mat must r p = -2
   ·have ho' : kP must (r, p) = true := by unfold kP; simp [ho]
    rw [ho', if_pos rfl] at hst
    simp only [ho, decide_true, cond_true]
    rw [cI (by omega)]
    exact ih2 _ (by rw [hst]; omega)
   ·have ho' : kP must (r, p) = false := by unfold kP; simp [ho]
    rw [ho'] at hst
    simp only [ho, decide_false, cond_false]
    exact ih2 _ (by rw [hst]; simp)
  ·rintro q n rfl
   have hlt2 : decide ((bV t r : Int) < (bV t r : Int)) = false := decide_eq_false (by omega)
   simp only [jY, hP, Option.bind_some, hlt2, cond_false, aLa, List.filter_append, List.length_append]
 ·rintro k n rfl
  have hlt : decide (((t.Rounds.toNat : Nat) : Int) < t.Rounds) = false := decide_eq_false (by omega)
  simp only [fT, hlt, cond_false, wU]
  rfl
end
theorem aUd {t : aN} {l : List aF} {e : Int} (h : Stat t l e) : mK t l = some (0, e) := by
 unfold mK
 rw [zW h, Option.bind_some]
 simp only [h.ne, Bool.not_false, cond_true]
theorem aKk {t : aN} {l : List aF} {d : List Int} (h : Good t l d) {must : List (List Int)} (hd : dW t l = some (⟨d, must⟩, true)) (hM : MustIs t must (eV d (Res l))) : mK t l = some (((aAc t must : Nat) : Int), 0) := by
 unfold mK
 exact (aKf _ _ (fun dd => fT t dd BIG 0 0) (fun r2 => (0, r2)) (xW h) hd).trans (aVg h hM)
theorem aUe (t : aN) (l : List aF) {o : Int × Int} (h : mK t l = some o) (Q : Int × Int → Prop) (hq : Q o) : sD t l Q := by
 unfold sD
 rcases vO t l with ⟨d, hg⟩ | ⟨e, he⟩
 ·obtain ⟨must, hd, hM⟩ := pY hg
  rw [aKk hg hd hM] at h; cases h
  refine aAf hg fun won hW => ?_
  have hl := aXs hg hM hW
  have h32 := hg.ht.len32
  simp only [decide_true, Bool.not_true, cond_false]
  refine ⟨_, rfl, _, rfl, ?_⟩
  have e : w64 (w64 ((t.Slots.length : Int) - 1) - (((won.map fun p : aD × Int => ((fun a : aD => Value.agg ((aK a).map bJ).toArray) p.1, aL p.2)).length : Nat) : Int)) = ((aAc t must : Nat) : Int) := by
   rw [List.length_map, dJ (show -9223372036854775808 ≤ (t.Slots.length : Int) - 1 by omega) (by omega), dJ (by omega) (by omega)]
   omega
  show Q (w64 (w64 ((t.Slots.length : Int) - 1) - (((won.map fun p : aD × Int => ((fun a : aD => Value.agg ((aK a).map bJ).toArray) p.1, aL p.2)).length : Nat) : Int)), 0)
  rw [e]
  exact hq
 ·rw [aUd he] at h; cases h
  refine aCz he ?_
  simp only [he.ne, Bool.not_false, cond_true]
  exact hq
def tG (d : List Int) (n : Int) : Int := match d.findIdx? (fun x => decide (n = x)) with | some i => (i : Int) | none => -1
theorem aPl {d : List Int} (hl : d.length ≤ 1000) (n : Int) : fZ d n = some (tG d n) := uW d (by omega) n
theorem aBc (d : List Int) (n : Int) : (tG d n = -1 ∧ ∀ a, a < d.length → d.getD a 0 ≠ n) ∨ ∃ a : Nat, tG d n = (a : Int) ∧ a < d.length ∧ d.getD a 0 = n := by
 unfold tG
 cases h : d.findIdx? (fun x => decide (n = x)) with
 | none =>
  refine .inl ⟨rfl, fun a ha e => ?_⟩
  rw [List.findIdx?_eq_none_iff] at h
  have := h _ (List.getElem_mem ha)
  rw [bT ha] at e
  simp [e] at this
 | some a =>
  obtain ⟨h1, h2, _⟩ := List.findIdx?_eq_some_iff_getElem.1 h
  refine .inr ⟨a, rfl, h1, ?_⟩
  rw [bT h1]
  simpa using (of_decide_eq_true h2).symm
theorem aVu {t : aN} {d : List Int} (hD : DOK t d) {a : Nat} (ha : a < d.length) (hn : d.getD a 0 ≠ -1) : tG d (d.getD a 0) = (a : Int) := by
 rcases aBc d (d.getD a 0) with ⟨_, h⟩ | ⟨b, h1, h2, h3⟩
 ·exact absurd rfl (h a ha)
 ·rw [h1, hD.uni ha h2 h3.symm hn]
theorem aTt {d : List Int} {must : List (List Int)} (hl : d.length ≤ 1000) (n : Int) : vA ⟨d, must⟩ n = some (tG d n) := by
 unfold vA tG
 rw [fP (S := Unit) (fun k i _ => mB n ⟨d, must⟩ k i) d.length (fun i _ => some (match (d.drop i).findIdx? (fun x => decide (n = x)) with | some j => ((i + j : Nat) : Int) | none => -1)) (fun _ _ => True) ?_ ?_ BIG () (cX (by omega)) trivial]
 ·simp
 ·intro k i _ hi _ ih
  have := ih () trivial
  simp only [mB, cC hi, Option.bind_some, cI (show i < 9223372036854775807 by omega), Int.ofNat_lt, hi, decide_true, cond_true, this]
  rw [List.drop_eq_getElem_cons hi, List.findIdx?_cons]
  by_cases h : d[i] = n
  ·simp [h]
  ·have h' : ¬ n = d[i] := fun e => h e.symm
   simp only [h, h', decide_false, cond_false, Bool.false_eq_true, if_false]
   cases List.findIdx? (fun x => decide (n = x)) (List.drop (i + 1) d) with
   | none => rfl
   | some j => simp; omega
 ·intro k _ _
  simp [mB, wZ]
theorem aXr {t : aN} {l : List aF} {e : Int} (h : Stat t l e) (ps : List Int) {Q : (Option bA × List Int × Int) → Prop} (hq : Q (none, [], e)) : pC t l ps Q := by
 unfold pC
 refine aCz h ?_
 simp only [h.ne, Bool.not_false, cond_true]
 exact hq
theorem aWc {t : aN} {l : List aF} {d : List Int} (hg : Good t l d) {ps : List Int} (hp : ps.length ≤ 1000) {Q : (Option bA × List Int × Int) → Prop}
  (h1 : (∃ n ∈ ps, wi n 0 999 = false) → Q (none, [], 1)) (h0 : (∀ n ∈ ps, wi n 0 999 = true) → ∀ won, WonIs won (eV d (Res l)) → Q (some ⟨t, d, won⟩, ps.map (tG d), 0)) : pC t l ps Q := by
 have hlen := hg.dok.len
 have h32 := hg.ht.len32
 unfold pC
 refine aAf hg fun won hW => ?_
 simp only [decide_true, Bool.not_true, cond_false]
 refine qB (S := List Int) (fun k i slots => lN Q ps ps.length k (some ⟨t, d, won⟩) i slots) ps.length (fun x => x) (fun i slots => slots = (ps.take i).map (tG d) ∧ ∀ n ∈ ps.take i, wi n 0 999 = true) ?_ ?_ BIG 0 [] (cX (by omega)) ⟨by simp, by simp⟩
 ·rintro k i slots hi ⟨rfl, hall⟩ ih
  have ht1 : ps.take (i + 1) = ps.take i ++ [ps[i]] := List.take_succ_eq_append_getElem hi
  simp only [lN, Int.ofNat_lt, hi, decide_true, cond_true, cC hi, sC, cI (show i < 9223372036854775807 by omega)]
  refine ⟨_, rfl, _, rfl, ?_⟩
  cases hw : wi ps[i] 0 999 with
  | false =>
   simp only [Bool.not_false, cond_true]
   exact h1 ⟨_, List.getElem_mem hi, hw⟩
  | true =>
   simp only [Bool.not_true, cond_false]
   refine ⟨_, rfl, _, aPl (show d.length ≤ 1000 by omega) _, _, fQ (by simp; omega), ih _ ⟨by rw [ht1, List.map_append]; rfl, fun n hn => ?_⟩⟩
   rw [ht1, List.mem_append, List.mem_singleton] at hn
   rcases hn with hn | rfl
   ·exact hall n hn
   ·exact hw
 ·rintro k i slots hi ⟨rfl, hall⟩
  have hlt : decide ((i : Int) < (ps.length : Int)) = false := decide_eq_false (by omega)
  have hta : ps.take i = ps := List.take_of_length_le (by omega)
  rw [hta] at hall
  simp only [lN, hlt, cond_false, wC, hta]
  exact h0 hall won hW
def wK (t : aN) (d : List Int) (must : List (List Int)) (n : Int) : dZ × Int :=
 if wi n 0 999 = true then (if tG d n < 0 then (⟨0, 0⟩, 3) else (⟨leftFrom t d must (tG d n).toNat, mostFrom t d must (tG d n).toNat⟩, 0)) else (⟨0, 0⟩, 1)
where
 leftFrom (t : aN) (d : List Int) (must : List (List Int)) (a : Nat) : Int := zI d must a t
 mostFrom (t : aN) (d : List Int) (must : List (List Int)) (a : Nat) : Int := tF d must a t
theorem aOt {t : aN} {l : List aF} {e : Int} (h : Stat t l e) (n : Int) : kB t l n = some (⟨0, 0⟩, e) := by
 unfold kB
 rw [zW h, Option.bind_some]
 simp only [h.ne, Bool.not_false, cond_true]
theorem aDw {t : aN} {l : List aF} {d : List Int} (hg : Good t l d) {must : List (List Int)} (hd : dW t l = some (⟨d, must⟩, true)) (hM : MustIs t must (eV d (Res l))) (n : Int) : kB t l n = some (wK t d must n) := by
 have hlen := hg.dok.len
 have h32 := hg.ht.len32
 unfold kB
 rw [xW hg, Option.bind_some, sP]
 simp only [decide_true, Bool.not_true, cond_false, Option.bind_some]
 unfold wK
 cases hw : wi n 0 999 with
 | false => simp
 | true =>
  simp only [Bool.not_true, cond_false, hd, Option.bind_some, aTt (show d.length ≤ 1000 by omega), if_true]
  rcases aBc d n with ⟨h1, _⟩ | ⟨a, h1, ha, he⟩
  ·rw [h1]; rfl
  ·have hneg : decide ((a : Int) < 0) = false := decide_eq_false (by omega)
   have hneg' : ¬ ((a : Int) < 0) := by omega
   simp only [h1, hneg, hneg', cond_false, if_false, aSy hg.ht hg.dok hM ha, aNr hg.ht hg.dok hM ha, Option.bind_some, Int.toNat_natCast]
   rfl
theorem aOu (t : aN) (l : List aF) (n : Int) {o : dZ × Int} (h : kB t l n = some o) (Q : dZ × Int → Prop) (hq : Q o) : oO t l n Q := by
 unfold oO
 rcases vO t l with ⟨d, hg⟩ | ⟨e, he⟩
 ·obtain ⟨must, hd, hM⟩ := pY hg
  rw [aDw hg hd hM] at h; cases h
  unfold wK at hq
  refine aWc hg (by simp) (fun ⟨x, hx, hw⟩ => ?_) fun hall won hW => ?_
  ·rw [List.mem_singleton] at hx
   subst hx
   rw [hw] at hq
   exact hq
  ·have hw := hall n (by simp)
   rw [hw, if_pos rfl] at hq
   simp only [decide_true, Bool.not_true, cond_false, List.map_cons, List.map_nil, aHn]
   refine ⟨_, rfl, ?_⟩
   rcases aBc d n with ⟨h1, _⟩ | ⟨a, h1, ha, he⟩
   ·rw [h1] at hq ⊢
    exact hq
   ·have hneg : decide ((a : Int) < 0) = false := decide_eq_false (by omega)
    have hneg' : ¬ ((a : Int) < 0) := by omega
    rw [h1, if_neg hneg'] at hq
    simp only [h1, hneg, cond_false]
    exact ⟨_, rfl, _, rfl, _, aYg hg.ht hg.dok hM hW ha, _, rfl, _, aMt hg.ht hg.dok hM hW ha, hq⟩
 ·rw [aOt he] at h; cases h
  refine aXr he _ ?_
  simp only [he.ne, Bool.not_false, cond_true]
  exact hq
section
variable {t : aN} {l : List aF} {d : List Int} (hg : Good t l d) {must : List (List Int)} (hM : MustIs t must (eV d (Res l)))
include hg hM
end
theorem min2 (a b : Int) : aBp [a, b] = some (min a b) := by
 have key := fP (S := Int) (fun k i m => nB [a, b] k m ((i : Int) + 1)) 1 (fun i m => some (if i = 0 then min m b else m)) (fun _ _ => True) ?_ ?_ BIG a (cX (by omega)) trivial
 ·unfold aBp
  have h1 : decide ((([a, b] : List Int).length : Int) < 1) = false := decide_eq_false (by simp)
  rw [h1, cond_false, aHn, Option.bind_some]
  simpa using key
 ·intro k i m hi _ ih
  have : i = 0 := by omega
  subst this
  have h1 : decide (((0 : Nat) : Int) + 1 < (([a, b] : List Int).length : Int)) = true := decide_eq_true (by simp)
  have i1 : idx [a, b] (((0 : Nat) : Int) + 1) = some b := rfl
  have w2 : w64 (((0 : Nat) : Int) + 1 + 1) = ((0 + 1 : Nat) : Int) + 1 := by decide +kernel
  simp only [nB, h1, cond_true, i1, Option.bind_some, w2, ih _ trivial]
  rfl
 ·intro k m _
  have h1 : decide (((1 : Nat) : Int) + 1 < (([a, b] : List Int).length : Int)) = false := decide_eq_false (by simp)
  simp only [nB, h1, cond_false, xV]
  rfl
end Go.Am
end
section
namespace Go.Am
theorem aEb (a0 : aN) (a1 : List aF) (a2 a3 : Int) {r} (h : qK a0 a1 a2 a3 = some r) (Q : Int × Int → Prop) (hq : Q r) : pN a0 a1 a2 a3 Q := aQl a0 a1 a2 a3 h Q hq
theorem aIj (a0 : aN) (a1 : List aF) (a2 a3 : Int) {r} (h : xL a0 a1 a2 a3 = some r) (Q : List Int × Int → Prop) (hq : Q r) : tQ a0 a1 a2 a3 Q := aWo a0 a1 a2 a3 h Q hq
theorem aGx (a0 : aN) (a1 : List aF) {r} (h : sY a0 a1 = some r) (Q : Int × Int → Prop) (hq : Q r) : sD a0 a1 Q := aUe a0 a1 h Q hq
theorem aDr (a0 : aN) (a1 : List aF) (a2 : Int) {r} (h : mX a0 a1 a2 = some r) (Q : dZ × Int → Prop) (hq : Q r) : oO a0 a1 a2 Q := aOu a0 a1 a2 h Q hq
end Go.Am
end
section
namespace Go.Am
end Go.Am
end
section
namespace Go.Am
end Go.Am
end
section
namespace Go.Am
theorem aOw {t : aN} (ht : TreeOK t) (d : List Int) (must : List (List Int)) : (iR t d must).length + 1 = t.Slots.length := by
 rw [xZ, List.length_map]; exact aCq ht
end Go.Am
end
section
namespace Go.Am
def tW (d : List Int) (must : List (List Int)) (x : Nat × Nat) : Bool := decide (mat must x.1 x.2 = -2) && (decide (0 ≤ gF d must x.1 (2 * x.2)) && decide (0 ≤ gF d must x.1 (2 * x.2 + 1)))
def pV (must : List (List Int)) (b : cA) : Bool := decide (mat must b.Round.toNat b.Place.toNat = -2) && (decide (0 ≤ b.One) && decide (0 ≤ b.Two))
def pW (t : aN) (d : List Int) (must : List (List Int)) : List cA := (iR t d must).filter (pV must)
theorem aJj (t : aN) (d : List Int) (must : List (List Int)) : pW t d must = ((gL t).filter (tW d must)).map (mI d must) := by
 unfold pW
 rw [xZ, List.filter_map]
 rfl
theorem aRl {t : aN} (ht : TreeOK t) (d : List Int) (must : List (List Int)) : (pW t d must).length ≤ 32 := by
 have h1 := List.length_filter_le (pV must) (iR t d must)
 have h2 := aOw ht d must
 have h3 := ht.len32
 unfold pW
 omega
section
variable {t : aN} {l : List aF} {d : List Int} (hg : Good t l d) {must : List (List Int)} (hM : MustIs t must (eV d (Res l)))
include hg hM
theorem aTk : gD (iR t d must) ⟨d, must⟩ BIG 0 [] = some (pW t d must, 0) := by
 have hil := aCq hg.ht
 have h32 := hg.ht.len32
 have hbl : (iR t d must).length = (gL t).length := by rw [xZ, List.length_map]
 have := fP (S := List cA) (fun k i out => gD (iR t d must) ⟨d, must⟩ k i out) (iR t d must).length (fun _ _ => some (pW t d must, 0)) (fun i out => out = ((iR t d must).take i).filter (pV must)) ?_ ?_ BIG [] (cX (by omega)) (by simp)
 ·exact this
 ·rintro k i out hi rfl ih
  have hii : i < (gL t).length := by omega
  have hlt : decide ((i : Int) < ((iR t d must).length : Int)) = true := decide_eq_true (by omega)
  have hb : (iR t d must)[i] = mI d must (gL t)[i] := by simp only [xZ, List.getElem_map]
  obtain ⟨hr, hp⟩ := zL.1 (List.getElem_mem hii)
  have ht1 : (iR t d must).take (i + 1) = (iR t d must).take i ++ [(iR t d must)[i]] := List.take_succ_eq_append_getElem hi
  have hfl := List.length_filter_le (pV must) ((iR t d must).take i)
  have htl : ((iR t d must).take i).length ≤ i := by simp; omega
  have hm := aFv hM hr hp
  have hrb : pV must (mI d must (gL t)[i]) = (decide (mat must (gL t)[i].1 (gL t)[i].2 = -2) && (decide (0 ≤ (mI d must (gL t)[i]).One) && decide (0 ≤ (mI d must (gL t)[i]).Two))) := by
   unfold pV; simp only [mI, Int.toNat_natCast]; rfl
  rw [ht1, hb] at ih
  simp only [gD, hlt, cond_true, cC hi, hb, Option.bind_some, dQ, cI (show i < 9223372036854775807 by omega)]
  have hmm : ((idx must (mI d must (gL t)[i]).Round).bind fun x11 => (idx x11 (mI d must (gL t)[i]).Place).bind fun x13 => some (decide (x13 = (-2)))) = some (decide (mat must (gL t)[i].1 (gL t)[i].2 = -2)) := by
   have e1 : (mI d must (gL t)[i]).Round = ((gL t)[i].1 : Int) := rfl
   have e2 : (mI d must (gL t)[i]).Place = ((gL t)[i].2 : Int) := rfl
   rw [e1, e2, ← Option.bind_assoc, hm, Option.bind_some]
  have hcond : (bif (decide (0 ≤ (mI d must (gL t)[i]).One) && decide (0 ≤ (mI d must (gL t)[i]).Two)) then ((idx must (mI d must (gL t)[i]).Round).bind fun x11 => (idx x11 (mI d must (gL t)[i]).Place).bind fun x13 => some (decide (x13 = (-2)))) else (some false)) = some (pV must (mI d must (gL t)[i])) := by
   rw [hmm, dQ, hrb]
   congr 1
   exact Bool.and_comm _ _
  rw [hcond, Option.bind_some]
  cases hrd : pV must (mI d must (gL t)[i]) with
  | true =>
   rw [cond_true, fQ (by simp; omega), Option.bind_some]
   refine ih _ ?_
   rw [List.filter_append]; simp [hrd]
  | false =>
   rw [cond_false]
   refine ih _ ?_
   rw [List.filter_append]; simp [hrd]
 ·rintro k out rfl
  have hlt : decide (((iR t d must).length : Int) < ((iR t d must).length : Int)) = false := decide_eq_false (by omega)
  simp only [gD, hlt, cond_false, vU, List.take_length]
  rfl
theorem aRm {won : List (aD × Int)} (hW : WonIs won (eV d (Res l))) {o : Option bA} (ho : o = some ⟨t, d, won⟩) : iZ (S := List cA) ⟨t, d, won⟩ (fun s7 x8 x9 => o.bind fun x12 =>
  (bif !(cO x8 x12.won) then (some (decide (0 ≤ (min x9.One x9.Two)))) else (some false)).bind fun b13 => bif b13 then ((app 32 s7 ([x9])).bind fun x14 => some x14) else (some s7)) [] = some (pW t d must) := by
 subst ho
 refine aQy hg.ht hg.dok hM hW _ (fun out => out.filter (pV must)) (fun _ => True) fun out r p hr hp hl => ?_
 have hfl := List.length_filter_le (pV must) out
 have hh := zJ hW hM hr hp
 have hmin : decide (0 ≤ min (gF d must r (2 * p)) (gF d must r (2 * p + 1))) = (decide (0 ≤ gF d must r (2 * p)) && decide (0 ≤ gF d must r (2 * p + 1))) := by
  rw [Bool.eq_iff_iff]; simp only [Bool.and_eq_true, decide_eq_true_eq]; omega
 have hrb : pV must ⟨r, p, gF d must r (2 * p), gF d must r (2 * p + 1)⟩ = (decide (mat must r p = -2) && (decide (0 ≤ gF d must r (2 * p)) && decide (0 ≤ gF d must r (2 * p + 1)))) := by
  unfold pV; simp only [Int.toNat_natCast]
 rw [Option.bind_some, hh, Bool.not_not, hmin, dQ, ← hrb, Option.bind_some]
 cases hrd : pV must ⟨r, p, gF d must r (2 * p), gF d must r (2 * p + 1)⟩ with
 | true =>
  rw [cond_true, fQ (by simp; omega), Option.bind_some]
  simp [hrd]
 | false => simp [hrd]
end
theorem aSd {t : aN} {l : List aF} {e : Int} (h : Stat t l e) : lP t l = some ([], e) := by
 unfold lP
 rw [zW h, Option.bind_some]
 simp only [h.ne, Bool.not_false, cond_true]
theorem aIc {t : aN} {l : List aF} {d : List Int} (hg : Good t l d) {must : List (List Int)} (hd : dW t l = some (⟨d, must⟩, true)) (hM : MustIs t must (eV d (Res l))) : lP t l = some (pW t d must, 0) := by
 unfold lP
 refine (aKf _ _ (fun dd => (qR t dd).bind fun r5 => gD r5 dd BIG 0 []) (fun r2 => ([], r2)) (xW hg) hd).trans ?_
 rw [aSi hg.ht hg.dok hM, Option.bind_some]
 exact aTk hg hM
theorem aSe (t : aN) (l : List aF) {r : List cA × Int} (h : lP t l = some r) (Q : List cA × Int → Prop) (hq : Q r) : rB t l Q := by
 unfold rB
 rcases vO t l with ⟨d, hg⟩ | ⟨e, he⟩
 ·obtain ⟨must, hd, hM⟩ := pY hg
  rw [aIc hg hd hM] at h; cases h
  refine aAf hg fun won hW => ?_
  simp only [decide_true, Bool.not_true, cond_false]
  exact ⟨_, rfl, _, aRm hg hM hW rfl, hq⟩
 ·rw [aSd he] at h; cases h
  refine aCz he ?_
  simp only [he.ne, Bool.not_false, cond_true]
  exact hq
end Go.Am
end
section
namespace Go.Am
theorem aGd (a0 : aN) (a1 : List aF) {r} (h : rX a0 a1 = some r) (Q : List cA × Int → Prop) (hq : Q r) : rB a0 a1 Q := aSe a0 a1 h Q hq
end Go.Am
end
