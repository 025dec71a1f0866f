/- Purses: courses. -/
import Derived.Test.YtoflekecpkjghaaGreatBkPlain5
import Derived.Test.YtoflekecpkjghaaGreatBracketCourseLaw
namespace Go.Am
theorem aWp (l : List Int) (z : Int) (q : Int → Bool) : (l.filter q).length = ((List.range l.length).filter fun i => q (l.getD i z)).length := by
 have e : l = (List.range l.length).map fun i => l.getD i z := by
  refine List.ext_getElem (by simp) fun i h1 h2 => ?_
  rw [List.getElem_map, List.getElem_range, bO h1]
 have : l.filter q = ((List.range l.length).filter fun i => q (l.getD i z)).map fun i => l.getD i z := by
  conv => lhs; rw [e]
  rw [List.filter_map]
  rfl
 rw [this, List.length_map]
theorem aPa {bad : Nat → Bool} {n r : Nat} (hr : r < n) (h : ∀ q, q ≤ r → bad q = false) : r < mE bad n := (tK hr).2 h
section
variable {t : aR} (ht : TreeOK t) {d : List Int} (hD : DOK t d) {course : List (List Int)} (hC : pO t d course)
include ht hD hC
theorem aVj {a : Nat} (ha : a < d.length) (hn : d.getD a 0 ≠ -1) {r : Nat} (hr : r < t.Rounds.toNat) : ((course.getD r []).filter fun x => decide (x = d.getD a 0)).length = if r < oD t d course a then 1 else 0 := by
 have hlen := hD.len
 have hrow := hC.row r hr
 rw [aWp _ (-2), hrow]
 have hmem : ∀ q, q < cQ t r → mat course r q = d.getD a 0 → q = a / 2 ^ (r + 1) ∧ r < oD t d course a := fun q hq he => by
  obtain ⟨b, hb, hc, hv, hall⟩ := aIv ht hD hC hr hq
  have hab : a = b := hD.uni ha hb (by rw [hv, he]) hn
  subst hab
  simp only [cell, aG.mk.injEq] at hc
  refine ⟨by omega, aPa hr fun q' hq' => ?_⟩
  rw [hall q' hq', decide_eq_true rfl]; rfl
 split
 ·rename_i hlt
  have hb := (tK (bad := fun q => !decide (mat course q (a / 2 ^ (q + 1)) = d.getD a 0)) hr).1 hlt r (Nat.le_refl _)
  simp only [Bool.not_eq_false', decide_eq_true_eq] at hb
  refine aPi (l' := [a / 2 ^ (r + 1)]) (List.nodup_range.filter _) (List.nodup_cons.2 ⟨by simp, List.nodup_nil⟩) fun q => ?_
  rw [List.mem_filter, List.mem_range, decide_eq_true_eq, List.mem_singleton]
  refine ⟨fun hq => (hmem q hq.1 hq.2).1, fun hq => ?_⟩
  subst hq
  exact ⟨rN ht (hlen ▸ ha) hr, hb⟩
 ·rename_i hlt
  rw [List.length_eq_zero_iff, List.filter_eq_nil_iff]
  intro q hq hd
  exact hlt (hmem q (List.mem_range.1 hq) (of_decide_eq_true hd)).2
end
def sY (course : List (List Int)) (x : Int) (n : Nat) : Nat := ((List.range n).map fun r => ((course.getD r []).filter fun y => decide (y = x)).length).sum
theorem aFm (course : List (List Int)) (x : Int) (n : Nat) : sY course x (n + 1) = sY course x n + ((course.getD n []).filter fun y => decide (y = x)).length := by
 unfold sY
 rw [List.range_succ, List.map_append, List.sum_append, List.map_singleton, List.sum_singleton]
theorem aWc {t : aR} (ht : TreeOK t) {d : List Int} (hD : DOK t d) {course : List (List Int)} (hC : pO t d course) {a : Nat} (ha : a < d.length) (hn : d.getD a 0 ≠ -1) : sY course (d.getD a 0) t.Rounds.toNat = oD t d course a := by
 have key : ∀ n, n ≤ t.Rounds.toNat → sY course (d.getD a 0) n = min n (oD t d course a) := by
  intro n
  induction n with
  | zero => intro _; simp [sY]
  | succ n ih =>
   intro hn'
   rw [aFm, ih (by omega), aVj ht hD hC ha hn (by omega)]
   split <;> omega
 rw [key _ (Nat.le_refl _)]
 have : oD t d course a ≤ t.Rounds.toNat := rF _ _
 omega
theorem aRa {bad : Nat → Bool} {n r : Nat} (hr : r ≤ n) (h : ∀ q, q < r → bad q = false) : r ≤ mE bad n := by
 cases r with
 | zero => exact Nat.zero_le _
 | succ r => exact (tK (by omega)).2 fun q hq => h q (by omega)
theorem aNv {t : aR} (d : List Int) (must : List (List Int)) (a : Nat) : rS d must a t ≤ xK d must a t := by
 have h1 : rS d must a t ≤ t.Rounds.toNat := rF _ _
 refine aRa h1 fun q hq => ?_
 have := (tK (bad := aCm d must a) (n := t.Rounds.toNat) (r := q) (by omega)).1 hq q (Nat.le_refl _)
 unfold aCm at this
 unfold aDu
 rw [this, Bool.and_false]
theorem aMe {p : aP} {d : List Int} (h : GP p d) (person : Int) (t : bR) {n : Int} (h0 : (iP p d t.Player).2 = 0) (h1 : (iP p d t.Player).1.Low ≤ n) (h2 : n ≤ (iP p d t.Player).1.High) : (sX p d person t).Low ≤ qA t person (jY p n) ∧ qA t person (jY p n) ≤ (sX p d person t).High := by
 have hr := aHu h t.Player
 unfold sX
 rw [if_pos h0]
 have q1 := kO h.prizes hr.1.1 hr.1.2
 have q2 := kO h.prizes (i := n) (by omega) (by omega)
 exact ⟨aMc q1.2.1 (aLr h.prizes hr.1.1 h1 (by omega)), aMc q2.2.1 (aLr h.prizes (by omega) h2 hr.2.2)⟩
theorem aRj {p : aP} {d : List Int} (h : GP p d) (x : Int) (h0 : (iP p d x).2 = 0) : (iP p d x).1.Low ≤ (iP p d x).1.High := by
 unfold iP oQ at *
 by_cases hw : wi x 0 999 = true
 ·rw [if_pos hw] at h0 ⊢
  split
  ·rename_i hlt; rw [if_pos hlt] at h0; simp at h0
  ·have := aNv (t := p.Tree) d (yQ p) (sW d x).toNat
   unfold oQ.leftFrom oQ.mostFrom
   show ((rS _ _ _ _ : Nat) : Int) ≤ ((xK _ _ _ _ : Nat) : Int)
   omega
 ·rw [if_neg hw] at h0; simp at h0
theorem aRb {p : aP} {d : List Int} (h : GP p d) (n : Int) : (eK p d n).Low ≤ (eK p d n).High := by
 unfold eK
 cases tH p n with
 | none => exact Int.le_refl _
 | some t =>
  by_cases h0 : (iP p d t.Player).2 = 0
  ·have hr := aRj h t.Player h0
   have := aMe h n t h0 (Int.le_refl _) hr
   exact Int.le_trans this.1 this.2
  ·show (sX p d n t).Low ≤ (sX p d n t).High
   unfold sX; rw [if_neg h0]; exact Int.le_refl _
theorem bAg {p : aP} {d : List Int} (h : GP p d) {t : bR} (ht : t ∈ p.Teams) (h2 : 0 ≤ t.Two) : (0 ≤ (eK p d t.One).Low - (eK p d t.Two).Low ∧ (eK p d t.One).Low - (eK p d t.Two).Low ≤ 1) ∧ (0 ≤ (eK p d t.One).High - (eK p d t.Two).High ∧ (eK p d t.One).High - (eK p d t.Two).High ≤ 1) := by
 have hne : t.Two ≠ -1 := by omega
 have e : fM t = [t.One, t.Two] := by unfold fM; rw [if_neg hne]
 have g1 : eK p d t.One = sX p d t.One t := by unfold eK; rw [aQj h ht (n := t.One) (by rw [e]; exact List.mem_cons_self)]
 have g2 : eK p d t.Two = sX p d t.Two t := by unfold eK; rw [aQj h ht (n := t.Two) (by rw [e]; exact List.mem_cons_of_mem _ List.mem_cons_self)]
 have h12 := aSk h ht hne
 rw [g1, g2]
 unfold sX
 split
 ·have hr := aHu h t.Player
  have q1 := (kO h.prizes hr.1.1 hr.1.2).2.1
  have q2 := (kO h.prizes hr.2.1 hr.2.2).2.1
  generalize jY p (iP p d t.Player).1.Low = x at *
  generalize jY p (iP p d t.Player).1.High = y at *
  unfold qA
  simp only [if_neg hne, if_neg h12, if_pos]
  rw [Int.tdiv_eq_ediv_of_nonneg (show 0 ≤ x + 1 by omega), Int.tdiv_eq_ediv_of_nonneg q1, Int.tdiv_eq_ediv_of_nonneg (show 0 ≤ y + 1 by omega), Int.tdiv_eq_ediv_of_nonneg q2]
  omega
 ·simp
end Go.Am
