/- The plain law BracketLeft. -/
import Derived.Test.YtenffgkkeafnpaaBbPlain1
import Derived.Test.YtenffgkkeafnpaaBracketCourse1
namespace Go.Am

section
variable {t : aO} {l : List aE} {d : List Int} (hg : Good t l d) {must : List (List Int)} (hM : MustIs t must (eA d (Res l)))
include hg hM
omit hg hM in
theorem aIj {b : bA} (h : b ∈ gO t d must) : ∃ r p : Nat, r < t.Rounds.toNat ∧ p < bZ t r ∧ b = ⟨r, p, dJ d must r (2 * p), dJ d must r (2 * p + 1)⟩ ∧ mat must r p = -2 ∧ 0 ≤ dJ d must r (2 * p) ∧ 0 ≤ dJ d must r (2 * p + 1) := by
  rw [wD, List.mem_map] at h
  obtain ⟨x, hx, rfl⟩ := h
  rw [List.mem_filter] at hx
  obtain ⟨h1, h2⟩ := lG.1 hx.1
  simp only [mQ, Bool.and_eq_true, decide_eq_true_eq] at hx
  exact ⟨x.1, x.2, h1, h2, rfl, hx.2.1, hx.2.2.1, hx.2.2.2⟩
/-- Who is sure to play in a match. -/
theorem aJb {r p s : Nat} (hr : r < t.Rounds.toNat) (hp : p < bZ t r) (hs : s < 2) (h0 : 0 ≤ dJ d must r (2 * p + s)) : ∃ a, a < d.length ∧ d.getD a 0 = dJ d must r (2 * p + s) ∧ cell a r = ⟨r, p⟩ ∧ ∀ q, q < r → eA d (Res l) (cell a q) (d.getD a 0) := by
  have hlen := hg.dok.len
  by_cases hr0 : r = 0
  · subst hr0
    have hp0 := rI hg.ht
    have hp' : p < bZ t 0 := hp
    refine ⟨2 * p + s, by omega, by simp [dJ], ?_, by omega⟩
    have : (2 * p + s) / 2 = p := by omega
    simp [cell, this]
  · have hph := rK (t := t) (r := r - 1) (by omega)
    have e : r - 1 + 1 = r := by omega
    rw [e] at hph
    have hsd : dJ d must r (2 * p + s) = mat must (r - 1) (2 * p + s) := by unfold dJ; rw [if_neg hr0]
    rw [hsd] at h0 ⊢
    obtain ⟨a, ha, hv, hn, hc, _, hall⟩ := hg.down ((hM.mem (r - 1) (2 * p + s) _ (by omega) (by omega)).1 ⟨rfl, by omega⟩)
    refine ⟨a, ha, hv.symm, ?_, fun q hq => by rw [← hv]; exact hall q (by omega)⟩
    have hcp : a / 2 ^ r = 2 * p + s := by
      simp only [cell, aB.mk.injEq] at hc
      rw [e] at hc
      exact Int.ofNat_inj.1 hc.2
    have : a / 2 ^ (r + 1) = p := by
      have h2 : a / 2 ^ (r + 1) = a / 2 ^ r / 2 := by rw [Nat.pow_succ, Nat.div_div_eq_div_mul]
      rw [h2, hcp]; omega
    simp only [cell, this]
/-- One more result of a match that is ready. -/
theorem aCl {r p : Nat} (hr : r < t.Rounds.toNat) (hp : p < bZ t r) (ho : mat must r p = -2) (h1 : 0 ≤ dJ d must r (2 * p)) (h2 : 0 ≤ dJ d must r (2 * p + 1)) (hl : l.length < 60) :
    Good t (l ++ [⟨1, r, p, dJ d must r (2 * p + 1), 0⟩]) d ∧ ∀ m v, eA d (Res (l ++ [⟨1, r, p, dJ d must r (2 * p + 1), 0⟩])) m v ↔ eA d (Res l) m v ∨ (m = ⟨r, p⟩ ∧ v = dJ d must r (2 * p + 1)) := by
  have hlen := hg.dok.len
  have hopen : ∀ v, ¬ eA d (Res l) ⟨r, p⟩ v := fun v hv => by
    have := (hM.mem r p v hr hp).2 hv
    exact this.2 (this.1.symm.trans ho)
  obtain ⟨a, ha, he, hc, hall⟩ := aJb hg hM hr hp (s := 1) (by omega) h2
  have ha9 := hg.le999 ha
  have hpa : p = a / 2 ^ (r + 1) := by simp only [cell, aB.mk.injEq] at hc; exact (Int.ofNat_inj.1 hc.2).symm
  have hbye : ¬ (r = 0 ∧ aBm t p = true) := by
    rintro ⟨rfl, hb⟩
    have hp0 := rI hg.ht
    have hp' : p < bZ t 0 := hp
    simp only [dJ, if_true] at h1 h2
    unfold aBm at hb
    rw [Bool.or_eq_true, decide_eq_true_eq, decide_eq_true_eq, ← hg.dok.bye (2 * p) (by omega), ← hg.dok.bye (2 * p + 1) (by omega)] at hb
    omega
  have hs : eL t ⟨1, r, p, dJ d must r (2 * p + 1), 0⟩ = true := by
    have := aJi hg.ht (a := a) (k := r) (n := dJ d must r (2 * p + 1)) (hlen ▸ ha) hr h2 (by omega) (by rw [← hpa]; exact hbye)
    rw [← hpa] at this
    exact this
  have hx : (⟨1, r, p, dJ d must r (2 * p + 1), 0⟩ : aE).Kind ≠ 5 := by simp
  have hco : nI (eA d (Res l)) (clm d a r) := by
    rintro m v w hP ⟨rfl, q, hq, rfl⟩
    by_cases hqr : q = r
    · subst hqr; rw [hc] at hP; exact absurd hP (hopen v)
    · exact hg.fn _ _ _ hP (hall q (by omega))
  refine ⟨hg.add hx hs hl ha he hc hco fun y hy k5 e1 e2 => ?_, fun m v => (tF hg hx hs ha he m v).trans ?_⟩
  · obtain ⟨c, hc', e3, e4⟩ := hg.agr.2.slot y ⟨hy, k5⟩
    refine absurd (.inr ⟨y, ⟨hy, k5⟩, c, hc', e3, rfl, y.Round.toNat, Nat.le_refl _, ?_⟩) (hopen (d.getD c 0))
    rw [e4, e1, e2]
  · constructor
    · rintro (h | ⟨rfl, q, hq, rfl⟩)
      · exact .inl h
      · by_cases hqr : q = r
        · exact .inr ⟨by rw [hqr]; exact hc, he⟩
        · have hq' : q < r := by
            have : q ≤ r := hq
            omega
          exact .inl (hall q hq')
    · rintro (h | ⟨rfl, rfl⟩)
      · exact .inl h
      · exact .inr ⟨he.symm, r, Nat.le_refl _, hc.symm⟩
theorem aIh {r p : Nat} (hr : r < t.Rounds.toNat) (hp : p < bZ t r) (ho : mat must r p = -2) (h1 : 0 ≤ dJ d must r (2 * p)) (h2 : 0 ≤ dJ d must r (2 * p + 1)) {must' : List (List Int)} (hM' : MustIs t must' (eA d (Res (l ++ [⟨1, r, p, dJ d must r (2 * p + 1), 0⟩])))) (hl : l.length < 60) : kL t must' + 1 = kL t must := by
  obtain ⟨_, hC⟩ := aCl hg hM hr hp ho h1 h2 hl
  have hmem : ∀ x : Nat × Nat, x ∈ (r, p) :: (dE t).filter (eU must') ↔ x ∈ (dE t).filter (eU must) := by
    intro x
    rw [List.mem_cons, List.mem_filter, List.mem_filter]
    simp only [eU, decide_eq_true_eq]
    constructor
    · rintro (rfl | ⟨hx, ho'⟩)
      · exact ⟨lG.2 ⟨hr, hp⟩, ho⟩
      · obtain ⟨g1, g2⟩ := lG.1 hx
        refine ⟨hx, Classical.byContradiction fun hn => ?_⟩
        have := (hM'.mem x.1 x.2 _ g1 g2).2 ((hC _ _).2 (.inl ((hM.mem x.1 x.2 _ g1 g2).1 ⟨rfl, hn⟩)))
        exact this.2 (this.1.symm.trans ho')
    · rintro ⟨hx, hx2⟩
      obtain ⟨g1, g2⟩ := lG.1 hx
      by_cases e : x = (r, p)
      · exact .inl e
      · refine .inr ⟨hx, Classical.byContradiction fun hn => ?_⟩
        rcases (hC _ _).1 ((hM'.mem x.1 x.2 _ g1 g2).1 ⟨rfl, hn⟩) with h | ⟨h, _⟩
        · have := (hM.mem x.1 x.2 _ g1 g2).2 h
          exact this.2 (this.1.symm.trans hx2)
        · simp only [aB.mk.injEq] at h
          exact e (Prod.ext (by omega) (by omega))
  have hnd : ((r, p) :: (dE t).filter (eU must')).Nodup := by
    refine List.nodup_cons.2 ⟨fun hm => ?_, (vQ t).filter _⟩
    rw [List.mem_filter] at hm
    have hoo : mat must' r p = -2 := by simpa [eU] using hm.2
    have := (hM'.mem r p _ hr hp).2 ((hC _ _).2 (.inr ⟨rfl, rfl⟩))
    exact this.2 (this.1.symm.trans hoo)
  have := aAq hnd ((vQ t).filter _) hmem
  unfold kL
  simpa using this
/-- Without slips some match is ready, if one is open. -/
theorem aHj (hl : l = []) (hn : 0 < kL t must) : gO t d must ≠ [] := by
  subst hl
  have hD := hg.dok
  have hlen := hD.len
  have hp0 := rI hg.ht
  have h1 := hg.ht.r1
  have hP : ∀ m v, eA d (Res []) m v → aGo d m v := fun m v h => h.elim id fun ⟨x, hx, _⟩ => absurd hx.1 (by simp)
  have hin : ∀ x, x ∈ dE t → mQ d must x = true → gO t d must ≠ [] := fun x hx hr e => by
    rw [wD, List.map_eq_nil_iff] at e
    have : x ∈ (dE t).filter (mQ d must) := List.mem_filter.2 ⟨hx, hr⟩
    rw [e] at this; simp at this
  by_cases h0 : ∃ p, p < bZ t 0 ∧ mat must 0 p = -2
  · obtain ⟨p, hp, ho⟩ := h0
    have hopen : ∀ v, ¬ eA d (Res []) ⟨((0 : Nat) : Int), p⟩ v := fun v hv => by
      have := (hM.mem 0 p v (by omega) hp).2 hv
      exact this.2 (this.1.symm.trans ho)
    have hno : ∀ i, i < d.length → i / 2 = p → 0 ≤ d.getD i 0 := fun i hi hip => by
      have hr := hD.rng i hi
      refine Classical.byContradiction fun hb => hopen (d.getD (sib i) 0) (.inl ⟨i, hi, by omega, ?_, rfl⟩)
      rw [vH]; simp [cell, hip]
    refine hin (0, p) (lG.2 ⟨by omega, hp⟩) ?_
    simp only [mQ, Bool.and_eq_true, decide_eq_true_eq, dJ, if_true]
    exact ⟨ho, hno _ (by omega) (by omega), hno _ (by omega) (by omega)⟩
  · have hall : ∀ p, p < bZ t 0 → mat must 0 p ≠ -2 := fun p hp h => h0 ⟨p, hp, h⟩
    have hR : 1 < t.Rounds.toNat := by
      have hne : (dE t).filter (eU must) ≠ [] := fun e => by unfold kL at hn; rw [e] at hn; simp at hn
      obtain ⟨x, hx⟩ := List.exists_mem_of_ne_nil _ hne
      rw [List.mem_filter] at hx
      obtain ⟨g1, g2⟩ := lG.1 hx.1
      have ho : mat must x.1 x.2 = -2 := by simpa [eU] using hx.2
      refine Classical.byContradiction fun h => ?_
      have e0 : x.1 = 0 := by omega
      rw [e0] at g2 ho
      exact hall x.2 g2 ho
    have hph : bZ t ((0 : Nat) : Int) = 2 * bZ t ((1 : Nat) : Int) := rK (t := t) (r := 0) (by omega)
    have hpp : 1 ≤ bZ t ((1 : Nat) : Int) := vY
    have hp1 : 0 < bZ t ((1 : Nat) : Int) := by omega
    have hz : bZ t ((0 : Nat) : Int) = bZ t 0 := rfl
    have hside : ∀ p, p < bZ t 0 → 0 ≤ mat must 0 p := fun p hp => by
      obtain ⟨i, hi, hb, _, hv⟩ := hP _ _ ((hM.mem 0 p _ (by omega) hp).1 ⟨rfl, hall p hp⟩)
      have hs : sib i < d.length := by rw [hlen]; exact tU hg.ht (by omega)
      have := hD.rng _ hs
      have := hD.sib_ne hg.ht hi hb
      omega
    refine hin (1, 0) (lG.2 ⟨hR, hp1⟩) ?_
    simp only [mQ, Bool.and_eq_true, decide_eq_true_eq, dJ, show ¬ (1 : Nat) = 0 by omega, if_false]
    refine ⟨Classical.byContradiction fun h => ?_, hside 0 (by omega), hside 1 (by omega)⟩
    obtain ⟨i, hi, hb, hm, _⟩ := hP _ _ ((hM.mem 1 0 _ hR hp1).1 ⟨rfl, h⟩)
    simp only [cell, aB.mk.injEq] at hm
    omega
variable (hd : cQ t l = some (⟨d, must⟩, true))
include hd
omit hd in
theorem aKe {which : Int} (h59 : l.length ≤ 59) : iW l which ((kL t must : Nat) : Int) (gO t d must) ((kL t must : Nat) : Int) t (gO t d must) = some true := by
  have hrl := aGz hg.ht d must
  have h32 := hg.ht.len32
  have hl40 : kL t must ≤ 40 := by
    have h1 := List.length_filter_le (eU must) (dE t)
    have h2 := pQ hg.ht
    unfold kL; omega
  have hempty : (bif decide (0 < ((kL t must : Nat) : Int)) then (some (decide (((gO t d must).length : Int) = 0))) else (some false)).bind (fun b20 => (bif b20 then (some (decide ((l.length : Int) = 0))) else (some false)).bind fun b21 => some b21) = some false := by
    rw [fN, Option.bind_some, fN, Option.bind_some, Option.some.injEq]
    rw [Bool.eq_false_iff]
    intro h
    simp only [Bool.and_eq_true, decide_eq_true_eq] at h
    exact aHj hg hM (List.length_eq_zero_iff.1 (by omega)) (by omega) (List.length_eq_zero_iff.1 (by omega))
  unfold iW
  rw [hempty, decide_eq_true rfl, Bool.not_true, cond_false, aBs _ (by omega)]
  simp only [Option.bind_some, Bool.not_true, cond_false]
  by_cases hz : (gO t d must).length = 0 ∨ which < 0
  · have : (bif decide (((gO t d must).length : Int) = 0) then (some true) else (some (decide (which < 0)))) = some true := by
      rw [rH, Option.some.injEq, Bool.or_eq_true, decide_eq_true_eq, decide_eq_true_eq]; omega
    rw [this, Option.bind_some, cond_true, rP]; rfl
  · have : (bif decide (((gO t d must).length : Int) = 0) then (some true) else (some (decide (which < 0)))) = some false := by
      rw [rH, Option.some.injEq, Bool.or_eq_false_iff, decide_eq_false_iff_not, decide_eq_false_iff_not]; omega
    have hch : chk (!decide (((gO t d must).length : Int) = 0)) = some () := by unfold chk; rw [decide_eq_false (by omega)]; rfl
    obtain ⟨w, rfl⟩ : ∃ w : Nat, which = w := ⟨which.toNat, by omega⟩
    have hmod : ((w : Int)).tmod ((gO t d must).length : Int) = ((w % (gO t d must).length : Nat) : Int) := by
      rw [Int.tmod_eq_emod_of_nonneg (by omega)]; exact (Int.natCast_emod _ _).symm
    have hi : w % (gO t d must).length < (gO t d must).length := Nat.mod_lt _ (by omega)
    rw [this, Option.bind_some, cond_false, hch, Option.bind_some, hmod, cK hi, Option.bind_some, gB (by simp; omega), Option.bind_some, gB (by simp; omega), Option.bind_some, List.nil_append]
    obtain ⟨r, p, hr, hp, hb, ho, s1, s2⟩ := aIj (List.getElem_mem hi)
    rw [hb]
    obtain ⟨hG, _⟩ := aCl hg hM hr hp ho s1 s2 (by omega)
    obtain ⟨must', hd', hM'⟩ := lW hG
    have hless := aIh hg hM hr hp ho s1 s2 hM' (by omega)
    unfold lA
    rw [wP hG hd' hM']
    have hw : w64 (((kL t must : Nat) : Int) - 1) = ((kL t must' : Nat) : Int) := by rw [eT (by omega) (by omega)]; omega
    rw [hw]
    simp [rP]
omit hd in
theorem aIi {which : Int} (h59 : l.length ≤ 59) : cX l which (dK t d must) (wJ t must) ((kL t must : Nat) : Int) (gO t d must) t BIG 0 0 [] = some true := by
  have hend := aKe hg hM h59 (which := which)
  have h32 := hg.ht.len32
  have hil := pQ hg.ht
  have hbl : (dK t d must).length = (dE t).length := by rw [kT, List.length_map]
  have hwl : (wJ t must).length = (dE t).length := by simp [wJ]
  have := eQ (S := Int × List bA) (fun k i s => cX l which (dK t d must) (wJ t must) ((kL t must : Nat) : Int) (gO t d must) t k s.1 i s.2) (dK t d must).length (fun _ _ => some true)
    (fun i s => s.1 = (((((dE t).take i).filter (eU must)).length : Nat) : Int) ∧ s.2 = (((dE t).take i).filter (mQ d must)).map (iY d must)) ?_ ?_ BIG (0, []) (cW (by omega)) ⟨by simp, by simp⟩
  · exact this
  · rintro k i ⟨n, want⟩ hi ⟨h1, h2⟩ ih
    simp only at h1 h2
    subst h1; subst h2
    have hii : i < (dE t).length := by omega
    have hwi : i < (wJ t must).length := by omega
    have hlt : decide ((i : Int) < ((dK t d must).length : Int)) = true := decide_eq_true (by omega)
    have hb : (dK t d must)[i] = iY d must (dE t)[i] := by simp only [kT, List.getElem_map]
    have hw : (wJ t must)[i] = mat must (dE t)[i].1 (dE t)[i].2 := by simp only [wJ, List.getElem_map]
    have ht1 : (dE t).take (i + 1) = (dE t).take i ++ [(dE t)[i]] := List.take_succ_eq_append_getElem hii
    have f1 := List.length_filter_le (eU must) ((dE t).take i)
    have f2 := List.length_filter_le (mQ d must) ((dE t).take i)
    have htl : ((dE t).take i).length ≤ i := by simp; omega
    rw [ht1] at ih
    generalize (dE t)[i] = x at *
    simp only [cX, hlt, cond_true, cK hwi, hw, cK hi, hb, Option.bind_some, cI (show i < 9223372036854775807 by omega), fN]
    by_cases ho : mat must x.1 x.2 = -2
    · have hox : eU must x = true := by unfold eU; simp [ho]
      rw [decide_eq_true ho, cond_true]
      have hrx : mQ d must x = (decide (0 ≤ (iY d must x).One) && decide (0 ≤ (iY d must x).Two)) := by
        unfold mQ; rw [decide_eq_true ho, Bool.true_and]; rfl
      rw [← hrx]
      cases hr : mQ d must x with
      | true =>
        rw [cond_true, gB (by simp; omega), Option.bind_some, cI (by omega)]
        refine ih (_, _) ⟨?_, ?_⟩
        · rw [List.filter_append, List.length_append]; simp [hox]
        · rw [List.filter_append, List.map_append]; simp [hr]
      | false =>
        rw [cond_false, cI (by omega)]
        refine ih (_, _) ⟨?_, ?_⟩
        · rw [List.filter_append, List.length_append]; simp [hox]
        · rw [List.filter_append, List.map_append]; simp [hr]
    · have hox : eU must x = false := by unfold eU; simp [ho]
      have hr : mQ d must x = false := by unfold mQ; simp [ho]
      rw [decide_eq_false ho, cond_false]
      refine ih (_, _) ⟨?_, ?_⟩
      · rw [List.filter_append, List.length_append]; simp [hox]
      · rw [List.filter_append, List.map_append]; simp [hr]
  · rintro k ⟨n, want⟩ ⟨h1, h2⟩
    simp only at h1 h2
    subst h1; subst h2
    have hlt : decide (((dK t d must).length : Int) < ((dK t d must).length : Int)) = false := decide_eq_false (by omega)
    have hta : (dE t).take (dK t d must).length = dE t := List.take_of_length_le (by omega)
    simp only [cX, hlt, cond_false, hta]
    rw [← wD]
    exact hend
end
theorem aKg (A : Option (List bA × List Int × Bool)) (B : Option (Int × Int)) (C : Option (List bA × Int)) (F : List bA → List Int → Int → List bA → Option Bool) {b : List bA} {w : List Int} {n : Int} {c : List bA} (hA : A = some (b, w, true)) (hB : B = some (n, 0)) (hC : C = some (c, 0)) (hF : F b w n c = some true) :
    (A.bind fun r5 => B.bind fun r6 => C.bind fun r7 =>
    (bif !r5.2.2 then (some true) else (some (!decide (r6.2 = 0)))).bind fun b8 =>
    (bif b8 then (some true) else (some (!decide (r7.2 = 0)))).bind fun b9 =>
    bif b9 then (some false) else (F r5.1 r5.2.1 r6.1 r7.1)) = some true := by
  subst hA; subst hB; subst hC; exact hF
theorem rV (t : aO) (l : List aE) (which : Int) (ht : aCi t) (hl : okL xN l) (hx : okI which) : jY t l which = some true := by
  unfold jY
  rcases aFj t l with hr | ⟨d, hg, hr, h60⟩
  · simp only [hr, Option.bind_some, Bool.not_false, cond_true, rP]
  · rw [hr, Option.bind_some, Bool.not_true, cond_false, Option.bind_some]
    cases hb : decide (59 < (l.length : Int)) with
    | true => rw [cond_true, rP]; rfl
    | false =>
      rw [cond_false]
      simp only [decide_eq_false_iff_not] at hb
      obtain ⟨must, hd, hM⟩ := lW hg
      exact aKg _ _ _ (fun b w n c => cX l which b w n c t BIG 0 0 []) (aJn hg hd hM) (wP hg hd hM) (zZ hg hd hM) (aIi hg hM (by omega))
end Go.Am
