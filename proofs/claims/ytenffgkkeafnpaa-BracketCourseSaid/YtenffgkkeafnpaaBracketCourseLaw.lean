/- The plain law BracketCourse. -/
import Derived.Test.YtenffgkkeafnpaaBkPlain5
import Derived.Test.YtenffgkkeafnpaaBracketMay1
import Derived.Test.YtenffgkkeafnpaaBracketCourse1
namespace Go.Am

/-- A course: who has won each match. -/
structure pY (t : aT) (d : List Int) (course : List (List Int)) : Prop where
  len : course.length = t.Rounds.toNat
  row : ∀ r : Nat, r < t.Rounds.toNat → (course.getD r []).length = bZ t r
  won : ∀ r p : Nat, r < t.Rounds.toNat → p < bZ t r → mat course r p ≠ -1 ∧ (mat course r p = eI d course r (2 * p) ∨ mat course r p = eI d course r (2 * p + 1))

section
variable {t : aT} (ht : TreeOK t) {d : List Int} (hD : DOK t d) {course : List (List Int)} (hC : pY t d course)
include hC
theorem qY {r p : Nat} (hr : r < t.Rounds.toNat) (hp : p < bZ t r) : idx course (r : Int) = some (course.getD r []) ∧ idx (course.getD r []) (p : Int) = some (mat course r p) := by
  have hl := hC.len
  have hrow := hC.row r hr
  have hrl : r < course.length := by omega
  have hpl : p < (course.getD r []).length := by omega
  exact ⟨by rw [cH hrl, bT hrl], by rw [cH hpl]; exact congrArg some (bT hpl (-2)).symm⟩
include ht hD
/-- Each winner of a course is a player who has won all matches before. -/
theorem zH : ∀ {r p : Nat}, r < t.Rounds.toNat → p < bZ t r → ∃ b, b < d.length ∧ cell b r = ⟨r, p⟩ ∧ d.getD b 0 = mat course r p ∧ ∀ q, q ≤ r → mat course q (b / 2 ^ (q + 1)) = d.getD b 0 := by
  intro r
  induction r with
  | zero =>
    intro p hr hp
    obtain ⟨h1, h2⟩ := hC.won 0 p hr hp
    have hp0 := sA ht
    have hlen := hD.len
    have hp' : p < bZ t 0 := hp
    simp only [eI, if_true] at h2
    rcases h2 with h | h
    · refine ⟨2 * p, by omega, by simp [cell], h.symm, fun q hq => ?_⟩
      have : q = 0 := by omega
      subst this
      have e : 2 * p / 2 ^ (0 + 1) = p := by simp
      rw [e, h]
    · refine ⟨2 * p + 1, by omega, by simp [cell]; omega, h.symm, fun q hq => ?_⟩
      have : q = 0 := by omega
      subst this
      have e : (2 * p + 1) / 2 ^ (0 + 1) = p := by simp; omega
      rw [e, h]
  | succ r ih =>
    intro p hr hp
    obtain ⟨h1, h2⟩ := hC.won (r + 1) p hr hp
    have hph := pP (t := t) (r := r) hr
    have hs : ∃ s, s < 2 ∧ mat course (r + 1) p = mat course r (2 * p + s) := by
      have hne : ¬ r + 1 = 0 := by omega
      simp only [eI, if_neg hne, Nat.add_sub_cancel] at h2
      rcases h2 with h | h
      · exact ⟨0, by omega, h⟩
      · exact ⟨1, by omega, h⟩
    obtain ⟨s, hs, he⟩ := hs
    obtain ⟨b, hb, hc, hv, hall⟩ := ih (p := 2 * p + s) (by omega) (by omega)
    have hcb : b / 2 ^ (r + 1) = 2 * p + s := by simp only [cell, aF.mk.injEq] at hc; omega
    have hcb2 : b / 2 ^ (r + 1 + 1) = p := by
      have : b / 2 ^ (r + 1 + 1) = b / 2 ^ (r + 1) / 2 := by rw [Nat.pow_succ, Nat.div_div_eq_div_mul]
      rw [this, hcb]; omega
    refine ⟨b, hb, by simp only [cell, hcb2], by rw [hv, he], fun q hq => ?_⟩
    by_cases hqr : q = r + 1
    · subst hqr; rw [hcb2, he, hv]
    · exact hall q (by omega)
end

section
variable {t : aT} {l : List aI} {d : List Int} (hg : Good t l d) {course : List (List Int)} (hC : pY t d course) (hT : ∀ x, Res l x → mat course x.Round.toNat x.Place.toNat = x.Player)
include hg hC hT
/-- What slips claim is so in a course of which they are true. -/
theorem sY {r p : Nat} {v : Int} (hr : r < t.Rounds.toNat) (hp : p < bZ t r) (h : eR d (Res l) ⟨r, p⟩ v) : mat course r p = v := by
  have ht := hg.ht
  have hD := hg.dok
  have hlen := hD.len
  rcases h with ⟨i, hi, hb, hm, rfl⟩ | ⟨x, hx, a, ha, he, rfl, q, hq, hm⟩
  · rw [wB] at hm
    have hr0 : r = 0 := by simp only [cell, aF.mk.injEq] at hm; omega
    subst hr0
    have hpi : p = i / 2 := by simp only [cell, aF.mk.injEq] at hm; omega
    obtain ⟨h1, h2⟩ := hC.won 0 p hr hp
    simp only [eI, if_true] at h2
    rcases (show i = 2 * p ∨ i = 2 * p + 1 by omega) with rfl | rfl
    · have s1 : sib (2 * p) = 2 * p + 1 := by unfold sib; split <;> omega
      rw [s1]
      exact h2.resolve_left fun e => h1 (e.trans hb)
    · have s2 : sib (2 * p + 1) = 2 * p := by unfold sib; split <;> omega
      rw [s2]
      exact h2.resolve_right fun e => h1 (e.trans hb)
  · have hrk := hg.rok hx
    have h0 := hrk.p0
    have hr0 := hrk.r0
    have hr1 := hrk.r1
    have hqr : q = r := by simp only [cell, aF.mk.injEq] at hm; omega
    subst hqr
    have hpa : p = a / 2 ^ (q + 1) := by simp only [cell, aF.mk.injEq] at hm; omega
    have hgs := (aEl hD hrk ha he).1 (hg.agr.2.slot x hx)
    have hpl : a / 2 ^ (x.Round.toNat + 1) = x.Place.toNat := by simp only [cell, aF.mk.injEq] at hgs; rw [← hgs.2, Int.toNat_natCast]
    have hin := kX ht (hlen ▸ ha) (show x.Round.toNat < t.Rounds.toNat by omega)
    obtain ⟨b, hb, hc, hv, hall⟩ := zH ht hD hC (r := x.Round.toNat) (p := x.Place.toNat) (by omega) (by rw [← hpl]; exact hin)
    have : a = b := hD.uni ha hb (by rw [he, hv, hT x hx]) (by omega)
    subst this
    rw [hpa]
    exact hall q hq
theorem uZ {must : List (List Int)} (hM : MustIs t must (eR d (Res l))) {r p : Nat} (hr : r < t.Rounds.toNat) (hp : p < bZ t r) (h : mat must r p ≠ -2) : mat must r p = mat course r p :=
  (sY hg hC hT hr hp ((hM.mem r p _ hr hp).1 ⟨rfl, h⟩)).symm
theorem aGw {must : List (List Int)} (hM : MustIs t must (eR d (Res l))) {r p : Nat} (hr : r < t.Rounds.toNat) (hp : p < bZ t r) : mat course r p ∈ fW (rD d must t r p) := by
  obtain ⟨b, hb, hc, hv, hall⟩ := zH hg.ht hg.dok hC hr hp
  refine (aLp hg hM hr).2 ⟨b, hb, hv, (hC.won r p hr hp).1, hc, ?_⟩
  rintro m v w hP ⟨rfl, q, hq, rfl⟩
  have hin := kX hg.ht (hg.dok.len ▸ hb) (show q < t.Rounds.toNat by omega)
  rw [← hall q hq]
  exact (sY hg hC hT (by omega) hin hP).symm
/-- How many matches a player has won in a course. -/
def pF (t : aT) (d : List Int) (course : List (List Int)) (a : Nat) : Nat := lD (fun q => !decide (mat course q (a / 2 ^ (q + 1)) = d.getD a 0)) t.Rounds.toNat
theorem aGv {must : List (List Int)} (hM : MustIs t must (eR d (Res l))) {a : Nat} (ha : a < d.length) : qZ d must a t ≤ pF t d course a ∧ pF t d course a ≤ mU d must a t := by
  have ht := hg.ht
  have hD := hg.dok
  have hlen := hD.len
  have hle1 : qZ d must a t ≤ t.Rounds.toNat := zJ _ _
  have hle2 : pF t d course a ≤ t.Rounds.toNat := zJ _ _
  have hin := fun q (hq : q < t.Rounds.toNat) => kX ht (hlen ▸ ha) hq
  constructor
  · refine Nat.le_of_not_lt fun hlt => ?_
    have hb := xU (bad := fun q => !decide (mat course q (a / 2 ^ (q + 1)) = d.getD a 0)) (n := t.Rounds.toNat) (by show pF t d course a < _; omega)
    have hP := (aKg ht hD hM ha (show pF t d course a < t.Rounds.toNat by omega)).1 hlt _ (Nat.le_refl _)
    have := sY hg hC hT (by omega) (hin (pF t d course a) (by omega)) hP
    simp only [Bool.not_eq_true', decide_eq_false_iff_not] at hb
    exact hb this
  · refine Nat.le_of_not_lt fun hlt => ?_
    have hb := xU (bad := wA d must a) (n := t.Rounds.toNat) (by show mU d must a t < _; omega)
    have hq : mU d must a t < t.Rounds.toNat := by omega
    have hall := (vA (bad := fun q => !decide (mat course q (a / 2 ^ (q + 1)) = d.getD a 0)) hq).1 hlt _ (Nat.le_refl _)
    simp only [Bool.not_eq_false', decide_eq_true_eq] at hall
    unfold wA at hb
    simp only [Bool.and_eq_true, Bool.not_eq_true', decide_eq_false_iff_not] at hb
    exact hb.2 ((uZ hg hC hT hM hq (hin _ hq) hb.1).trans hall)
end

/-! The functions. -/
section
variable {t : aT} (ht : TreeOK t) {d : List Int} (hlen : d.length = t.Slots.length)
include ht hlen
theorem aFd (course : List (List Int)) (hcl : course.length ≤ 20) : ∃ b, gU t d course = some b ∧ (b = true → pY t d course) := by
  have h1 := ht.r1
  have h5 := ht.r5
  have hp0 := sA ht
  unfold gU
  by_cases hc : (course.length : Int) = t.Rounds
  · have e1 : decide ((d.length : Int) = (t.Slots.length : Int)) = true := decide_eq_true (by omega)
    simp only [hc, e1, decide_true, Bool.not_true, cond_false, Option.bind_some]
    refine lL (S := List Int) (fun k r before => eG course t k before r) t.Rounds.toNat (fun o => ∃ b, o = some b ∧ (b = true → pY t d course))
      (fun r before => before = (if r = 0 then d else course.getD (r - 1) []) ∧ (∀ r' : Nat, r' < r → r' < t.Rounds.toNat → (course.getD r' []).length = bZ t r') ∧ (∀ r' p : Nat, r' < r → r' < t.Rounds.toNat → p < bZ t r' → mat course r' p ≠ -1 ∧ (mat course r' p = eI d course r' (2 * p) ∨ mat course r' p = eI d course r' (2 * p + 1)))) ?_ ?_ BIG 0 d (dD (by omega)) ⟨rfl, by omega, by omega⟩
    · rintro k r before hr ⟨hb, hrows, hwon⟩ ih
      have hlt : decide ((r : Int) < t.Rounds) = true := decide_eq_true (by omega)
      have hP := sH ht (r := (r : Int)) (by omega) (by omega)
      have hpl := jX ht (r := (r : Int))
      have hrl : r < course.length := by omega
      have hi1 : idx course (r : Int) = some (course.getD r []) := by rw [cH hrl, bT hrl]
      simp only [eG, hlt, cond_true, hi1, hP, Option.bind_some]
      by_cases hrow : (course.getD r []).length = bZ t r
      · have e2 : decide (((course.getD r []).length : Int) = ((bZ t r : Nat) : Int)) = true := decide_eq_true (by omega)
        simp only [e2, Bool.not_true, cond_false]
        have hbl : before.length = 2 * bZ t r := by
          rw [hb]
          by_cases h0 : r = 0
          · subst h0; rw [if_pos rfl]; have : bZ t ((0 : Nat) : Int) = bZ t 0 := rfl; omega
          · rw [if_neg h0, hrows (r - 1) (by omega) (by omega)]
            have := pP (t := t) (r := r - 1) (by omega)
            have e : r - 1 + 1 = r := by omega
            rw [e] at this; exact this
        have hbs : ∀ s, s < before.length → before.getD s 0 = eI d course r s := by
          intro s hs
          unfold eI
          by_cases h0 : r = 0
          · rw [hb, if_pos h0, if_pos h0]
          · rw [if_neg h0]
            unfold mat
            rw [hb, if_neg h0] at hs ⊢
            rw [bT hs, bT hs]
        refine lL (S := Unit) (fun q p _ => fK (eG course t k) course before r t q p) (bZ t r) (fun o => ∃ b, o = some b ∧ (b = true → pY t d course))
          (fun p _ => ∀ p' : Nat, p' < p → p' < bZ t r → mat course r p' ≠ -1 ∧ (mat course r p' = eI d course r (2 * p') ∨ mat course r p' = eI d course r (2 * p' + 1))) ?_ ?_ BIG 0 () (dD (by omega)) (by omega)
        · rintro q p _ hp hI ih2
          have hpr : p < (course.getD r []).length := by omega
          have w1 : w64 (2 * (p : Int)) = ((2 * p : Nat) : Int) := by rw [eU (by omega) (by omega)]; omega
          have w2 : w64 (((2 * p : Nat) : Int) + 1) = ((2 * p + 1 : Nat) : Int) := cJ (by omega)
          have i1 : 2 * p < before.length := by omega
          have i2 : 2 * p + 1 < before.length := by omega
          have hi2 : idx (course.getD r []) (p : Int) = some (mat course r p) := by rw [cH hpr]; exact congrArg some (bT hpr (-2)).symm
          simp only [fK, hP, Option.bind_some, Int.ofNat_lt, hp, decide_true, cond_true, w1, w2, cH i1, cH i2, hi1, hi2, cJ (show p < 9223372036854775807 by omega)]
          rw [← bT i1 0, ← bT i2 0, hbs _ i1, hbs _ i2]
          by_cases hbad : mat course r p = -1 ∨ (mat course r p ≠ eI d course r (2 * p) ∧ mat course r p ≠ eI d course r (2 * p + 1))
          · have : (bif decide (mat course r p = -1) then (some true) else ((bif !decide (mat course r p = eI d course r (2 * p)) then (some (!decide (mat course r p = eI d course r (2 * p + 1)))) else (some false)).bind fun b10 => some b10)) = some true := by
              rcases hbad with h | ⟨h2, h3⟩
              · simp [h]
              · by_cases h : mat course r p = -1
                · rw [decide_eq_true h]; rfl
                · rw [decide_eq_false h, decide_eq_false h2, decide_eq_false h3]; rfl
            simp only [this, Option.bind_some, cond_true]
            exact ⟨false, rfl, fun h => by cases h⟩
          · have hgood : mat course r p ≠ -1 ∧ (mat course r p = eI d course r (2 * p) ∨ mat course r p = eI d course r (2 * p + 1)) := by
              refine ⟨fun h => hbad (.inl h), Classical.byContradiction fun h => hbad (.inr ⟨fun e => h (.inl e), fun e => h (.inr e)⟩)⟩
            have : (bif decide (mat course r p = -1) then (some true) else ((bif !decide (mat course r p = eI d course r (2 * p)) then (some (!decide (mat course r p = eI d course r (2 * p + 1)))) else (some false)).bind fun b10 => some b10)) = some false := by
              rw [decide_eq_false hgood.1]
              rcases hgood.2 with h | h
              · rw [decide_eq_true h]; rfl
              · by_cases h' : mat course r p = eI d course r (2 * p)
                · rw [decide_eq_true h']; rfl
                · rw [decide_eq_false h', decide_eq_true h]; rfl
            simp only [this, Option.bind_some, cond_false]
            refine ih2 () fun p' hp' hp'' => ?_
            by_cases e : p' = p
            · subst e; exact hgood
            · exact hI p' (by omega) hp''
        · rintro q p _ hp hI
          have hlt2 : decide ((p : Int) < ((bZ t r : Nat) : Int)) = false := decide_eq_false (by omega)
          simp only [fK, hP, Option.bind_some, hlt2, cond_false, mN, hi1, mM, cJ (show r < 9223372036854775807 by omega)]
          refine ih _ ⟨by rw [if_neg (by omega)]; rfl, fun r' h1 h2 => ?_, fun r' p' h1 h2 h3 => ?_⟩
          · by_cases e : r' = r
            · subst e; exact hrow
            · exact hrows r' (by omega) h2
          · by_cases e : r' = r
            · subst e; exact hI p' (by omega) h3
            · exact hwon r' p' (by omega) h2 h3
      · have e2 : decide (((course.getD r []).length : Int) = ((bZ t r : Nat) : Int)) = false := decide_eq_false (by omega)
        simp only [e2, Bool.not_false, cond_true]
        exact ⟨false, rfl, fun h => by cases h⟩
    · rintro k r before hr ⟨hb, hrows, hwon⟩
      have hlt : decide ((r : Int) < t.Rounds) = false := decide_eq_false (by omega)
      simp only [eG, hlt, cond_false, mL]
      exact ⟨true, rfl, fun _ => ⟨by omega, fun r' h => hrows r' (by omega) h, fun r' p h h' => hwon r' p (by omega) h h'⟩⟩
  · simp only [hc, decide_false, Bool.not_false, cond_true, Option.bind_some]
    exact ⟨false, rfl, fun h => by cases h⟩
end
theorem aIa {t : aT} {l : List aI} {d : List Int} (hg : Good t l d) {course : List (List Int)} (hC : pY t d course) : ∃ b, jU t l course = some b ∧ (b = true → ∀ x, Res l x → mat course x.Round.toNat x.Place.toNat = x.Player) := by
  have hlen := hg.len
  unfold jU
  refine lL (S := Unit) (fun k i _ => gJ l course k i) l.length (fun o => ∃ b, o = some b ∧ (b = true → ∀ x, Res l x → mat course x.Round.toNat x.Place.toNat = x.Player)) (fun i _ => ∀ x ∈ l.take i, x.Kind ≠ 5 → mat course x.Round.toNat x.Place.toNat = x.Player) ?_ ?_ BIG 0 () (dD (by omega)) (by simp)
  · rintro k i _ hi hI ih
    have ht1 : l.take (i + 1) = l.take i ++ [l[i]] := List.take_succ_eq_append_getElem hi
    simp only [gJ, Int.ofNat_lt, hi, decide_true, cond_true, cH hi, Option.bind_some, cJ (show i < 9223372036854775807 by omega)]
    by_cases hk : l[i].Kind = 5
    · simp only [hk, decide_true, Bool.not_true, cond_false, Option.bind_some]
      refine ih () fun x hx kx => ?_
      rw [ht1, List.mem_append, List.mem_singleton] at hx
      rcases hx with hx | rfl
      · exact hI x hx kx
      · exact absurd hk kx
    · have hres : Res l l[i] := ⟨List.getElem_mem hi, hk⟩
      have hs := hg.slips _ hres.1
      simp only [fD, hk, if_false, Bool.and_eq_true] at hs
      obtain ⟨r, p, er, ep, hr, hp⟩ := rC hs.2.1.1.2
      obtain ⟨c1, c2⟩ := qY hC hr hp
      have er' : l[i].Round.toNat = r := by omega
      have ep' : l[i].Place.toNat = p := by omega
      simp only [hk, decide_false, Bool.not_false, cond_true, er, ep, c1, c2, Option.bind_some]
      by_cases hm : mat course r p = l[i].Player
      · simp only [hm, decide_true, Bool.not_true, cond_false]
        refine ih () fun x hx kx => ?_
        rw [ht1, List.mem_append, List.mem_singleton] at hx
        rcases hx with hx | rfl
        · exact hI x hx kx
        · rw [er', ep']; exact hm
      · simp only [hm, decide_false, Bool.not_false, cond_true]
        exact ⟨false, rfl, fun h => by cases h⟩
  · rintro k i _ hi hI
    have hlt : decide ((i : Int) < (l.length : Int)) = false := decide_eq_false (by omega)
    have hta : l.take i = l := List.take_of_length_le (by omega)
    rw [hta] at hI
    simp only [gJ, hlt, cond_false, nQ]
    exact ⟨true, rfl, fun _ x hx => hI x hx.1 hx.2⟩

theorem aId {l_0 : List aI} {course_0 : List (List Int)} {slots_0 : List Int} {bouts_0 : List bS} {winners_0 : List Int} {t_0 : aT} {k0 : Nat} {i_0 : Int} {b0 : bS} (hlt : decide (i_0 < (bouts_0.length : Int)) = true) (hi : idx bouts_0 i_0 = some b0) :
    cB l_0 course_0 slots_0 bouts_0 winners_0 t_0 (k0 + 1) i_0 = (
    bif decide (0 < b0.Round) then ((idx course_0 (w64 (b0.Round - 1))).bind fun x14 =>
    (bif !decide (b0.One = (-2)) then ((idx x14 (w64 (2 * b0.Place))).bind fun x15 =>
    some (!decide (b0.One = x15))) else (some false)).bind fun b16 =>
    (bif b16 then (some true) else ((bif !decide (b0.Two = (-2)) then ((idx x14 (w64 ((w64 (2 * b0.Place)) + 1))).bind fun x17 =>
    some (!decide (b0.Two = x17))) else (some false)).bind fun b18 =>
    some b18)).bind fun b19 =>
    (bif b19 then (some true) else ((idx winners_0 i_0).bind fun x20 =>
    (bif !decide (x20 = (-2)) then ((idx winners_0 i_0).bind fun x21 =>
    (idx course_0 b0.Round).bind fun x22 =>
    (idx x22 b0.Place).bind fun x23 =>
    some (!decide (x21 = x23))) else (some false)).bind fun b24 =>
    some b24)).bind fun b25 =>
    bif b25 then (some false)
    else ((jV t_0 l_0 b0.Round b0.Place).bind fun r26 =>
    cM (cB l_0 course_0 slots_0 bouts_0 winners_0 t_0 k0) l_0 course_0 slots_0 bouts_0 winners_0 i_0 r26.1 r26.2 t_0 b0 BIG false 0))
    else ((bif !decide (b0.One = (-2)) then ((idx slots_0 (w64 (2 * b0.Place))).bind fun x32 =>
    some (!decide (b0.One = x32))) else (some false)).bind fun b33 =>
    (bif b33 then (some true) else ((bif !decide (b0.Two = (-2)) then ((idx slots_0 (w64 ((w64 (2 * b0.Place)) + 1))).bind fun x34 =>
    some (!decide (b0.Two = x34))) else (some false)).bind fun b35 =>
    some b35)).bind fun b36 =>
    (bif b36 then (some true) else ((idx winners_0 i_0).bind fun x37 =>
    (bif !decide (x37 = (-2)) then ((idx winners_0 i_0).bind fun x38 =>
    (idx course_0 b0.Round).bind fun x39 =>
    (idx x39 b0.Place).bind fun x40 =>
    some (!decide (x38 = x40))) else (some false)).bind fun b41 =>
    some b41)).bind fun b42 =>
    bif b42 then (some false)
    else ((jV t_0 l_0 b0.Round b0.Place).bind fun r43 =>
    cM (cB l_0 course_0 slots_0 bouts_0 winners_0 t_0 k0) l_0 course_0 slots_0 bouts_0 winners_0 i_0 r43.1 r43.2 t_0 b0 BIG false 0))) := by
  rw [cB, hlt, cond_true, hi, Option.bind_some]
theorem xQ (b1 b2 w : Option Bool) (M : Option (List Int × Int)) (F : List Int → Int → Option Bool) {m : List Int} (h1 : b1 = some false) (h2 : b2 = some false) (hw : w = some false) (hM : M = some (m, 0)) (hF : F m 0 = some true) :
    (b1.bind fun b33 => (bif b33 then (some true) else (b2.bind fun b35 => some b35)).bind fun b36 =>
    (bif b36 then (some true) else w).bind fun b42 => bif b42 then (some false) else (M.bind fun r43 => F r43.1 r43.2)) = some true := by
  subst h1; subst h2; subst hw; subst hM; exact hF
theorem aAu (A : Option (List Int × Bool)) (B : List Int → Option Bool) (C W : Option Bool) (D : Option (List bS × List Int × Bool)) (F : List Int → List bS → List Int → Option Bool) {d : List Int} {bs : List bS} {ws : List Int} {b c : Bool} (hA : A = some (d, true)) (hB : B d = some b) (hC : b = true → C = some c) (hW : W = some true) (hD : b = true → c = true → D = some (bs, ws, true) ∧ F d bs ws = some true) :
    (A.bind fun r5 => (bif !r5.2 then (some true) else ((B r5.1).bind fun r6 => some (!r6))).bind fun b7 =>
    (bif b7 then (some true) else (C.bind fun r8 => some (!r8))).bind fun b9 =>
    bif b9 then (W.bind fun r10 => some r10)
    else (D.bind fun r11 => bif !r11.2.2 then (some false) else (F r5.1 r11.1 r11.2.1))) = some true := by
  subst hA; subst hW
  simp only [Option.bind_some, Bool.not_true, cond_false, hB]
  cases b with
  | false => rfl
  | true =>
    rw [hC rfl]
    cases c with
    | false => rfl
    | true =>
      obtain ⟨h1, h2⟩ := hD rfl rfl
      rw [h1]
      exact h2
section
variable {t : aT} {l : List aI} {d : List Int} (hg : Good t l d) {must : List (List Int)} (hd : dA t l = some (⟨d, must⟩, true)) (hM : MustIs t must (eR d (Res l)))
variable {course : List (List Int)} (hC : pY t d course) (hT : ∀ x, Res l x → mat course x.Round.toNat x.Place.toNat = x.Player)
include hg hd hM hC hT
theorem aDt : iK l course d t = some true := by
  have ht := hg.ht
  have hD := hg.dok
  have hlen := hD.len
  have h32 := ht.len32
  have h1 := ht.r1
  have h5 := ht.r5
  unfold iK
  refine lL (S := Unit) (fun k s _ => cT l course d t k s) d.length (fun o => o = some true) (fun _ _ => True) ?_ ?_ BIG 0 () (dD (by omega)) trivial
  · rintro k s _ hs _ ih
    have hnext := ih () trivial
    simp only [cT, Int.ofNat_lt, hs, decide_true, cond_true, cH hs, Option.bind_some]
    rw [← bT hs 0]
    by_cases hb : d.getD s 0 = -1
    · simp only [hb, decide_true, cond_true, eW, cJ (show s < 9223372036854775807 by omega)]
      exact hnext
    · simp only [hb, decide_false, cond_false]
      have hloop : dY (cT l course d t k) l course d s t BIG 0 = fX (cT l course d t k) l course d s ((pF t d course s : Nat) : Int) t := by
        refine rA (fun q n => dY (cT l course d t k) l course d s t q n) t.Rounds.toNat (fun q => !decide (mat course q (s / 2 ^ (q + 1)) = d.getD s 0)) (fun n => fX (cT l course d t k) l course d s (n : Int) t) (fun q i hi => ?_) (fun q => ?_) BIG (dD (by omega))
        · have hlt : decide ((i : Int) < t.Rounds) = true := decide_eq_true (by omega)
          have hw : w64 ((i : Int) + 1) = ((i + 1 : Nat) : Int) := cJ (by omega)
          have hu : IntKind.u64.wrap ((i + 1 : Nat) : Int) = ((i + 1 : Nat) : Int) := nH (by omega) (by omega)
          have hch : chk (decide (0 ≤ ((i + 1 : Nat) : Int))) = some () := by unfold chk; rw [decide_eq_true (by omega)]; rfl
          have hmin : min ((i + 1 : Nat) : Int).toNat 64 = i + 1 := by omega
          obtain ⟨c1, c2⟩ := qY hC hi (kX ht (hlen ▸ hs) hi)
          simp only [dY, hlt, cond_true, hw, hu, hch, hmin, qE, Option.bind_some, c1, c2, cH hs]
          rw [← bT hs 0]
          cases decide (mat course i (s / 2 ^ (i + 1)) = d.getD s 0) <;> rfl
        · have hlt : decide (((t.Rounds.toNat : Nat) : Int) < t.Rounds) = false := decide_eq_false (by omega)
          simp only [dY, hlt, cond_false, Option.bind_some]
      rw [hloop]
      unfold fX lH
      have hrng := hD.rng s hs
      have h999 := hg.le999 hs
      rw [cH hs, Option.bind_some, ← bT hs 0, xI hg hd hM]
      obtain ⟨l1, l2⟩ := aGv hg hC hT hM hs
      have hR : uD t d must (d.getD s 0) = (⟨qZ d must s t, mU d must s t⟩, 0) := by
        unfold uD
        rw [jF.2 ⟨by omega, h999⟩, if_pos rfl, aKt hD hs hb, if_neg (by omega), Int.toNat_natCast]
        rfl
      have n1 : decide (((pF t d course s : Nat) : Int) < ((qZ d must s t : Nat) : Int)) = false := decide_eq_false (by omega)
      have n2 : decide (((mU d must s t : Nat) : Int) < ((pF t d course s : Nat) : Int)) = false := decide_eq_false (by omega)
      simp only [hR, Option.bind_some, decide_true, Bool.not_true, cond_false, n1, n2, eW, cJ (show s < 9223372036854775807 by omega)]
      exact hnext
  · rintro k s _ hs _
    have hlt : decide ((s : Int) < (d.length : Int)) = false := decide_eq_false (by omega)
    simp only [cT, hlt, cond_false, kQ, pR, Option.bind_some]
omit hd in
theorem aDs {b : List bS} {w : List Int} {a0 : Int → Option Bool} {i : Nat} (hi : i ≤ 1000) {x : Nat × Nat} (hx : x ∈ iI t) (hn : a0 ((i + 1 : Nat) : Int) = some true) :
    cM a0 l course d b w i (fW (rD d must t x.1 x.2)) 0 t (iJ d must x) BIG false 0 = some true := by
  obtain ⟨hr, hp⟩ := rY.1 hx
  have hmay := aGw hg hC hT hM hr hp
  have hml := aKi hg must x.1 x.2
  obtain ⟨c1, c2⟩ := qY hC hr hp
  generalize fW (rD d must t x.1 x.2) = m at *
  have := fM (S := Bool) (fun k q f => cM a0 l course d b w i m 0 t (iJ d must x) k f q) m.length (fun _ _ => some true) (fun q f => f = decide (mat course x.1 x.2 ∈ m.take q)) ?_ ?_ BIG false (dD (by omega)) (by simp)
  · exact this
  · rintro k q f hq rfl ih
    have hlt : decide ((q : Int) < (m.length : Int)) = true := decide_eq_true (by omega)
    have ht1 : m.take (q + 1) = m.take q ++ [m[q]] := List.take_succ_eq_append_getElem hq
    simp only [cM, hlt, cond_true, cH hq, iJ, c1, c2, Option.bind_some, tO, cJ (show q < 9223372036854775807 by omega)]
    refine ih _ ?_
    rw [ht1, Bool.eq_iff_iff]
    simp only [Bool.or_eq_true, decide_eq_true_eq, List.mem_append, List.mem_singleton]
    exact or_congr Iff.rfl eq_comm
  · rintro k f rfl
    have hlt : decide ((m.length : Int) < (m.length : Int)) = false := decide_eq_false (by omega)
    rw [List.take_length]
    simp only [cM, hlt, cond_false, iM, decide_true, Bool.not_true, Option.bind_some, hmay, iL, cJ (show i < 9223372036854775807 by omega)]
    exact hn
theorem aDr : cB l course d (fC t d must) (pA t must) t BIG 0 = some true := by
  have ht := hg.ht
  have hD := hg.dok
  have hlen := hD.len
  have h32 := ht.len32
  have h5 := ht.r5
  have hil := tW ht
  have hbl : (fC t d must).length = (iI t).length := by rw [pD, List.length_map]
  have hwl : (pA t must).length = (iI t).length := by simp [pA]
  refine lL (S := Unit) (fun k i _ => cB l course d (fC t d must) (pA t must) t k i) (fC t d must).length (fun o => o = some true) (fun _ _ => True) ?_ ?_ BIG 0 () (dD (by omega)) trivial
  · rintro k i _ hi _ ih
    have hnext := ih () trivial
    have hii : i < (iI t).length := by omega
    have hwi : i < (pA t must).length := by omega
    have hb : (fC t d must)[i] = iJ d must (iI t)[i] := by simp only [pD, List.getElem_map]
    have hw : (pA t must)[i] = mat must (iI t)[i].1 (iI t)[i].2 := by simp only [pA, List.getElem_map]
    have hx : (iI t)[i] ∈ iI t := List.getElem_mem hii
    have hcf := aDs hg hM hC hT (b := fC t d must) (w := pA t must) (a0 := cB l course d (fC t d must) (pA t must) t k) (i := i) (by omega) hx hnext
    generalize (iI t)[i] = x at *
    obtain ⟨hr, hp⟩ := rY.1 hx
    obtain ⟨c1, c2⟩ := qY hC hr hp
    have hpl := jX ht (r := (x.1 : Int))
    have hmay := aDi hg hd hM (aLc ht hr hp)
    have hlt : decide ((i : Int) < ((fC t d must).length : Int)) = true := decide_eq_true (by omega)
    have w1 : w64 (2 * (x.2 : Int)) = ((2 * x.2 : Nat) : Int) := by rw [eU (by omega) (by omega)]; omega
    have w2 : w64 (((2 * x.2 : Nat) : Int) + 1) = ((2 * x.2 + 1 : Nat) : Int) := cJ (by omega)
    have hwin : ((idx (pA t must) (i : Int)).bind fun x37 => (bif !decide (x37 = (-2)) then ((idx (pA t must) (i : Int)).bind fun x38 => (idx course (iJ d must x).Round).bind fun x39 => (idx x39 (iJ d must x).Place).bind fun x40 => some (!decide (x38 = x40))) else (some false)).bind fun b41 => some b41) = some false := by
      simp only [cH hwi, hw, iJ, c1, c2, Option.bind_some]
      by_cases h2 : mat must x.1 x.2 = -2
      · simp [h2]
      · have := uZ hg hC hT hM hr hp h2
        rw [this]; simp
    have hmay' : jV t l (iJ d must x).Round (iJ d must x).Place = some (fW (rD d must t x.1 x.2), 0) := hmay
    rw [aId hlt (by rw [cH hi, hb])]
    by_cases h0 : x.1 = 0
    · have hp0 := sA ht
      have hp' : x.2 < bZ t 0 := by rw [h0] at hp; exact hp
      have i1 : 2 * x.2 < d.length := by omega
      have i2 : 2 * x.2 + 1 < d.length := by omega
      have e0 : decide ((0 : Int) < (iJ d must x).Round) = false := decide_eq_false (by simp only [iJ]; omega)
      have s1 : (iJ d must x).One = d[2 * x.2] := by simp only [iJ, eI]; rw [if_pos h0, bT i1]
      have s2 : (iJ d must x).Two = d[2 * x.2 + 1] := by simp only [iJ, eI]; rw [if_pos h0, bT i2]
      have ep : (iJ d must x).Place = (x.2 : Int) := rfl
      rw [e0, cond_false]
      refine xQ _ _ _ _ (fun m e => cM (cB l course d (fC t d must) (pA t must) t k) l course d (fC t d must) (pA t must) i m e t (iJ d must x) BIG false 0) ?_ ?_ hwin hmay' hcf
      · rw [s1, ep, w1, cH i1]; cases h : decide (d[2 * x.2] = -2) <;> simp
      · rw [s2, ep, w1, w2, cH i2]; cases h : decide (d[2 * x.2 + 1] = -2) <;> simp
    · have e0 : decide ((0 : Int) < (iJ d must x).Round) = true := decide_eq_true (by simp only [iJ]; omega)
      have hwp : w64 ((iJ d must x).Round - 1) = ((x.1 - 1 : Nat) : Int) := by
        have e : (iJ d must x).Round = (x.1 : Int) := rfl
        rw [e]; exact wZ (by omega) (by omega)
      have ep : (iJ d must x).Place = (x.2 : Int) := rfl
      have hside : ∀ s, s < 2 → idx course ((x.1 - 1 : Nat) : Int) = some (course.getD (x.1 - 1) []) ∧ (bif !decide (eI d must x.1 (2 * x.2 + s) = (-2)) then ((idx (course.getD (x.1 - 1) []) ((2 * x.2 + s : Nat) : Int)).bind fun y => some (!decide (eI d must x.1 (2 * x.2 + s) = y))) else (some false)) = some false := by
        intro s hs
        rcases aLx hx hs with h | ⟨g1, g2⟩
        · exact absurd h h0
        · obtain ⟨c3, c4⟩ := qY hC g1 g2
          refine ⟨c3, ?_⟩
          have es : eI d must x.1 (2 * x.2 + s) = mat must (x.1 - 1) (2 * x.2 + s) := by unfold eI; rw [if_neg h0]
          rw [es, c4, Option.bind_some]
          by_cases h2 : mat must (x.1 - 1) (2 * x.2 + s) = -2
          · simp [h2]
          · rw [uZ hg hC hT hM g1 g2 h2]; simp
      obtain ⟨a1, a3⟩ := hside 0 (by omega)
      obtain ⟨_, b3⟩ := hside 1 (by omega)
      rw [e0, cond_true, hwp, a1, Option.bind_some]
      refine xQ _ _ _ _ (fun m e => cM (cB l course d (fC t d must) (pA t must) t k) l course d (fC t d must) (pA t must) i m e t (iJ d must x) BIG false 0) ?_ ?_ hwin hmay' hcf
      · rw [ep, w1]; exact a3
      · rw [ep, w1, w2]; exact b3
  · rintro k i _ hi _
    have hlt : decide ((i : Int) < ((fC t d must).length : Int)) = false := decide_eq_false (by omega)
    simp only [cB, hlt, cond_false]
    exact aDt hg hd hM hC hT
end
theorem rL (t : aT) (l : List aI) (course : List (List Int)) (ht : aCs t) (hl : okL yH l) (hc : okL (okL okI) course) : jM t l course = some true := by
  unfold jM
  rcases aFq t l with hr | ⟨d, hg, hr, h60⟩
  · simp only [hr, Option.bind_some, Bool.not_false, cond_true, pR]
  · simp only [hr, Option.bind_some, Bool.not_true, cond_false]
    by_cases h20 : 20 < course.length
    · have : decide ((20 : Int) < (course.length : Int)) = true := decide_eq_true (by omega)
      simp only [this, cond_true, pR, Option.bind_some]
    · have : decide ((20 : Int) < (course.length : Int)) = false := decide_eq_false (by omega)
      obtain ⟨b1, hb1, hC⟩ := aFd hg.ht hg.dok.len course (by omega)
      obtain ⟨must, hd, hM⟩ := oT hg
      have hT : b1 = true → ∃ c, jU t l course = some c ∧ (c = true → ∀ x, Res l x → mat course x.Round.toNat x.Place.toNat = x.Player) := fun h => aIa hg (hC h)
      simp only [this, Option.bind_some, cond_false]
      cases b1 with
      | false => exact aAu _ (fun dd => gU t dd course) _ _ _ (fun dd bs ws => cB l course dd bs ws t BIG 0) (c := false) (bs := []) (ws := []) (xH hg) hb1 (fun h => by cases h) pR (fun h => by cases h)
      | true =>
        obtain ⟨c, hc1, hc2⟩ := hT rfl
        exact aAu _ (fun dd => gU t dd course) _ _ _ (fun dd bs ws => cB l course dd bs ws t BIG 0) (xH hg) hb1 (fun _ => hc1) pR fun _ h => ⟨aJn hg hd hM, aDr hg hd hM (hC rfl) (hc2 h)⟩
end Go.Am
