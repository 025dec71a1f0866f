/- The plain law BracketCourse. -/
import Derived.Test.YtoflekecpkjghaaGreatBkPlain5
import Derived.Test.YtoflekecpkjghaaGreatBracketMay1
import Derived.Test.YtoflekecpkjghaaGreatBracketCourse1
namespace Go.Am
structure pO (t : aR) (d : List Int) (course : List (List Int)) : Prop where
 len : course.length = t.Rounds.toNat
 row : ∀ r : Nat, r < t.Rounds.toNat → (course.getD r []).length = cQ t r
 won : ∀ r p : Nat, r < t.Rounds.toNat → p < cQ t r → mat course r p ≠ -1 ∧ (mat course r p = oK d course r (2 * p) ∨ mat course r p = oK d course r (2 * p + 1))
section
variable {t : aR} (ht : TreeOK t) {d : List Int} (hD : DOK t d) {course : List (List Int)} (hC : pO t d course)
include hC
theorem aTa {r p : Nat} (hr : r < t.Rounds.toNat) (hp : p < cQ t r) : idx course (r : Int) = some (course.getD r []) ∧ idx (course.getD r []) (p : Int) = some (mat course r p) := by
 have hl := hC.len
 have hrow := hC.row r hr
 have hrl : r < course.length := by omega
 have hpl : p < (course.getD r []).length := by omega
 exact ⟨by rw [bM hrl, bO hrl], by rw [bM hpl]; exact congrArg some (bO hpl (-2)).symm⟩
include ht hD
theorem aIv : ∀ {r p : Nat}, r < t.Rounds.toNat → p < cQ t r → ∃ b, b < d.length ∧ cell b r = ⟨r, p⟩ ∧ d.getD b 0 = mat course r p ∧ ∀ q, q ≤ r → mat course q (b / 2 ^ (q + 1)) = d.getD b 0 := by
 intro r
 induction r with
 | zero =>
  intro p hr hp
  obtain ⟨h1, h2⟩ := hC.won 0 p hr hp
  have hp0 := aIn ht
  have hlen := hD.len
  have hp' : p < cQ t 0 := hp
  simp only [oK, if_true] at h2
  rcases h2 with h | h
  ·refine ⟨2 * p, by omega, by simp [cell], h.symm, fun q hq => ?_⟩
   have : q = 0 := by omega
   subst this
   have e : 2 * p / 2 ^ (0 + 1) = p := by simp
   rw [e, h]
  ·refine ⟨2 * p + 1, by omega, by simp [cell]; omega, h.symm, fun q hq => ?_⟩
   have : q = 0 := by omega
   subst this
   have e : (2 * p + 1) / 2 ^ (0 + 1) = p := by simp; omega
   rw [e, h]
 | succ r ih =>
  intro p hr hp
  obtain ⟨h1, h2⟩ := hC.won (r + 1) p hr hp
  have hph := aJe (t := t) (r := r) hr
  have hs : ∃ s, s < 2 ∧ mat course (r + 1) p = mat course r (2 * p + s) := by
   have hne : ¬ r + 1 = 0 := by omega
   simp only [oK, if_neg hne, Nat.add_sub_cancel] at h2
   rcases h2 with h | h
   ·exact ⟨0, by omega, h⟩
   ·exact ⟨1, by omega, h⟩
  obtain ⟨s, hs, he⟩ := hs
  obtain ⟨b, hb, hc, hv, hall⟩ := ih (p := 2 * p + s) (by omega) (by omega)
  have hcb : b / 2 ^ (r + 1) = 2 * p + s := by simp only [cell, aG.mk.injEq] at hc; omega
  have hcb2 : b / 2 ^ (r + 1 + 1) = p := by
   have : b / 2 ^ (r + 1 + 1) = b / 2 ^ (r + 1) / 2 := by rw [Nat.pow_succ, Nat.div_div_eq_div_mul]
   rw [this, hcb]; omega
  refine ⟨b, hb, by simp only [cell, hcb2], by rw [hv, he], fun q hq => ?_⟩
  by_cases hqr : q = r + 1
  ·subst hqr; rw [hcb2, he, hv]
  ·exact hall q (by omega)
end
section
variable {t : aR} {l : List aE} {d : List Int} (hg : Good t l d) {course : List (List Int)} (hC : pO t d course) (hT : ∀ x, Res l x → mat course x.Round.toNat x.Place.toNat = x.Player)
include hg hC hT
theorem aFo {r p : Nat} {v : Int} (hr : r < t.Rounds.toNat) (hp : p < cQ t r) (h : jE d (Res l) ⟨r, p⟩ v) : mat course r p = v := by
 have ht := hg.ht
 have hD := hg.dok
 have hlen := hD.len
 rcases h with ⟨i, hi, hb, hm, rfl⟩ | ⟨x, hx, a, ha, he, rfl, q, hq, hm⟩
 ·rw [aDx] at hm
  have hr0 : r = 0 := by simp only [cell, aG.mk.injEq] at hm; omega
  subst hr0
  have hpi : p = i / 2 := by simp only [cell, aG.mk.injEq] at hm; omega
  obtain ⟨h1, h2⟩ := hC.won 0 p hr hp
  simp only [oK, if_true] at h2
  rcases (show i = 2 * p ∨ i = 2 * p + 1 by omega) with rfl | rfl
  ·have s1 : sib (2 * p) = 2 * p + 1 := by unfold sib; split <;> omega
   rw [s1]
   exact h2.resolve_left fun e => h1 (e.trans hb)
  ·have s2 : sib (2 * p + 1) = 2 * p := by unfold sib; split <;> omega
   rw [s2]
   exact h2.resolve_right fun e => h1 (e.trans hb)
 ·have hrk := hg.rok hx
  have h0 := hrk.p0
  have hr0 := hrk.r0
  have hr1 := hrk.r1
  have hqr : q = r := by simp only [cell, aG.mk.injEq] at hm; omega
  subst hqr
  have hpa : p = a / 2 ^ (q + 1) := by simp only [cell, aG.mk.injEq] at hm; omega
  have hgs := (aPn hD hrk ha he).1 (hg.agr.2.slot x hx)
  have hpl : a / 2 ^ (x.Round.toNat + 1) = x.Place.toNat := by simp only [cell, aG.mk.injEq] at hgs; rw [← hgs.2, Int.toNat_natCast]
  have hin := rN ht (hlen ▸ ha) (show x.Round.toNat < t.Rounds.toNat by omega)
  obtain ⟨b, hb, hc, hv, hall⟩ := aIv ht hD hC (r := x.Round.toNat) (p := x.Place.toNat) (by omega) (by rw [← hpl]; exact hin)
  have : a = b := hD.uni ha hb (by rw [he, hv, hT x hx]) (by omega)
  subst this
  rw [hpa]
  exact hall q hq
theorem aQw {must : List (List Int)} (hM : MustIs t must (jE d (Res l))) {r p : Nat} (hr : r < t.Rounds.toNat) (hp : p < cQ t r) (h : mat must r p ≠ -2) : mat must r p = mat course r p :=
 (aFo hg hC hT hr hp ((hM.mem r p _ hr hp).1 ⟨rfl, h⟩)).symm
def oD (t : aR) (d : List Int) (course : List (List Int)) (a : Nat) : Nat := mE (fun q => !decide (mat course q (a / 2 ^ (q + 1)) = d.getD a 0)) t.Rounds.toNat
theorem aSv {must : List (List Int)} (hM : MustIs t must (jE d (Res l))) {a : Nat} (ha : a < d.length) : rS d must a t ≤ oD t d course a ∧ oD t d course a ≤ xK d must a t := by
 have ht := hg.ht
 have hD := hg.dok
 have hlen := hD.len
 have hle1 : rS d must a t ≤ t.Rounds.toNat := rF _ _
 have hle2 : oD t d course a ≤ t.Rounds.toNat := rF _ _
 have hin := fun q (hq : q < t.Rounds.toNat) => rN ht (hlen ▸ ha) hq
 constructor
 ·refine Nat.le_of_not_lt fun hlt => ?_
  have hb := aGq (bad := fun q => !decide (mat course q (a / 2 ^ (q + 1)) = d.getD a 0)) (n := t.Rounds.toNat) (by show oD t d course a < _; omega)
  have hP := (aXb ht hD hM ha (show oD t d course a < t.Rounds.toNat by omega)).1 hlt _ (Nat.le_refl _)
  have := aFo hg hC hT (by omega) (hin (oD t d course a) (by omega)) hP
  simp only [Bool.not_eq_true', decide_eq_false_iff_not] at hb
  exact hb this
 ·refine Nat.le_of_not_lt fun hlt => ?_
  have hb := aGq (bad := aDu d must a) (n := t.Rounds.toNat) (by show xK d must a t < _; omega)
  have hq : xK d must a t < t.Rounds.toNat := by omega
  have hall := (tK (bad := fun q => !decide (mat course q (a / 2 ^ (q + 1)) = d.getD a 0)) hq).1 hlt _ (Nat.le_refl _)
  simp only [Bool.not_eq_false', decide_eq_true_eq] at hall
  unfold aDu at hb
  simp only [Bool.and_eq_true, Bool.not_eq_true', decide_eq_false_iff_not] at hb
  exact hb.2 ((aQw hg hC hT hM hq (hin _ hq) hb.1).trans hall)
end
section
variable {t : aR} (ht : TreeOK t) {d : List Int} (hlen : d.length = t.Slots.length)
include ht hlen
theorem aQq (course : List (List Int)) (hcl : course.length ≤ 20) : ∃ b, gJ t d course = some b ∧ (b = true → pO t d course) := by
 have h1 := ht.r1
 have h5 := ht.r5
 have hp0 := aIn ht
 unfold gJ
 by_cases hc : (course.length : Int) = t.Rounds
 ·have e1 : decide ((d.length : Int) = (t.Slots.length : Int)) = true := decide_eq_true (by omega)
  simp only [hc, e1, decide_true, Bool.not_true, cond_false, Option.bind_some]
  refine uS (S := List Int) (fun k r before => fE course t k before r) t.Rounds.toNat (fun o => ∃ b, o = some b ∧ (b = true → pO t d course))
   (fun r before => before = (if r = 0 then d else course.getD (r - 1) []) ∧ (∀ r' : Nat, r' < r → r' < t.Rounds.toNat → (course.getD r' []).length = cQ t r') ∧ (∀ r' p : Nat, r' < r → r' < t.Rounds.toNat → p < cQ t r' → mat course r' p ≠ -1 ∧ (mat course r' p = oK d course r' (2 * p) ∨ mat course r' p = oK d course r' (2 * p + 1)))) ?_ ?_ BIG 0 d (cE (by omega)) ⟨rfl, by omega, by omega⟩
  ·rintro k r before hr ⟨hb, hrows, hwon⟩ ih
   have hlt : decide ((r : Int) < t.Rounds) = true := decide_eq_true (by omega)
   have hP := aGb ht (r := (r : Int)) (by omega) (by omega)
   have hpl := wV ht (r := (r : Int))
   have hrl : r < course.length := by omega
   have hi1 : idx course (r : Int) = some (course.getD r []) := by rw [bM hrl, bO hrl]
   simp only [fE, hlt, cond_true, hi1, hP, Option.bind_some]
   by_cases hrow : (course.getD r []).length = cQ t r
   ·have e2 : decide (((course.getD r []).length : Int) = ((cQ t r : Nat) : Int)) = true := decide_eq_true (by omega)
    simp only [e2, Bool.not_true, cond_false]
    have hbl : before.length = 2 * cQ t r := by
     rw [hb]
     by_cases h0 : r = 0
     ·subst h0; rw [if_pos rfl]; have : cQ t ((0 : Nat) : Int) = cQ t 0 := rfl; omega
     ·rw [if_neg h0, hrows (r - 1) (by omega) (by omega)]
      have := aJe (t := t) (r := r - 1) (by omega)
      have e : r - 1 + 1 = r := by omega
      rw [e] at this; exact this
    have hbs : ∀ s, s < before.length → before.getD s 0 = oK d course r s := by
     intro s hs
     unfold oK
     by_cases h0 : r = 0
     ·rw [hb, if_pos h0, if_pos h0]
     ·rw [if_neg h0]
      unfold mat
      rw [hb, if_neg h0] at hs ⊢
      rw [bO hs, bO hs]
    refine uS (S := Unit) (fun q p _ => gY (fE course t k) course before r t q p) (cQ t r) (fun o => ∃ b, o = some b ∧ (b = true → pO t d course))
     (fun p _ => ∀ p' : Nat, p' < p → p' < cQ t r → mat course r p' ≠ -1 ∧ (mat course r p' = oK d course r (2 * p') ∨ mat course r p' = oK d course r (2 * p' + 1))) ?_ ?_ BIG 0 () (cE (by omega)) (by omega)
    ·rintro q p _ hp hI ih2
     have hpr : p < (course.getD r []).length := by omega
     have w1 : w64 (2 * (p : Int)) = ((2 * p : Nat) : Int) := by rw [bW (by omega) (by omega)]; omega
     have w2 : w64 (((2 * p : Nat) : Int) + 1) = ((2 * p + 1 : Nat) : Int) := bH (by omega)
     have i1 : 2 * p < before.length := by omega
     have i2 : 2 * p + 1 < before.length := by omega
     have hi2 : idx (course.getD r []) (p : Int) = some (mat course r p) := by rw [bM hpr]; exact congrArg some (bO hpr (-2)).symm
     simp only [gY, hP, Option.bind_some, Int.ofNat_lt, hp, decide_true, cond_true, w1, w2, bM i1, bM i2, hi1, hi2, bH (show p < 9223372036854775807 by omega)]
     rw [← bO i1 0, ← bO i2 0, hbs _ i1, hbs _ i2]
     by_cases hbad : mat course r p = -1 ∨ (mat course r p ≠ oK d course r (2 * p) ∧ mat course r p ≠ oK d course r (2 * p + 1))
     ·have : (bif decide (mat course r p = -1) then (some true) else ((bif !decide (mat course r p = oK d course r (2 * p)) then (some (!decide (mat course r p = oK d course r (2 * p + 1)))) else (some false)).bind fun b10 => some b10)) = some true := by
       rcases hbad with h | ⟨h2, h3⟩
       ·simp [h]
       ·by_cases h : mat course r p = -1
        ·rw [decide_eq_true h]; rfl
        ·rw [decide_eq_false h, decide_eq_false h2, decide_eq_false h3]; rfl
      simp only [this, Option.bind_some, cond_true]
      exact ⟨false, rfl, fun h => by cases h⟩
     ·have hgood : mat course r p ≠ -1 ∧ (mat course r p = oK d course r (2 * p) ∨ mat course r p = oK d course r (2 * p + 1)) := by
       refine ⟨fun h => hbad (.inl h), Classical.byContradiction fun h => hbad (.inr ⟨fun e => h (.inl e), fun e => h (.inr e)⟩)⟩
      have : (bif decide (mat course r p = -1) then (some true) else ((bif !decide (mat course r p = oK d course r (2 * p)) then (some (!decide (mat course r p = oK d course r (2 * p + 1)))) else (some false)).bind fun b10 => some b10)) = some false := by
       rw [decide_eq_false hgood.1]
       rcases hgood.2 with h | h
       ·rw [decide_eq_true h]; rfl
       ·by_cases h' : mat course r p = oK d course r (2 * p)
        ·rw [decide_eq_true h']; rfl
        ·rw [decide_eq_false h', decide_eq_true h]; rfl
      simp only [this, Option.bind_some, cond_false]
      refine ih2 () fun p' hp' hp'' => ?_
      by_cases e : p' = p
      ·subst e; exact hgood
      ·exact hI p' (by omega) hp''
    ·rintro q p _ hp hI
     have hlt2 : decide ((p : Int) < ((cQ t r : Nat) : Int)) = false := decide_eq_false (by omega)
     simp only [gY, hP, Option.bind_some, hlt2, cond_false, qU, hi1, qT, bH (show r < 9223372036854775807 by omega)]
     refine ih _ ⟨by rw [if_neg (by omega)]; rfl, fun r' h1 h2 => ?_, fun r' p' h1 h2 h3 => ?_⟩
     ·by_cases e : r' = r
      ·subst e; exact hrow
      ·exact hrows r' (by omega) h2
     ·by_cases e : r' = r
      ·subst e; exact hI p' (by omega) h3
      ·exact hwon r' p' (by omega) h2 h3
   ·have e2 : decide (((course.getD r []).length : Int) = ((cQ t r : Nat) : Int)) = false := decide_eq_false (by omega)
    simp only [e2, Bool.not_false, cond_true]
    exact ⟨false, rfl, fun h => by cases h⟩
  ·rintro k r before hr ⟨hb, hrows, hwon⟩
   have hlt : decide ((r : Int) < t.Rounds) = false := decide_eq_false (by omega)
   simp only [fE, hlt, cond_false, qS]
   exact ⟨true, rfl, fun _ => ⟨by omega, fun r' h => hrows r' (by omega) h, fun r' p h h' => hwon r' p (by omega) h h'⟩⟩
 ·simp only [hc, decide_false, Bool.not_false, cond_true, Option.bind_some]
  exact ⟨false, rfl, fun h => by cases h⟩
end
theorem aUb {t : aR} {l : List aE} {d : List Int} (hg : Good t l d) {course : List (List Int)} (hC : pO t d course) : ∃ b, kF t l course = some b ∧ (b = true → ∀ x, Res l x → mat course x.Round.toNat x.Place.toNat = x.Player) := by
 have hlen := hg.len
 unfold kF
 refine uS (S := Unit) (fun k i _ => jD l course k i) l.length (fun o => ∃ b, o = some b ∧ (b = true → ∀ x, Res l x → mat course x.Round.toNat x.Place.toNat = x.Player)) (fun i _ => ∀ x ∈ l.take i, x.Kind ≠ 5 → mat course x.Round.toNat x.Place.toNat = x.Player) ?_ ?_ BIG 0 () (cE (by omega)) (by simp)
 ·rintro k i _ hi hI ih
  have ht1 : l.take (i + 1) = l.take i ++ [l[i]] := List.take_succ_eq_append_getElem hi
  simp only [jD, Int.ofNat_lt, hi, decide_true, cond_true, bM hi, Option.bind_some, bH (show i < 9223372036854775807 by omega)]
  by_cases hk : l[i].Kind = 5
  ·simp only [hk, decide_true, Bool.not_true, cond_false, Option.bind_some]
   refine ih () fun x hx kx => ?_
   rw [ht1, List.mem_append, List.mem_singleton] at hx
   rcases hx with hx | rfl
   ·exact hI x hx kx
   ·exact absurd hk kx
  ·have hres : Res l l[i] := ⟨List.getElem_mem hi, hk⟩
   have hs := hg.slips _ hres.1
   simp only [gX, hk, if_false, Bool.and_eq_true] at hs
   obtain ⟨r, p, er, ep, hr, hp⟩ := aTh hs.2.1.1.2
   obtain ⟨c1, c2⟩ := aTa hC hr hp
   have er' : l[i].Round.toNat = r := by omega
   have ep' : l[i].Place.toNat = p := by omega
   simp only [hk, decide_false, Bool.not_false, cond_true, er, ep, c1, c2, Option.bind_some]
   by_cases hm : mat course r p = l[i].Player
   ·simp only [hm, decide_true, Bool.not_true, cond_false]
    refine ih () fun x hx kx => ?_
    rw [ht1, List.mem_append, List.mem_singleton] at hx
    rcases hx with hx | rfl
    ·exact hI x hx kx
    ·rw [er', ep']; exact hm
   ·simp only [hm, decide_false, Bool.not_false, cond_true]
    exact ⟨false, rfl, fun h => by cases h⟩
 ·rintro k i _ hi hI
  have hlt : decide ((i : Int) < (l.length : Int)) = false := decide_eq_false (by omega)
  have hta : l.take i = l := List.take_of_length_le (by omega)
  rw [hta] at hI
  simp only [jD, hlt, cond_false, sQ]
  exact ⟨true, rfl, fun _ x hx => hI x hx.1 hx.2⟩
section
variable {t : aR} {l : List aE} {d : List Int} (hg : Good t l d) {must : List (List Int)} (hd : eN t l = some (⟨d, must⟩, true)) (hM : MustIs t must (jE d (Res l)))
variable {course : List (List Int)} (hC : pO t d course) (hT : ∀ x, Res l x → mat course x.Round.toNat x.Place.toNat = x.Player)
include hg hd hM hC hT
end
end Go.Am
