/- The plain law PurseSure. -/
import Derived.Test.YtoflekecpkjghaaGreatPpPlain21
import Derived.Test.YtoflekecpkjghaaGreatPpWorks
namespace Go.Am
theorem aQo {course : List (List Int)} {x : Int} : ∀ n, (∀ r, r < n → (course.getD r []).length ≤ 16) → sY course x n ≤ 16 * n
 | 0, _ => by simp [sY]
 | n + 1, h => by
  rw [aFm]
  have h1 := aQo (x := x) n fun r hr => h r (by omega)
  have h2 := h n (by omega)
  have h3 := List.length_filter_le (fun y => decide (y = x)) (course.getD n [])
  omega
theorem aOz (x y : Int) : ([y].filter fun z => decide (z = x)).length = if y = x then 1 else 0 := by by_cases h : y = x <;> simp [h]
theorem aZq {t : aR} (ht : TreeOK t) {d : List Int} (hlen : d.length = t.Slots.length) {course : List (List Int)} (hC : pO t d course) (x : Int) : mD d course x = some (((sY course x t.Rounds.toNat : Nat) : Int), decide (x ∈ d)) := by
 have h32 := ht.len32
 have hr5 := ht.r5
 have hcl := hC.len
 have hrow : ∀ r, r < course.length → (course.getD r []).length ≤ 16 := fun r hr => by
  rw [hC.row r (by omega)]; exact wV ht
 unfold mD
 have main := kR (S := Bool) (fun k i b => jT d course x 0 k b i) d.length (fun _ _ => uF course x 0 (decide (x ∈ d))) (fun i b => b = decide (x ∈ d.take i)) ?_ ?_ BIG false (cE (by omega)) (by simp)
 ·have rows := kR (S := Int) (fun k r n => fQ course x (decide (x ∈ d)) k n r) course.length (fun _ _ => some (((sY course x t.Rounds.toNat : Nat) : Int), decide (x ∈ d))) (fun r n => n = ((sY course x r : Nat) : Int)) ?_ ?_ BIG 0 (cE (by omega)) (by simp [sY])
  ·exact main.trans rows
  ·rintro k r n hr rfl ih
   have hlt : decide ((r : Int) < (course.length : Int)) = true := decide_eq_true (by omega)
   simp only [fQ, hlt, cond_true]
   have hrl := hrow r hr
   have hw := aQo (course := course) (x := x) r fun q hq => hrow q (by omega)
   have hi1 : idx course (r : Int) = some (course.getD r []) := by rw [bM hr, bO hr]
   have cells := kR (S := Int) (fun q k' n => iU (fQ course x (decide (x ∈ d)) k) course x (decide (x ∈ d)) r q n k') (course.getD r []).length (fun _ _ => fQ course x (decide (x ∈ d)) k ((sY course x (r + 1) : Nat) : Int) ((r + 1 : Nat) : Int)) (fun k' n => n = ((sY course x r + (((course.getD r []).take k').filter fun y => decide (y = x)).length : Nat) : Int)) ?_ ?_ BIG ((sY course x r : Nat) : Int) (cE (by omega)) (by simp)
   ·exact cells.trans (ih _ rfl)
   ·rintro q k' n hk rfl ih2
    have hlt2 : decide ((k' : Int) < ((course.getD r []).length : Int)) = true := decide_eq_true (by omega)
    have hf := List.length_filter_le (fun y => decide (y = x)) ((course.getD r []).take k')
    have htk := List.length_take_le k' (course.getD r [])
    simp only [iU, hi1, Option.bind_some, hlt2, cond_true, bM hk, bH (show k' < 9223372036854775807 by omega)]
    have et : (course.getD r []).take (k' + 1) = (course.getD r []).take k' ++ [(course.getD r [])[k']] := List.take_succ_eq_append_getElem hk
    by_cases he : (course.getD r [])[k'] = x
    ·rw [decide_eq_true he, cond_true, bH (by omega)]
     refine ih2 _ ?_
     rw [et, List.filter_append, List.length_append, aOz, if_pos he]
     rfl
    ·rw [decide_eq_false he, cond_false]
     refine ih2 _ ?_
     rw [et, List.filter_append, List.length_append, aOz, if_neg he]
     rfl
   ·rintro q n rfl
    have hlt2 : decide (((course.getD r []).length : Int) < ((course.getD r []).length : Int)) = false := decide_eq_false (by omega)
    simp only [iU, hi1, Option.bind_some, hlt2, cond_false, uI, uH, bH (show r < 9223372036854775807 by omega)]
    rw [List.take_length, aFm]
  ·rintro k n rfl
   have hlt : decide ((course.length : Int) < (course.length : Int)) = false := decide_eq_false (by omega)
   simp only [fQ, hlt, cond_false, uG]
   rw [hcl]
 ·rintro k i b hi rfl ih
  have hlt : decide ((i : Int) < (d.length : Int)) = true := decide_eq_true (by omega)
  simp only [jT, hlt, cond_true, bM hi, Option.bind_some, eC, bH (show i < 9223372036854775807 by omega)]
  refine ih _ ?_
  rw [List.take_succ_eq_append_getElem hi, Bool.eq_iff_iff]
  simp only [Bool.or_eq_true, decide_eq_true_eq, List.mem_append, List.mem_singleton]
  exact or_congr Iff.rfl eq_comm
 ·rintro k b rfl
  have hlt : decide ((d.length : Int) < (d.length : Int)) = false := decide_eq_false (by omega)
  simp only [jT, hlt, cond_false, List.take_length]
theorem aOk {t : aR} (ht : TreeOK t) {d : List Int} (hlen : d.length = t.Slots.length) (course : List (List Int)) : ∃ b, gJ t d course = some b ∧ (b = true → pO t d course) := by
 by_cases h : course.length ≤ 20
 ·exact aQq ht hlen course h
 ·have hr5 := ht.r5
  refine ⟨false, ?_, fun h => by cases h⟩
  unfold gJ
  have e1 : decide ((d.length : Int) = (t.Slots.length : Int)) = true := decide_eq_true (by omega)
  have e2 : decide ((course.length : Int) = t.Rounds) = false := decide_eq_false (by omega)
  simp only [e1, e2, Bool.not_true, Bool.not_false, cond_true, cond_false, Option.bind_some]
section
variable {p : aP} {d : List Int} (h : GP p d)
include h
theorem aYq {t : bR} (ht : t ∈ p.Teams) {person : Int} (hsat : t.One = person ∨ t.Two = person) {prize : Int} (g0 : 0 ≤ prize) (g1 : prize ≤ 10000000) : lF t (decide (t.Two = person)) prize = some (qA t person prize) := by
 have e1 : (prize + 1).tdiv 2 = (prize + 1) / 2 := Int.tdiv_eq_ediv_of_nonneg (by omega)
 have e2 : prize.tdiv 2 = prize / 2 := Int.tdiv_eq_ediv_of_nonneg (by omega)
 have w1 : w64 (prize + 1) = prize + 1 := bW (by omega) (by omega)
 have w2 : w64 ((prize + 1).tdiv 2) = (prize + 1).tdiv 2 := by rw [e1]; exact bW (by omega) (by omega)
 have w3 : w64 (prize.tdiv 2) = prize.tdiv 2 := by rw [e2]; exact bW (by omega) (by omega)
 unfold lF qA
 rw [w1, w2, w3]
 by_cases h2 : t.Two = -1
 ·rw [decide_eq_true h2, if_pos h2]; rfl
 ·have h12 := aSk h ht h2
  rw [decide_eq_false h2, if_neg h2, cond_false]
  by_cases h3 : t.One = person
  ·rw [if_pos h3, decide_eq_false (by omega)]; rfl
  ·have h4 : t.Two = person := hsat.resolve_left h3
   rw [if_neg h3, decide_eq_true h4]; rfl
theorem aVy {t : bR} (ht : t ∈ p.Teams) {person : Int} (hsat : t.One = person ∨ t.Two = person) {w : cG} (hw : w = sX p d person t) (course : List (List Int)) :
  ((gU p.Tree p.Slips).bind fun r24 =>
  (bif !r24.2 then (some true) else ((gJ p.Tree r24.1 course).bind fun r25 =>
  some (!r25))).bind fun b26 =>
  (bif b26 then (some true) else ((kF p.Tree p.Slips course).bind fun r27 =>
  some (!r27))).bind fun b28 =>
  bif b28 then ((eM).bind fun r29 =>
  some r29)
  else ((mD r24.1 course t.Player).bind fun r30 =>
  bif r30.2 then ((idx p.Prizes r30.1).bind fun x31 =>
  (lF t (decide (t.Two = person)) x31).bind fun r32 =>
  (bif decide (w.Low ≤ r32) then (some (decide (r32 ≤ w.High))) else (some false)).bind fun b33 =>
  (bif b33 then ((eM).bind fun r34 =>
  some r34) else (some false)).bind fun b35 =>
  some b35)
  else ((bif decide (w.Low ≤ 0) then (some (decide (0 ≤ w.High))) else (some false)).bind fun b36 =>
  (bif b36 then ((eM).bind fun r37 =>
  some r37) else (some false)).bind fun b38 =>
  some b38))) = some true := by
 have hg := h.good
 have hT := hg.ht
 have hD := hg.dok
 rw [aOl hg, Option.bind_some]
 dsimp only
 obtain ⟨b1, hb1, hC⟩ := aOk hT hD.len course
 rw [Bool.not_true, cond_false, hb1, Option.bind_some, Option.bind_some]
 cases b1 with
 | false => rw [Bool.not_false, cond_true, Option.bind_some, cond_true, sE, Option.bind_some]
 | true =>
  obtain ⟨c, hc1, hc2⟩ := aUb hg (hC rfl)
  rw [Bool.not_true, cond_false, hc1, Option.bind_some, Option.bind_some]
  cases c with
  | false => rw [Bool.not_false, cond_true, sE, Option.bind_some]
  | true =>
   have hCo := hC rfl
   rw [Bool.not_true, cond_false, aZq hT hD.len hCo, Option.bind_some]
   dsimp only
   have htb := (oB.1 (qP h.teams t ht)).1
   by_cases hin : t.Player ∈ d
   ·obtain ⟨a, ha, he⟩ := List.getElem_of_mem hin
    have he' : d.getD a 0 = t.Player := by rw [bO ha]; exact he
    have hne : d.getD a 0 ≠ -1 := by omega
    have hw1 := aWc hT hD hCo ha hne
    rw [he'] at hw1
    have hl := aSv hg hCo (hc2 rfl) (aHc hg).2 ha
    have hrs := aPv h ha hne
    rw [he'] at hrs
    have hn : oD p.Tree d course a ≤ p.Tree.Rounds.toNat := rF _ _
    have hR := hT.r1
    have q := kO h.prizes (i := ((oD p.Tree d course a : Nat) : Int)) (by omega) (by omega)
    have hso := aMe h person t (n := ((oD p.Tree d course a : Nat) : Int)) (by rw [hrs]) (by rw [hrs]; show ((rS _ _ _ _ : Nat) : Int) ≤ _; omega) (by rw [hrs]; show _ ≤ ((xK _ _ _ _ : Nat) : Int); omega)
    rw [← hw] at hso
    rw [decide_eq_true hin, cond_true, hw1, q.1, Option.bind_some, aYq h ht hsat q.2.1 q.2.2, Option.bind_some, decide_eq_true hso.1, decide_eq_true hso.2, sE]
    rfl
   ·have hno : ∀ a, a < d.length → d.getD a 0 ≠ t.Player := fun a ha e => hin (by rw [← e, bO ha]; exact List.getElem_mem ha)
    have hz : w = ⟨0, 0⟩ := by
     rw [hw]
     unfold sX
     rw [if_neg]
     unfold iP oQ
     rw [mK.2 ⟨by omega, by omega⟩, if_pos rfl]
     rcases yU d t.Player with ⟨h1, _⟩ | ⟨a, h1, ha, he⟩
     ·rw [h1, if_pos (by decide)]; decide
     ·exact absurd he (hno a ha)
    rw [decide_eq_false hin, cond_false, hz, sE]
    rfl
end
theorem zY (p : aP) (course : List (List Int)) (person : Int) (_ : aLj p) (_ : okL (okL okI) course) (_ : okI person) : pD p course person = some true := by
 unfold pD
 rcases aXy p with h | ⟨h, hn, d, hg⟩
 ·rw [h, Option.bind_some, Bool.not_false, cond_true, Option.bind_some, cond_true, sE, Option.bind_some]
 ·have hz := hn.sz
  have ht := qP hg.teams
  have hip := aMq ht person
  rw [h, Option.bind_some, Bool.not_true, cond_false, aBx ht _ hz.teams, Option.bind_some, Option.bind_some]
  cases hp : lZ p person with
  | false => rw [Bool.not_false, cond_true, sE, Option.bind_some]
  | true =>
   rw [hp, Bool.and_eq_true, decide_eq_true_eq] at hip
   have ho := aRb hg person
   have hbg : (zW p d person).Gross = (eK p d person).Low := rfl
   rw [Bool.not_true, cond_false, aIm hz hg, Option.bind_some, aVb hz hg, Option.bind_some, hp, cond_true, cond_true]
   dsimp only
   rw [decide_eq_true (rfl : (0 : Int) = 0), Bool.not_true, cond_false, Option.bind_some, cond_false, decide_eq_false (by omega), Option.bind_some, cond_false, decide_eq_true hbg, Bool.not_true, Option.bind_some, cond_false, aYf p person hz.teams, Option.bind_some]
   cases hto : tH p person with
   | none => rw [hto] at hip; simp at hip
   | some t =>
    have hmem : t ∈ p.Teams := List.mem_of_find?_eq_some (show p.Teams.find? _ = some t from hto)
    have hsat := List.find?_some (show p.Teams.find? _ = some t from hto)
    simp only [Bool.or_eq_true, Bool.and_eq_true, decide_eq_true_eq] at hsat
    have hw : eK p d person = sX p d person t := by unfold eK; rw [hto]
    have htail := aVy hg hmem (hsat.imp id fun x => x.1) hw course
    dsimp only
    by_cases h2 : 0 ≤ t.Two
    ·obtain ⟨⟨a1, a2⟩, a3, a4⟩ := bAg hg hmem h2
     have hne : t.Two ≠ -1 := by omega
     have e : fM t = [t.One, t.Two] := by unfold fM; rw [if_neg hne]
     have p1 : lZ p t.One = true := by
      unfold lZ cW
      exact decide_eq_true (List.mem_flatMap.2 ⟨t, hmem, by rw [e]; exact List.mem_cons_self⟩)
     have p2 : lZ p t.Two = true := by
      unfold lZ cW
      exact decide_eq_true (List.mem_flatMap.2 ⟨t, hmem, by rw [e]; exact List.mem_cons_of_mem _ List.mem_cons_self⟩)
     rw [decide_eq_true h2, cond_true, aIm hz hg, Option.bind_some, aIm hz hg, Option.bind_some, p1, p2, cond_true, cond_true]
     dsimp only
     rw [bW (n := (eK p d t.One).Low - (eK p d t.Two).Low) (by omega) (by omega), bW (n := (eK p d t.One).High - (eK p d t.Two).High) (by omega) (by omega), decide_eq_true (rfl : (0 : Int) = 0), Bool.not_true, cond_false, Option.bind_some, cond_false, decide_eq_false (by omega), Option.bind_some, cond_false, decide_eq_false (by omega), Option.bind_some, cond_false, decide_eq_false (by omega), Option.bind_some, cond_false, decide_eq_false (by omega), Option.bind_some, cond_false]
     exact htail
    ·rw [decide_eq_false h2, cond_false]
     exact htail
end Go.Am
