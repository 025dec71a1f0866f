/- The plain law PursePool. -/
import Derived.Test.YtoflekecpkjghaaPurseMoreLaw
import Derived.Test.YtoflekecpkjghaaPpPlain20
namespace Go.Am

section
variable {p : aN} (hn : NearP p)
include hn
theorem aXj {s : List aG} (h3 : s.length ≤ 20) : mL (wT p) s p.Tree p.Prizes p.Daily p.Teams p.Levies p.Rates p.Items = some true := by
  unfold mL
  have hzo := aQl hn h3
  have e : aN.mk p.Tree s p.Prizes p.Daily p.Teams p.Levies p.Rates p.Items = aCa p s := rfl
  rw [e, aUk hzo, Option.bind_some]
  by_cases hc : tN (aCa p s) = 0
  · obtain ⟨d', ho⟩ := aSv hc
    have hpv : wT (aCa p s) = wT p := rfl
    rw [decide_eq_true hc, Bool.not_true, cond_false, aTf hzo ho, Option.bind_some, hpv]
    dsimp only
    rw [decide_eq_true rfl, cond_true, decide_eq_true rfl, Option.bind_some, cond_true, aBh]
    rfl
  · rw [decide_eq_false hc, Bool.not_false, cond_true, aBh]
    rfl
theorem aVj : eM (wT p) p BIG 0 [] p.Tree p.Prizes p.Daily p.Teams p.Levies p.Rates p.Items = some true := by
  have hsl := hn.slips
  refine yS (S := List aG) (fun k i s => eM (wT p) p k i s p.Tree p.Prizes p.Daily p.Teams p.Levies p.Rates p.Items) p.Slips.length (fun o => o = some true)
    (fun i s => s.length ≤ min i p.Slips.length) ?_ ?_ BIG 0 [] (cK (by omega)) (by simp)
  · rintro k i s hi h3 ih
    have hlt : decide ((i : Int) < (p.Slips.length : Int)) = true := decide_eq_true (by omega)
    simp only [eM, hlt, cond_true, bQ hi, Option.bind_some, bN (show i < 9223372036854775807 by omega)]
    rw [gR (by simp; omega)]
    cases decide (p.Slips[i].Kind = 5) with
    | true => exact ih _ (by simp; omega)
    | false => exact ih _ (by omega)
  · rintro k i s hi h3
    have hlt : decide ((i : Int) < (p.Slips.length : Int)) = false := decide_eq_false (by omega)
    simp only [eM, hlt, cond_false]
    exact aXj hn (by omega)
end
theorem aXk (A C : Option (Int × Int)) (B : Option (aY × Int)) (D : Option aN) (F : Int → aN → Option Bool) {n left : Int} {t : aY} {p : aN} (hA : A = some (n, 0)) (hB : B = some (t, 0)) (hC : C = some (left, 0)) (hD : D = some p) (h1 : t.Gross ≤ n) (h2 : left = 0 → t.Gross = n) (hF : F n p = some true) :
    (A.bind fun r4 => B.bind fun r5 => C.bind fun r7 =>
    (bif !decide (r4.2 = 0) then (some true) else (some (!decide (r5.2 = 0)))).bind fun b8 =>
    (bif b8 then (some true) else (some (!decide (r7.2 = 0)))).bind fun b9 =>
    (bif b9 then (some true) else (some (decide (r4.1 < r5.1.Gross)))).bind fun b10 =>
    (bif b10 then (some true) else ((bif decide (r7.1 = 0) then (some (!decide (r5.1.Gross = r4.1))) else (some false)).bind fun b11 =>
    some b11)).bind fun b12 =>
    bif b12 then (some false)
    else (D.bind fun r13 => F r4.1 r13)) = some true := by
  rw [hA, hB, hC, hD]
  simp only [Option.bind_some, decide_true, Bool.not_true, cond_false, decide_eq_false (show ¬ n < t.Gross by omega)]
  by_cases h0 : left = 0
  · rw [decide_eq_true h0, decide_eq_true (h2 h0)]; exact hF
  · rw [decide_eq_false h0]; exact hF
theorem zN (p : aN) (_ : aLg p) : oR p = some true := by
  unfold oR
  rcases aYg p with h | ⟨h, hn, d, hg⟩
  · rw [h, Option.bind_some, Bool.not_false, cond_true, aBh, Option.bind_some]
  · have hz := hn.sz
    rw [h, Option.bind_some, Bool.not_true, cond_false]
    exact aXk _ _ _ _ (fun n r => eM n p BIG 0 [] r.Tree r.Prizes r.Daily r.Teams r.Levies r.Rates r.Items) (aTf hz hg) (aVh hz hg) (aMp hg.good (yT hg.good).1) (bBi hz) (aYc hg) (fun h0 => aYb hg (by omega)) (aVj hn)
end Go.Am
