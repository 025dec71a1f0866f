/- The plain law PurseUnits. -/
import Derived.Test.YtoflekecpkjghaaPurseCentsLaw
namespace Go.Am

theorem yH (p : aQ) (person : Int) (_ : aJx p) (_ : okI person) : nK p person = some true := by
  unfold nK
  rcases aVq p with h | ⟨h, hn, d, hg⟩
  · rw [h, Option.bind_some, Bool.not_false, cond_true, Option.bind_some, cond_true, wW, Option.bind_some]
  · have hz := hn.sz
    have hrt := hz.rates
    have ht := zE hg.teams
    rw [h, Option.bind_some, Bool.not_true, cond_false, aAr ht _ hz.teams, Option.bind_some, Option.bind_some]
    cases hp : nF p person with
    | false => rw [Bool.not_false, cond_true, wW, Option.bind_some]
    | true =>
      have hb := aGv hg person
      obtain ⟨f1, f2, f3, f4, f5, f6, f7⟩ := aCn (person := person) hb
      have hnr := hb.numr
      have hdr := hb.denr
      have hbe : kU person (iZ p d person).Low (xN p person (iZ p d person).Low) (sY p person) (pM p person) (qP p person).1 (qP p person).2 = uT p d person := rfl
      rw [hbe] at f1 f2 f3 f4 f5 f6 f7
      rw [← f5] at f6
      have hra := aRn (by omega) hnr.1 hdr.1 f6 f7 (by omega)
      rw [Bool.not_true, cond_false, aTe hz hg, Option.bind_some, hp, cond_true]
      dsimp only
      have hbal := aPb ((aNd hg person).mono (by omega)) (aUf hg person)
      generalize uT p d person = b at f1 f2 f3 f5 f6 f7 hra hbal ⊢
      rw [decide_eq_true rfl, Bool.not_true, cond_false, hbal, Option.bind_some, Option.bind_some, Bool.not_true, cond_false, Option.bind_some, decide_eq_false (by omega), cond_false, Option.bind_some, decide_eq_false (by omega), cond_false]
      have main := pN (S := Int × Int) (fun k i s => fA person p b k s.1 s.2 i) p.Rates (fun s r => bif decide (r.Person = person) then (r.Num, r.Den) else s) (fun s => lK s.1 s.2 b) (1, 1) ?_ ?_ BIG (cI (by omega))
      · dsimp only at main
        rw [main, aLx hg]
        generalize qP p person = R at hnr hdr f6 f7 hra ⊢
        obtain ⟨num, den⟩ := R
        simp only at hnr hdr f6 f7 hra ⊢
        unfold lK
        have m1 := Int.mul_nonneg f2.1 (show (0 : Int) ≤ num by omega)
        have m2 : b.Used * num ≤ 130000000 * 10000 := Int.mul_le_mul f2.2 hnr.2 (by omega) (by omega)
        have m3 := Int.mul_nonneg (show 0 ≤ b.Used + b.Rest by omega) (show (0 : Int) ≤ num by omega)
        have m4 : (b.Used + b.Rest) * num ≤ 260000000 * 10000 := Int.mul_le_mul (by omega) hnr.2 (by omega) (by omega)
        obtain ⟨t1, t2, t3⟩ := vO m1 hdr.1
        obtain ⟨t4, t5, t6⟩ := vO m3 hdr.1
        have w1 : w64 ((w64 (b.Used * num)).tdiv den) = b.Units := by
          rw [bN (n := b.Used * num) (by omega) (by omega), t1, bN (by omega) (by omega)]
          exact hra.1
        have w2 : w64 ((w64 ((w64 (b.Used + b.Rest)) * num)).tdiv den) = b.Units := by
          rw [bN (n := b.Used + b.Rest) (by omega) (by omega), bN (n := (b.Used + b.Rest) * num) (by omega) (by omega), t4, bN (by omega) (by omega)]
          exact f6.symm
        rw [decide_eq_false (show ¬ den = 0 by omega), w1, w2]
        have d0 : decide (b.Units = b.Units) = true := decide_eq_true rfl
        rw [d0]
        by_cases hu : b.Used = 0
        · rw [decide_eq_true hu, wW]; rfl
        · rw [decide_eq_false hu]
          have m5 := Int.mul_nonneg (show 0 ≤ b.Used - 1 by omega) (show (0 : Int) ≤ num by omega)
          have m6 : (b.Used - 1) * num ≤ 130000000 * 10000 := Int.mul_le_mul (by omega) hnr.2 (by omega) (by omega)
          obtain ⟨t7, t8, t9⟩ := vO m5 hdr.1
          have w3 : w64 ((w64 ((w64 (b.Used - 1)) * num)).tdiv den) = (b.Used - 1) * num / den := by
            rw [bN (n := b.Used - 1) (by omega) (by omega), bN (n := (b.Used - 1) * num) (by omega) (by omega), t7, bN (by omega) (by omega)]
          rcases hra.2 with e | e
          · exact absurd e hu
          · rw [w3, decide_eq_true e, wW]; rfl
      · intro k i hi s hs
        have hlt : decide ((i : Int) < (p.Rates.length : Int)) = true := decide_eq_true (by omega)
        simp only [fA, hlt, cond_true, bO hi, Option.bind_some, bJ (show i < 9223372036854775807 by omega)]
        cases decide (p.Rates[i].Person = person) <;> rfl
      · intro k s
        have hlt : decide ((p.Rates.length : Int) < (p.Rates.length : Int)) = false := decide_eq_false (by omega)
        simp only [fA, hlt, cond_false]
end Go.Am
