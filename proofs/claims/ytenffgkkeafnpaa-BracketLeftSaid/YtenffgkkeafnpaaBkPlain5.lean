/- Layer 7, plain: all that is known of all matches. -/
import Derived.Test.YtenffgkkeafnpaaBkPlain4
namespace Go.Am

def wJ (t : aO) (must : List (List Int)) : List Int := (dE t).map fun x => mat must x.1 x.2
theorem yR {t : aO} (ht : TreeOK t) (d : List Int) (must : List (List Int)) : (dK t d must).length + 1 = t.Slots.length := by
  rw [kT, List.length_map]; exact pQ ht
theorem aBs (l : List bA) (h : l.length ≤ 9223372036854775807) : jA l l = some true := by
  unfold jA
  have main := tN (fun k i => eV l l k i) l.length (fun _ => true) (some false) (some true) ?_ ?_ BIG (cW h)
  · rw [main, show (List.range l.length).all (fun _ => true) = true by simp]
    simp
  · intro k i hi
    simp [eV, hi, cK hi, cI (show i < 9223372036854775807 by omega)]
  · intro k
    simp [eV, lQ]
theorem aLg (A : Option (List bA × Int)) (n : Int) (F : List bA → Option (List bA × List Int × Bool)) {b : List bA} (hA : A = some (b, 0)) (hn : (b.length : Int) = n) :
    (A.bind fun r3 => (bif !decide (r3.2 = 0) then (some true) else (some (!decide ((r3.1.length : Int) = n)))).bind fun b4 =>
    bif b4 then (some (([] : List bA), ([] : List Int), false)) else (F r3.1)) = F b := by
  subst hA; subst hn
  simp
theorem aJn {t : aO} {l : List aE} {d : List Int} (hg : Good t l d) {must : List (List Int)} (hd : cQ t l = some (⟨d, must⟩, true)) (hM : MustIs t must (eA d (Res l))) : mL t l = some (dK t d must, wJ t must, true) := by
  have h32 := hg.ht.len32
  have hbl := yR hg.ht d must
  unfold mL lU
  refine (aLg _ _ (fun b => fL l t BIG b 0 []) (zV hg hd hM) (by rw [eT (by omega) (by omega)]; omega)).trans ?_
  have := eQ (S := List Int) (fun k i w => fL l t k (dK t d must) i w) (dK t d must).length (fun _ _ => some (dK t d must, wJ t must, true)) (fun i w => w = ((dE t).take i).map fun x => mat must x.1 x.2) ?_ ?_ BIG [] (cW (by omega)) (by simp)
  · exact this
  · rintro k i w hi rfl ih
    have hii : i < (dE t).length := by rw [kT, List.length_map] at hi; exact hi
    have hb : (dK t d must)[i] = iY d must (dE t)[i] := by simp only [kT, List.getElem_map]
    have hm := lG.1 (List.getElem_mem hii)
    have hW := yQ hg hd hM (aKy hg.ht hm.1 hm.2)
    have hlt : decide ((i : Int) < ((dK t d must).length : Int)) = true := decide_eq_true (by omega)
    have ht1 : (dE t).take (i + 1) = (dE t).take i ++ [(dE t)[i]] := List.take_succ_eq_append_getElem hii
    have hil := pQ hg.ht
    simp only [fL, hlt, cond_true, cK hi, Option.bind_some, hb, iY, nA, hW, cI (show i < 9223372036854775807 by omega)]
    by_cases h2 : mat must (dE t)[i].1 (dE t)[i].2 = -2
    · simp only [h2, if_true, decide_true, cond_true]
      rw [gB (by simp; omega), Option.bind_some]
      refine ih _ ?_
      rw [ht1, List.map_append, List.map_cons, List.map_nil, h2]
    · simp only [h2, if_false, show decide ((0 : Int) = 3) = false by decide, decide_true, Bool.not_true, cond_false]
      rw [gB (by simp; omega), Option.bind_some]
      refine ih _ ?_
      rw [ht1, List.map_append, List.map_cons, List.map_nil]
  · rintro k w rfl
    have hlt : decide (((dK t d must).length : Int) < ((dK t d must).length : Int)) = false := decide_eq_false (by omega)
    have hta : (dE t).take (dK t d must).length = dE t := List.take_of_length_le (by rw [kT, List.length_map]; omega)
    simp only [fL, hlt, cond_false, oZ, hta]
    rfl
end Go.Am
