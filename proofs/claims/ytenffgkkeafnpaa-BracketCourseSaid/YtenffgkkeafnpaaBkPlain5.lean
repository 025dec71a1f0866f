/- Layer 7, plain: all that is known of all matches. -/
import Derived.Test.YtenffgkkeafnpaaBkPlain4
namespace Go.Am

def pA (t : aT) (must : List (List Int)) : List Int := (iI t).map fun x => mat must x.1 x.2
theorem aFi {t : aT} (ht : TreeOK t) (d : List Int) (must : List (List Int)) : (fC t d must).length + 1 = t.Slots.length := by
  rw [pD, List.length_map]; exact tW ht
theorem aLj (A : Option (List bS × Int)) (n : Int) (F : List bS → Option (List bS × List Int × Bool)) {b : List bS} (hA : A = some (b, 0)) (hn : (b.length : Int) = n) :
    (A.bind fun r3 => (bif !decide (r3.2 = 0) then (some true) else (some (!decide ((r3.1.length : Int) = n)))).bind fun b4 =>
    bif b4 then (some (([] : List bS), ([] : List Int), false)) else (F r3.1)) = F b := by
  subst hA; subst hn
  simp
theorem aJn {t : aT} {l : List aI} {d : List Int} (hg : Good t l d) {must : List (List Int)} (hd : dA t l = some (⟨d, must⟩, true)) (hM : MustIs t must (eR d (Res l))) : mZ t l = some (fC t d must, pA t must, true) := by
  have h32 := hg.ht.len32
  have hbl := aFi hg.ht d must
  unfold mZ mF
  refine (aLj _ _ (fun b => fS l t BIG b 0 []) (aAj hg hd hM) (by rw [eU (by omega) (by omega)]; omega)).trans ?_
  have := fM (S := List Int) (fun k i w => fS l t k (fC t d must) i w) (fC t d must).length (fun _ _ => some (fC t d must, pA t must, true)) (fun i w => w = ((iI t).take i).map fun x => mat must x.1 x.2) ?_ ?_ BIG [] (dD (by omega)) (by simp)
  · exact this
  · rintro k i w hi rfl ih
    have hii : i < (iI t).length := by rw [pD, List.length_map] at hi; exact hi
    have hb : (fC t d must)[i] = iJ d must (iI t)[i] := by simp only [pD, List.getElem_map]
    have hm := rY.1 (List.getElem_mem hii)
    have hW := zG hg hd hM (aLc hg.ht hm.1 hm.2)
    have hlt : decide ((i : Int) < ((fC t d must).length : Int)) = true := decide_eq_true (by omega)
    have ht1 : (iI t).take (i + 1) = (iI t).take i ++ [(iI t)[i]] := List.take_succ_eq_append_getElem hii
    have hil := tW hg.ht
    simp only [fS, hlt, cond_true, cH hi, Option.bind_some, hb, iJ, nM, hW, cJ (show i < 9223372036854775807 by omega)]
    by_cases h2 : mat must (iI t)[i].1 (iI t)[i].2 = -2
    · simp only [h2, if_true, decide_true, cond_true]
      rw [iU (by simp; omega), Option.bind_some]
      refine ih _ ?_
      rw [ht1, List.map_append, List.map_cons, List.map_nil, h2]
    · simp only [h2, if_false, show decide ((0 : Int) = 3) = false by decide, decide_true, Bool.not_true, cond_false]
      rw [iU (by simp; omega), Option.bind_some]
      refine ih _ ?_
      rw [ht1, List.map_append, List.map_cons, List.map_nil]
  · rintro k w rfl
    have hlt : decide (((fC t d must).length : Int) < ((fC t d must).length : Int)) = false := decide_eq_false (by omega)
    have hta : (iI t).take (fC t d must).length = iI t := List.take_of_length_le (by rw [pD, List.length_map]; omega)
    simp only [fS, hlt, cond_false, pK, hta]
    rfl
theorem aLx {t : aT} {x : Nat × Nat} (hx : x ∈ iI t) {s : Nat} (hs : s < 2) : x.1 = 0 ∨ (x.1 - 1 < t.Rounds.toNat ∧ 2 * x.2 + s < bZ t ((x.1 - 1 : Nat) : Int)) := by
  obtain ⟨h1, h2⟩ := rY.1 hx
  by_cases h0 : x.1 = 0
  · exact .inl h0
  · have := pP (t := t) (r := x.1 - 1) (by omega)
    have e : x.1 - 1 + 1 = x.1 := by omega
    rw [e] at this
    exact .inr ⟨by omega, by omega⟩
end Go.Am
