/- Layer 7, plain: all that is known of all matches. -/
import Derived.Test.YtenffgkkeafnpaaBkPlain4
namespace Go.Am

def qR (t : aO) (must : List (List Int)) : List Int := (gL t).map fun x => mat must x.1 x.2
theorem aEx {t : aO} (ht : TreeOK t) (d : List Int) (must : List (List Int)) : (fG t d must).length + 1 = t.Slots.length := by
  rw [mV, List.length_map]; exact tO ht
theorem aLd (A : Option (List bO × Int)) (n : Int) (F : List bO → Option (List bO × List Int × Bool)) {b : List bO} (hA : A = some (b, 0)) (hn : (b.length : Int) = n) :
    (A.bind fun r3 => (bif !decide (r3.2 = 0) then (some true) else (some (!decide ((r3.1.length : Int) = n)))).bind fun b4 =>
    bif b4 then (some (([] : List bO), ([] : List Int), false)) else (F r3.1)) = F b := by
  subst hA; subst hn
  simp
theorem aDc {t : aO} {l : List aE} {d : List Int} (hg : Good t l d) {must : List (List Int)} (hd : cS t l = some (⟨d, must⟩, true)) (hM : MustIs t must (eX d (Res l))) : lG t l = some (fG t d must, qR t must, true) := by
  have h32 := hg.ht.len32
  have hbl := aEx hg.ht d must
  unfold lG lU
  refine (aLd _ _ (fun b => fL l t BIG b 0 []) (zU hg hd hM) (by rw [fE (by omega) (by omega)]; omega)).trans ?_
  have := fM (S := List Int) (fun k i w => fL l t k (fG t d must) i w) (fG t d must).length (fun _ _ => some (fG t d must, qR t must, true)) (fun i w => w = ((gL t).take i).map fun x => mat must x.1 x.2) ?_ ?_ BIG [] (cY (by omega)) (by simp)
  · exact this
  · rintro k i w hi rfl ih
    have hii : i < (gL t).length := by rw [mV, List.length_map] at hi; exact hi
    have hb : (fG t d must)[i] = yG d must (gL t)[i] := by simp only [mV, List.getElem_map]
    have hm := rJ.1 (List.getElem_mem hii)
    have hW := yR hg hd hM (aMu hg.ht hm.1 hm.2)
    have hlt : decide ((i : Int) < ((fG t d must).length : Int)) = true := decide_eq_true (by omega)
    have ht1 : (gL t).take (i + 1) = (gL t).take i ++ [(gL t)[i]] := List.take_succ_eq_append_getElem hii
    have hil := tO hg.ht
    simp only [fL, hlt, cond_true, cJ hi, Option.bind_some, hb, yG, mZ, hW, cK (show i < 9223372036854775807 by omega)]
    by_cases h2 : mat must (gL t)[i].1 (gL t)[i].2 = -2
    · simp only [h2, if_true, decide_true, cond_true]
      rw [hZ (by simp; omega), Option.bind_some]
      refine ih _ ?_
      rw [ht1, List.map_append, List.map_cons, List.map_nil, h2]
    · simp only [h2, if_false, show decide ((0 : Int) = 3) = false by decide, decide_true, Bool.not_true, cond_false]
      rw [hZ (by simp; omega), Option.bind_some]
      refine ih _ ?_
      rw [ht1, List.map_append, List.map_cons, List.map_nil]
  · rintro k w rfl
    have hlt : decide (((fG t d must).length : Int) < ((fG t d must).length : Int)) = false := decide_eq_false (by omega)
    have hta : (gL t).take (fG t d must).length = gL t := List.take_of_length_le (by rw [mV, List.length_map]; omega)
    simp only [fL, hlt, cond_false, oY, hta]
    rfl
theorem aLt {t : aO} {x : Nat × Nat} (hx : x ∈ gL t) {s : Nat} (hs : s < 2) : x.1 = 0 ∨ (x.1 - 1 < t.Rounds.toNat ∧ 2 * x.2 + s < cF t ((x.1 - 1 : Nat) : Int)) := by
  obtain ⟨h1, h2⟩ := rJ.1 hx
  by_cases h0 : x.1 = 0
  · exact .inl h0
  · have := uW (t := t) (r := x.1 - 1) (by omega)
    have e : x.1 - 1 + 1 = x.1 := by omega
    rw [e] at this
    exact .inr ⟨by omega, by omega⟩
end Go.Am
