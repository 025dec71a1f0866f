/- The plain law BracketBouts. -/
import Derived.Test.YtenffgkkeafnpaaBbPlain1
namespace Go.Am
theorem aGa (t : aN) (l : List aE) : ∃ o, dJ t l = some o := by
  rcases jW t l with ⟨d, hg⟩ | ⟨e, he⟩
  · exact ⟨_, mQ hg⟩
  · exact ⟨_, nY he⟩
theorem aFz (t : aN) (l : List aE) : ∃ o, eY t l = some o ∧ o.1.length ≤ 100 := by
  rcases jW t l with ⟨d, hg⟩ | ⟨e, he⟩
  · obtain ⟨must, hd, hM⟩ := lQ hg
    refine ⟨_, zH hg hd hM, ?_⟩
    have := yB hg.ht d must
    have := hg.ht.len32
    simp only; omega
  · exact ⟨_, aBm he, by simp⟩
theorem aGc (t : aN) (l : List aE) : ∃ o, eZ t l = some o ∧ o.1.length ≤ 100 := by
  rcases jW t l with ⟨d, hg⟩ | ⟨e, he⟩
  · obtain ⟨must, hd, hM⟩ := lQ hg
    refine ⟨_, zL hg hd hM, ?_⟩
    have := aGt hg.ht d must
    simp only; omega
  · exact ⟨_, aBp he, by simp⟩
theorem aHk (t : aN) (l : List aE) : ∃ o, fP t l = some o := by
  rcases jW t l with ⟨d, hg⟩ | ⟨e, he⟩
  · obtain ⟨must, hd, hM⟩ := lQ hg
    exact ⟨_, aBo hg hd hM⟩
  · exact ⟨_, aCx he⟩
theorem aHo (A B : Option Int) (C D E F : Option (List bD × Int)) (G H : Option (Int × Int)) (S : List bD → List bD → Option Bool) (I : Option Bool) (X : Option Bool) {a : Int} {c e : List bD × Int} {g : Int × Int} (h1 : A = some a) (h2 : B = some a) (h3 : C = some c) (h4 : D = some c) (h5 : E = some e) (h6 : F = some e) (h7 : G = some g) (h8 : H = some g)
    (hs : S c.1 c.1 = some true) (hs2 : S e.1 e.1 = some true) (hI : I = some true) (hX : X = some true) :
    (A.bind fun r7 => B.bind fun r8 => bif !decide (r7 = r8) then (some false)
    else (C.bind fun r9 => D.bind fun r10 => E.bind fun r11 => F.bind fun r12 => G.bind fun r13 => H.bind fun r14 =>
    (S r9.1 r10.1).bind fun r15 =>
    (bif !r15 then (some true) else (some (!decide (r9.2 = r10.2)))).bind fun b16 =>
    (bif b16 then (some true) else ((S r11.1 r12.1).bind fun r17 => some (!r17))).bind fun b18 =>
    (bif b18 then (some true) else (some (!decide (r11.2 = r12.2)))).bind fun b19 =>
    (bif b19 then (some true) else (some (!decide (r13.1 = r14.1)))).bind fun b20 =>
    (bif b20 then (some true) else (some (!decide (r13.2 = r14.2)))).bind fun b21 =>
    (bif b21 then (some true) else (I.bind fun r22 => some (!r22))).bind fun b23 =>
    bif b23 then (some false) else X)) = some true := by
  subst h1; subst h2; subst h3; subst h4; subst h5; subst h6; subst h7; subst h8; subst hI; subst hX
  simp [hs, hs2]
theorem aHn (l : List aE) (h : l.length ≤ 1000) : dS l l BIG 0 = some true := by
  have main := pO (fun k i => dS l l k i) l.length (fun _ => true) (some false) (some true) ?_ ?_ BIG (cX (by omega))
  · rw [main, show (List.range l.length).all (fun _ => true) = true by simp]; rfl
  · intro k i hi
    simp only [dS, Int.ofNat_lt, hi, decide_true, cond_true, cL hi, Option.bind_some, Bool.not_true, cond_false, cJ (show i < 9223372036854775807 by omega)]
  · intro k
    have hlt : decide ((l.length : Int) < (l.length : Int)) = false := decide_eq_false (by omega)
    simp only [dS, hlt, cond_false, kK, yL, Option.bind_some]
theorem qV (t : aN) (l : List aE) (ht : aCe t) (hl : okL wY l) : jK t l = some true := by
  unfold jK
  rw [aLp, Option.bind_some]
  cases hf : aDm t l with
  | true => rw [cond_true, yL]; rfl
  | false =>
    obtain ⟨h1, h2⟩ := aLx hf
    rw [cond_false]
    unfold nV
    rw [hC (by simp; omega), Option.bind_some, Option.bind_some, hC (by simp; omega), Option.bind_some]
    obtain ⟨a, ha⟩ := aGa t l
    obtain ⟨c, hc, hcl⟩ := aFz t l
    obtain ⟨e, he, hel⟩ := aGc t l
    obtain ⟨g, hg⟩ := aHk t l
    exact aHo _ _ _ _ _ _ _ _ gB _ _ ha ha hc hc he he hg hg (uP _ (by omega)) (uP _ (by omega)) (aBl _ (by simp only [List.nil_append]; omega)) (aHn l (by omega))
end Go.Am
