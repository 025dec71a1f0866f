/- The plain law BracketAsks. -/
import Derived.Test.YtenffgkkeafnpaaBkPlain3
namespace Go.Am
theorem aJo (W : Option Bool) (A B : Option (Int × Int)) (C D : Option (List Int × Int)) (E F : Option (cR × Int)) (G H : Option (Int × Int)) (S : List Int → List Int → Option Bool) {a g : Int × Int} {c : List Int × Int} {e : cR × Int} (hW : W = some true)
    (h1 : A = some a) (h2 : B = some a) (h3 : C = some c) (h4 : D = some c) (h5 : E = some e) (h6 : F = some e) (h7 : G = some g) (h8 : H = some g) (hs : S c.1 c.1 = some true) :
    (A.bind fun r8 => B.bind fun r9 => C.bind fun r10 => D.bind fun r11 =>
    (bif !decide (r8.1 = r9.1) then (some true) else (some (!decide (r8.2 = r9.2)))).bind fun b12 =>
    (bif b12 then (some true) else ((S r10.1 r11.1).bind fun r13 =>
    some (!r13))).bind fun b14 =>
    (bif b14 then (some true) else (some (!decide (r10.2 = r11.2)))).bind fun b15 =>
    bif b15 then (some false)
    else (E.bind fun r16 => F.bind fun r18 => G.bind fun r20 => H.bind fun r21 =>
    (bif decide (r16.1 = r18.1) then (some (decide (r16.2 = r18.2))) else (some false)).bind fun b22 =>
    (bif b22 then (some (decide (r20.1 = r21.1))) else (some false)).bind fun b23 =>
    (bif b23 then (some (decide (r20.2 = r21.2))) else (some false)).bind fun b24 =>
    (bif b24 then (W.bind fun r25 =>
    some r25) else (some false)).bind fun b26 =>
    some b26)) = some true := by
  subst hW; subst h1; subst h2; subst h3; subst h4; subst h5; subst h6; subst h7; subst h8
  simp [hs]
theorem sA (t : aO) (l : List aG) (x : lT) (ht : aCl t) (hl : okL xR l) (hx : sR x) : jV t l x = some true := by
  unfold jV
  rw [aLv, Option.bind_some]
  cases hf : aDq t l with
  | true => rw [cond_true, zA, Option.bind_some]
  | false =>
    obtain ⟨h1, h2⟩ := aMb hf
    rw [cond_false]
    unfold oD
    rw [iR (by simp; omega), Option.bind_some, Option.bind_some, iR (by simp; omega), Option.bind_some]
    obtain ⟨a, ha⟩ := aEz t l x.Round x.Place
    obtain ⟨c, hc, hcl⟩ := aJl t l x.Round x.Place
    obtain ⟨e, he⟩ := aDd t l x.A
    obtain ⟨g, hg⟩ := aHu t l x.A x.B
    exact aJo _ _ _ _ _ _ _ _ _ gN zA ha ha hc hc he he hg hg (aBt _ (by omega))
end Go.Am
