/- The plain law TopDrawn. -/
import Derived.Test.YtiohgpipanopaaaGreatDrPlain8
import Derived.Test.YtiohgpipanopaaaGreatDrFar
import Derived.Test.YtiohgpipanopaaaGreatDrWorks
namespace Go.Am
section
variable {p : bA} (hp : mI p = true) {l : List Int} (hl : aGs p l)
include hp hl
theorem aMq : (eS p l).Rounds = 2 ∧ p.Size = 4 ∧ l.length = 4 ∨ (eS p l).Rounds = 3 ∧ p.Size = 8 ∧ l.length = 8 := by
 rcases (aRh hp hl).2.2 with ⟨h, h'⟩ | ⟨h, h'⟩
 ·exact .inl ⟨if_pos h, h, h'⟩
 ·exact .inr ⟨if_neg (by omega), h, h'⟩
theorem bGa {s a : Nat} (hs : s < l.length) (ha : a < p.Persons.length) (he : l.getD s 0 = (a : Int)) :
  (l.map (plF p)).getD s 0 = (pp p a).Player ∧ wE (l.map (plF p)) (pp p a).Player = (s : Int) ∧ (l.map (plF p)).getD s 0 ≠ -1 := by
 have hpl : (l.map (plF p)).getD s 0 = (pp p a).Player := by
  rw [aHi hs, he, plF, if_neg (by omega), pn, Int.toNat_natCast]
 have hne : (pp p a).Player ≠ -1 := by have := aEt hp ha; omega
 refine ⟨hpl, ?_, by rw [hpl]; exact hne⟩
 rcases aGr (l.map (plF p)) (pp p a).Player with ⟨_, h⟩ | ⟨q, h1, h2, h3⟩
 ·exact absurd hpl (h s (by simpa using hs))
 ·rw [h1]
  have hD := (aBh (aFe hp hl)).dok
  have : q = s := hD.uni h2 (by simpa [eS] using hs) (h3.trans hpl.symm) (show (l.map (plF p)).getD q 0 ≠ -1 by rw [h3]; exact hne)
  rw [this]
theorem aZj {must : List (List Int)} (hM : MustIs (eS p l) must (gE (eS p l).Slots (Res []))) {s a : Nat} (hs : s < l.length) (ha : a < p.Persons.length) (ea : l.getD s 0 = (a : Int)) :
  rJ (eS p l) (l.map (plF p)) must (pp p a).Player = (⟨if (l.map (plF p)).getD (sib s) 0 = -1 then 1 else 0, (eS p l).Rounds⟩, 0) := by
 have hT := aFe hp hl
 obtain ⟨a1, a2, a3⟩ := bGa hp hl hs ha ea
 have ra := aEt hp ha
 have hr := aMq hp hl
 have hs' : s < (eS p l).Slots.length := by simpa [eS] using hs
 have m1 : xO (l.map (plF p)) must s (eS p l) = (eS p l).Rounds.toNat := aUy hT hM hs' a3
 have m2 : aHc (l.map (plF p)) must s (eS p l) = if (l.map (plF p)).getD (sib s) 0 = -1 then 1 else 0 := bBf hT hM (by omega) hs' a3
 unfold rJ
 rw [if_pos (jB.2 ra), a2, if_neg (by omega)]
 simp only [Int.toNat_natCast, rJ.leftFrom, rJ.mostFrom, m1, m2]
 have e : (((eS p l).Rounds.toNat : Nat) : Int) = (eS p l).Rounds := by omega
 rw [e]
 split <;> rfl
end
end Go.Am
