/- Plain laws, one behind the other. -/
import Derived.Test.YtiohgpipanopaaaGreatDrPlain3
import Derived.Test.YtiohgpipanopaaaGreatBkLucky1
import Derived.Test.YtiohgpipanopaaaGreatDrPlain7
import Derived.Test.YtiohgpipanopaaaGreatBbDet
import Derived.KernelRfl
section
namespace Go.Am
theorem aLi : ∀ (n i : Nat) (d E : List Int) (U : List aF), i + n ≤ d.length → iO [] n i d E U = some (d, U)
 | 0, _, _, _, _, _ => rfl
 | n + 1, i, d, E, U, h => by
  have hs : gX [] (i : Int) (([] : List aF).length + 1) (d.getD i 0) E U = some (d.getD i 0, E, U) := rfl
  unfold iO
  rw [hs]
  have hset : d.set i (d.getD i 0) = d := by rw [bT (show i < d.length by omega)]; exact List.set_getElem_self _
  simp only [hset]
  exact aLi n (i + 1) d E U (by omega)
theorem aRh (t : aN) : kG t [] = some t.Slots := by
 have hL : dL [] = [] := rfl
 unfold kG aAh
 rw [hL, aLi _ _ _ _ _ (by omega)]
 rfl
theorem aQs {t : aN} (ht : sB t = true) {l : List aF} (hl : l.length ≤ 60) (hs : ∀ s ∈ l, fK t s = true) (hk : ∀ s ∈ l, s.Kind = 5) {d : List Int} (h : kG t l = some d) : Good t l d := by
 have hT := oN ht
 have hD := yG hT hs h
 refine ⟨ht, hl, hs, h, ⟨fun x hx y hy h5 => absurd (hk x hx) h5, fun x hx => absurd (hk x hx.1) hx.2, ?_⟩⟩
 intro m v w h1 h2
 rcases h1 with ⟨i, hi, bi, hm, hv⟩ | ⟨x, hx, _⟩
 ·rcases h2 with ⟨j, hj, bj, hm', hw⟩ | ⟨x, hx, _⟩
  ·have := aKq hT hD hi hj bi bj (hm.symm.trans hm')
   subst this
   rw [hv, hw]
  ·exact absurd (hk x hx.1) hx.2
 ·exact absurd (hk x hx.1) hx.2
theorem aUx {t : aN} (ht : sB t = true) : Good t [] t.Slots := aQs ht (by simp) (by simp) (by simp) (aRh t)
end Go.Am
end
section
namespace Go.Am
section
variable {t : aN} (hT : sB t = true) {must : List (List Int)} (hM : MustIs t must (eV t.Slots (Res [])))
include hT hM
end
section
variable {p : bQ} (hp : aJg p = true) {l : List Int} (hl : aSc p l)
include hp hl
end
end Go.Am
end
section
namespace Go.Am
theorem aUo {p : bQ} {zs r : List Int} (h1 : pD p = tB p zs) (h2 : aMd zs (fun y5 y6 => oI y5 y6 p) = true) (h3 : kV (fun y5 y6 => oI y5 y6 p) zs = r) (h4 : zs.length ≤ 8) : pD p = some (-1 :: r) := by
 have hl : r.length ≤ 8 := by rw [← h3, kV, (List.mergeSort_perm _ _).length_eq]; exact h4
 rw [h1, tB, rV, aMf, if_pos ⟨h2, by omega⟩, Option.bind_some, h3, fQ (by simp; omega)]
 rfl
def exP : bQ := ⟨4, 1, [⟨10, 1, false⟩, ⟨20, 2, false⟩, ⟨30, 1, false⟩], [5, 4]⟩
theorem aKs : pD exP = some [-1, 0, 1, 2] := by
 refine aUo (zs := [0, 1, 2]) (r := [0, 1, 2]) (by kernel_rfl) (of_decide_eq_true (by kernel_rfl)) ?_ (by decide)
 unfold kV
 refine List.mergeSort_of_pairwise ?_
 exact of_decide_eq_true (by kernel_rfl)
theorem aSl : tS exP = some (2, 0) := by
 unfold tS
 rw [aKs]
 kernel_rfl
theorem aVk : vD exP 1 = some ([10, -1, 30, 20], true) := by
 unfold vD
 rw [aKs]
 kernel_rfl
theorem aUn : tA exP = some ([10, -1, 30, 20], 0) := by
 unfold tA
 rw [aSl]
 have e : oH 2 exP.Lots (exP.Lots.length : Int) exP BIG 0 0 = tZ 2 9 exP := by kernel_rfl
 show oH 2 exP.Lots (exP.Lots.length : Int) exP BIG 0 0 = _
 rw [e]
 unfold tZ
 have e2 : (9 : Int).tmod 2 = 1 := by decide
 rw [e2, aVk]
 rfl
theorem aJx : gM = some true := by
 unfold gM
 unfold oQ
 rw [Option.bind_some]
 show (tA exP).bind _ = _
 rw [aUn]
 kernel_rfl
end Go.Am
end
