/- Layers 6, 7 and 1, plain: the examples. -/
import Derived.Test.YtiohgpipanopaaaGreatBbDet
import Derived.KernelRfl
namespace Go.Am
theorem bDa {p : bA} {zs r : List Int} (h1 : mL p = oH p zs) (h2 : aMh zs (fun y5 y6 => iK y5 y6 p) = true) (h3 : lK (fun y5 y6 => iK y5 y6 p) zs = r) (h4 : zs.length ≤ 8) : mL p = some (-1 :: r) := by
 have hl : r.length ≤ 8 := by rw [← h3, lK, (List.mergeSort_perm _ _).length_eq]; exact h4
 rw [h1, oH, rW, aQu, if_pos ⟨h2, by omega⟩, Option.bind_some, h3, eN (by simp; omega)]
 rfl
def exP : bA := ⟨4, 1, [⟨10, 1, false⟩, ⟨20, 2, false⟩, ⟨30, 1, false⟩], [5, 4]⟩
theorem bAq : mL exP = some [-1, 0, 1, 2] := by
 refine bDa (zs := [0, 1, 2]) (r := [0, 1, 2]) (by kernel_rfl) (of_decide_eq_true (by kernel_rfl)) ?_ (by decide)
 unfold lK
 refine List.mergeSort_of_pairwise ?_
 exact of_decide_eq_true (by kernel_rfl)
theorem bDr : sO exP 1 = some ([10, -1, 30, 20], true) := by
 unfold sO
 rw [bAq]
 kernel_rfl
end Go.Am
