/- Layers 6, 7 and 1, plain: the examples. -/
import Derived.Test.YtiohgpipanopaaaGreatBbDet
import Derived.KernelRfl
namespace Go.Am
theorem aSn {p : aR} {zs r : List Int} (h1 : jA p = lE p zs) (h2 : aEd zs (fun y5 y6 => fH y5 y6 p) = true) (h3 : jD (fun y5 y6 => fH y5 y6 p) zs = r) (h4 : zs.length ≤ 8) : jA p = some (-1 :: r) := by
 have hl : r.length ≤ 8 := by rw [← h3, jD, (List.mergeSort_perm _ _).length_eq]; exact h4
 rw [h1, lE, nD, aIa, if_pos ⟨h2, by omega⟩, Option.bind_some, h3, eB (by simp; omega)]
 rfl
def exP : aR := ⟨4, 1, [⟨10, 1, false⟩, ⟨20, 2, false⟩, ⟨30, 1, false⟩], [5, 4]⟩
theorem aJa : jA exP = some [-1, 0, 1, 2] := by
 refine aSn (zs := [0, 1, 2]) (r := [0, 1, 2]) (by kernel_rfl) (of_decide_eq_true (by kernel_rfl)) ?_ (by decide)
 unfold jD
 refine List.mergeSort_of_pairwise ?_
 exact of_decide_eq_true (by kernel_rfl)
theorem aQi : oC exP = some (2, 0) := by
 unfold oC
 rw [aJa]
 kernel_rfl
theorem aTj : pU exP 1 = some ([10, -1, 30, 20], true) := by
 unfold pU
 rw [aJa]
 kernel_rfl
theorem aSm : lI exP = some ([10, -1, 30, 20], 0) := by
 unfold lI
 rw [aQi]
 have e : iO 2 exP.Lots (exP.Lots.length : Int) exP BIG 0 0 = mD 2 9 exP := by kernel_rfl
 show iO 2 exP.Lots (exP.Lots.length : Int) exP BIG 0 0 = _
 rw [e]
 unfold mD
 have e2 : (9 : Int).tmod 2 = 1 := by decide
 rw [e2, aTj]
 rfl
theorem aIf : eX = some true := by
 unfold eX
 unfold nN
 rw [Option.bind_some]
 show (lI exP).bind _ = _
 rw [aSm]
 kernel_rfl
end Go.Am
