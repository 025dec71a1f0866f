/- Entry, plainly: the chapter's examples. -/
import Derived.Test.YtfdappeickbpeaaGreatEnPlain10
import Derived.KernelRfl
namespace Go.Am

def exF : aU := ((gZ).getD (⟨0, 0, 0, 0, 0⟩, [])).1
def exL : List aJ := ((gZ).getD (⟨0, 0, 0, 0, 0⟩, [])).2
theorem aKk : gZ = some (exF, exL) := by kernel_rfl
theorem yH : VL exF exL := nQ.1 (by kernel_rfl)
theorem aGb : exL.Pairwise fun x y => iE x < iE y := of_decide_eq_true (by kernel_rfl)
def exA (h : Int) : aK := aHi h (aDb h (kA exF) exL)
theorem uM (h : Int) : gH exF exL h = exA h := aFr yH aGb h
theorem aEj (h : Int) : ∃ j, j ≤ 60 ∧ jW exF (exA h) j := by
  rw [← uM]
  exact rK yH h
theorem wO (h : Int) : WF (exA h) := by
  obtain ⟨j, _, hg⟩ := aEj h
  exact hg.wf
theorem aIz : jY exF exL 12 = some (⟨[9, 8, 5], [7], [6, 4], 0⟩, 0) := by
  rw [wM yH (by rfl)]
  unfold oH
  rw [uM, aEl (wO 12), xV (wO 12)]
  kernel_rfl
theorem aCc (h p : Int) : rA (exA h) p = pO (rQ (exA h)) (exA h).wilds (wB (exA h)) p := by
  unfold rA
  rw [aEl (wO h), xV (wO h)]
theorem aGa : jS (exA 10) 4 = some 2 := by
  unfold jS
  rw [rO (wO 10), tA (wO 10)]
  kernel_rfl
theorem aHk : nY exF exL 10 4 = some (2, 0) := by
  obtain ⟨j, hj, hg⟩ := aEj 10
  unfold nY
  rw [aAa, nQ.2 yH, uM]
  simp only [decide_true, Bool.not_true, cond_false, show wi 10 0 9999 = true from rfl, show wi 4 0 999 = true from rfl, Bool.or_self, Option.bind_some]
  rw [aDh hg hj, aCc, aGa, show pO (rQ (exA 10)) (exA 10).wilds (wB (exA 10)) 4 = (3, 3) by kernel_rfl, show (exA 10).frozen = false by kernel_rfl]
  rfl
theorem aHj : uA exL = [1, 2, 3, 4, 5, 6, 11, 12, 15, 21, 22] := by
  have h : oM (exL.map fun x => x.Hour) = exL.map fun x => x.Hour := by
    have hs := List.pairwise_mergeSort (le := fun x y : Int => decide (x ≤ y)) (by intro a b c; simp only [decide_eq_true_eq]; omega) (by intro a b; simp only [Bool.or_eq_true, decide_eq_true_eq]; omega) (exL.map fun x => x.Hour)
    refine qF (R := fun x y : Int => x ≤ y) (List.mergeSort_perm _ _) (hs.imp fun {x y} h => by simpa using h) (of_decide_eq_true (by kernel_rfl)) fun a _ b _ h1 h2 => Int.le_antisymm h1 h2
  unfold uA
  rw [h]
  have : nF (exL.map fun x => x.Hour) = [1, 2, 3, 4, 5, 6, 11, 12, 15, 21, 22] := by kernel_rfl
  exact this
theorem aJa : nR exF exL 4 = some (15, 0) := by
  have hf : zT exF exL 4 = fun h => decide ((pO (rQ (exA h)) (exA h).wilds (wB (exA h)) 4).1 = 1) || decide ((pO (rQ (exA h)) (exA h).wilds (wB (exA h)) 4).1 = 2) := by
    funext h
    unfold zT
    rw [uM, aCc]
  rw [aIs yH (by rfl), hf, aHj]
  have : [1, 2, 3, 4, 5, 6, 11, 12, 15, 21, 22].find? (fun h => decide ((pO (rQ (exA h)) (exA h).wilds (wB (exA h)) 4).1 = 1) || decide ((pO (rQ (exA h)) (exA h).wilds (wB (exA h)) 4).1 = 2)) = some 15 := by kernel_rfl
  rw [this]
theorem wL : iR = some true := by
  unfold iR
  rw [aKk, Option.bind_some, aIz, Option.bind_some, aHk, Option.bind_some, aJa, Option.bind_some]
  kernel_rfl
end Go.Am
