/- Layer 7, plain: what all laws of the bracket need. -/
import Derived.Test.YtenffgkkeafnpaaBkPlain2
import Derived.KernelRfl
namespace Go.Am
theorem oI : gZ = some true := by kernel_rfl
def aEd (t : aO) (l : List aE) : Bool := decide (100 < t.Slots.length) || decide (100 < l.length)
theorem aMs (t : aO) (l : List aE) : nB t l = some (aEd t l) := by
  have e1 : decide (100 < (t.Slots.length : Int)) = decide (100 < t.Slots.length) := by rw [Bool.eq_iff_iff]; simp only [decide_eq_true_eq]; omega
  have e2 : decide (100 < (l.length : Int)) = decide (100 < l.length) := by rw [Bool.eq_iff_iff]; simp only [decide_eq_true_eq]; omega
  unfold nB aEd
  rw [e1, e2, lC, Option.bind_some]
end Go.Am
