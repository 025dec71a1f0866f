/- Layer 7, plain: what all laws of the bracket need. -/
import Derived.Test.YtenffgkkeafnpaaBkPlain2
import Derived.KernelRfl
namespace Go.Am
theorem nN : gV = some true := by kernel_rfl
def aDk (t : aO) (l : List aE) : Bool := decide (100 < t.Slots.length) || decide (100 < l.length)
theorem aMa (t : aO) (l : List aE) : mL t l = some (aDk t l) := by
  have e1 : decide (100 < (t.Slots.length : Int)) = decide (100 < t.Slots.length) := by rw [Bool.eq_iff_iff]; simp only [decide_eq_true_eq]; omega
  have e2 : decide (100 < (l.length : Int)) = decide (100 < l.length) := by rw [Bool.eq_iff_iff]; simp only [decide_eq_true_eq]; omega
  unfold mL aDk
  rw [e1, e2, mP, Option.bind_some]
end Go.Am
