/- Layer 7, plain: what all laws of the bracket need. -/
import Derived.Test.YtenffgkkeafnpaaBkPlain2
import Derived.KernelRfl
namespace Go.Am
theorem rP : jS = some true := by kernel_rfl
def aDp (t : aO) (l : List aE) : Bool := decide (100 < t.Slots.length) || decide (100 < l.length)
theorem aMb (t : aO) (l : List aE) : mK t l = some (aDp t l) := by
  have e1 : decide (100 < (t.Slots.length : Int)) = decide (100 < t.Slots.length) := by rw [Bool.eq_iff_iff]; simp only [decide_eq_true_eq]; omega
  have e2 : decide (100 < (l.length : Int)) = decide (100 < l.length) := by rw [Bool.eq_iff_iff]; simp only [decide_eq_true_eq]; omega
  unfold mK aDp
  rw [e1, e2, rH, Option.bind_some]
end Go.Am
