/- Layer 7, plain: what all laws of the bracket need. -/
import Derived.Test.YtenffgkkeafnpaaBkPlain2
import Derived.KernelRfl
namespace Go.Am
theorem uL : fP = some true := by kernel_rfl
theorem aBh (l : List Int) (h : l.length ≤ 9223372036854775807) : dS l l = some true := by
  unfold dS
  have main := rF (fun k i => fO l l k i) l.length (fun _ => true) (some false) (some true) ?_ ?_ BIG (cX h)
  · rw [main, show (List.range l.length).all (fun _ => true) = true by simp]
    simp
  · intro k i hi
    simp [fO, hi, cL hi, cK (show i < 9223372036854775807 by omega)]
  · intro k
    simp [fO, mE]
def aDf (t : aP) (l : List aE) : Bool := decide (100 < t.Slots.length) || decide (100 < l.length)
theorem aLr (t : aP) (l : List aE) : mN t l = some (aDf t l) := by
  have e1 : decide (100 < (t.Slots.length : Int)) = decide (100 < t.Slots.length) := by rw [Bool.eq_iff_iff]; simp only [decide_eq_true_eq]; omega
  have e2 : decide (100 < (l.length : Int)) = decide (100 < l.length) := by rw [Bool.eq_iff_iff]; simp only [decide_eq_true_eq]; omega
  unfold mN aDf
  rw [e1, e2, rH, Option.bind_some]
end Go.Am
