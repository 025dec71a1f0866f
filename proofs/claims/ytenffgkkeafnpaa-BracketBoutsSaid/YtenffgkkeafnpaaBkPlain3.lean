/- Layer 7, plain: what all laws of the bracket need. -/
import Derived.Test.YtenffgkkeafnpaaBkPlain2
import Derived.KernelRfl
namespace Go.Am
theorem yL : kY = some true := by kernel_rfl
theorem aBl (l : List Int) (h : l.length ≤ 9223372036854775807) : iE l l = some true := by
  unfold iE
  have main := pO (fun k i => eX l l k i) l.length (fun _ => true) (some false) (some true) ?_ ?_ BIG (cX h)
  · rw [main, show (List.range l.length).all (fun _ => true) = true by simp]
    simp
  · intro k i hi
    simp [eX, hi, cL hi, cJ (show i < 9223372036854775807 by omega)]
  · intro k
    simp [eX, lV]
def aDm (t : aN) (l : List aE) : Bool := decide (100 < t.Slots.length) || decide (100 < l.length)
theorem aLp (t : aN) (l : List aE) : mG t l = some (aDm t l) := by
  have e1 : decide (100 < (t.Slots.length : Int)) = decide (100 < t.Slots.length) := by rw [Bool.eq_iff_iff]; simp only [decide_eq_true_eq]; omega
  have e2 : decide (100 < (l.length : Int)) = decide (100 < l.length) := by rw [Bool.eq_iff_iff]; simp only [decide_eq_true_eq]; omega
  unfold mG aDm
  rw [e1, e2, uL, Option.bind_some]
theorem aLx {t : aN} {l : List aE} (h : aDm t l = false) : t.Slots.length ≤ 100 ∧ l.length ≤ 100 := by
  simp only [aDm, Bool.or_eq_false_iff, decide_eq_false_iff_not] at h
  omega
end Go.Am
