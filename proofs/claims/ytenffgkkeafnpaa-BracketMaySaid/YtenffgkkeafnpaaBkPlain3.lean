/- Layer 7, plain: what all laws of the bracket need. -/
import Derived.Test.YtenffgkkeafnpaaBkPlain2
import Derived.KernelRfl
namespace Go.Am
theorem kO : jG = some true := by kernel_rfl
theorem aIk {t : aO} {l : List aD} {d : List Int} (hg : Good t l d) (must : List (List Int)) (r p : Nat) : (eZ (mY d must t r p)).length ≤ 32 := by
  rw [(mL _).length_eq]
  have := sK d must t r p d.length
  have := hg.dok.len
  have := hg.ht.len32
  unfold mY
  omega
def aCc (t : aO) (l : List aD) : Bool := decide (100 < t.Slots.length) || decide (100 < l.length)
theorem aKh (t : aO) (l : List aD) : lS t l = some (aCc t l) := by
  have e1 : decide (100 < (t.Slots.length : Int)) = decide (100 < t.Slots.length) := by rw [Bool.eq_iff_iff]; simp only [decide_eq_true_eq]; omega
  have e2 : decide (100 < (l.length : Int)) = decide (100 < l.length) := by rw [Bool.eq_iff_iff]; simp only [decide_eq_true_eq]; omega
  unfold lS aCc
  rw [e1, e2, pA, Option.bind_some]
end Go.Am
