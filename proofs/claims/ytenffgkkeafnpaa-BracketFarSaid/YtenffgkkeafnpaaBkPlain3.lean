/- Layer 7, plain: what all laws of the bracket need. -/
import Derived.Test.YtenffgkkeafnpaaBkPlain2
import Derived.KernelRfl
namespace Go.Am
theorem oW : gO = some true := by kernel_rfl
theorem aJm {t : aO} {l : List aD} {d : List Int} (hg : Good t l d) (must : List (List Int)) (r p : Nat) : (fT (qX d must t r p)).length ≤ 32 := by
  rw [(oN _).length_eq]
  have := tC d must t r p d.length
  have := hg.dok.len
  have := hg.ht.len32
  unfold qX
  omega
def aCx (t : aO) (l : List aD) : Bool := decide (100 < t.Slots.length) || decide (100 < l.length)
theorem aLn (t : aO) (l : List aD) : mD t l = some (aCx t l) := by
  have e1 : decide (100 < (t.Slots.length : Int)) = decide (100 < t.Slots.length) := by rw [Bool.eq_iff_iff]; simp only [decide_eq_true_eq]; omega
  have e2 : decide (100 < (l.length : Int)) = decide (100 < l.length) := by rw [Bool.eq_iff_iff]; simp only [decide_eq_true_eq]; omega
  unfold mD aCx
  rw [e1, e2, nG, Option.bind_some]
end Go.Am
