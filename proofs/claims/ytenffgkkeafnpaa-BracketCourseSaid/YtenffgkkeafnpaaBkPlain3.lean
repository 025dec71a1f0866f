/- Layer 7, plain: what all laws of the bracket need. -/
import Derived.Test.YtenffgkkeafnpaaBkPlain2
import Derived.KernelRfl
namespace Go.Am
theorem pR : kJ = some true := by kernel_rfl
theorem aKi {t : aT} {l : List aI} {d : List Int} (hg : Good t l d) (must : List (List Int)) (r p : Nat) : (fW (rD d must t r p)).length ≤ 32 := by
  rw [(pH _).length_eq]
  have := tZ d must t r p d.length
  have := hg.dok.len
  have := hg.ht.len32
  unfold rD
  omega
def aDx (t : aT) (l : List aI) : Bool := decide (100 < t.Slots.length) || decide (100 < l.length)
theorem aMe (t : aT) (l : List aI) : mY t l = some (aDx t l) := by
  have e1 : decide (100 < (t.Slots.length : Int)) = decide (100 < t.Slots.length) := by rw [Bool.eq_iff_iff]; simp only [decide_eq_true_eq]; omega
  have e2 : decide (100 < (l.length : Int)) = decide (100 < l.length) := by rw [Bool.eq_iff_iff]; simp only [decide_eq_true_eq]; omega
  unfold mY aDx
  rw [e1, e2, tO, Option.bind_some]
end Go.Am
