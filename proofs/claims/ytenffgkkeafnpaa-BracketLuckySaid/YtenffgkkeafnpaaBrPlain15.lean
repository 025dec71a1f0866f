/- Layer 7, plain: results that say that a player has won. -/
import Derived.Test.YtenffgkkeafnpaaBrPlain14
namespace Go.Am

theorem aMu {t : aO} (ht : TreeOK t) {r p : Nat} (hr : r < t.Rounds.toNat) (hp : p < cF t r) : fU t r p = true := by
  have h1 := ht.r1
  simp only [fU, Bool.and_eq_true, gC]
  omega
section
variable {t : aO} {l : List aE} {d : List Int} (hg : Good t l d)
include hg
end
end Go.Am
