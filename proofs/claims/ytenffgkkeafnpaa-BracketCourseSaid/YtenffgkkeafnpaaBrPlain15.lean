/- Layer 7, plain: results that say that a player has won. -/
import Derived.Test.YtenffgkkeafnpaaBrPlain14
namespace Go.Am

theorem aLc {t : aT} (ht : TreeOK t) {r p : Nat} (hr : r < t.Rounds.toNat) (hp : p < bZ t r) : gB t r p = true := by
  have h1 := ht.r1
  simp only [gB, Bool.and_eq_true, jF]
  omega
section
variable {t : aT} {l : List aI} {d : List Int} (hg : Good t l d)
include hg
end
end Go.Am
