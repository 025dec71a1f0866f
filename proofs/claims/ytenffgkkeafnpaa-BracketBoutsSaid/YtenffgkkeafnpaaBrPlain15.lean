/- Layer 7, plain: results that say that a player has won. -/
import Derived.Test.YtenffgkkeafnpaaBrPlain14
namespace Go.Am

section
variable {t : aN} {l : List aE} {d : List Int} (hg : Good t l d)
include hg
end
end Go.Am
