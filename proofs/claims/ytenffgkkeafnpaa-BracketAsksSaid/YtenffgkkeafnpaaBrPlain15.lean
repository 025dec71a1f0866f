/- Layer 7, plain: results that say that a player has won. -/
import Derived.Test.YtenffgkkeafnpaaBrPlain14
namespace Go.Am

section
variable {t : aO} {l : List aG} {d : List Int} (hg : Good t l d)
include hg
end
end Go.Am
