/- What the program's functions come to: what the reference's do; Ready too. -/
import Derived.Test.YtenffgkkeafnpaaBkDet
import Derived.Test.YtenffgkkeafnpaaBbPlain1
namespace Go.Am
theorem yN (a0 : aO) (a1 : List aE) {r} (h : qC a0 a1 = some r) (Q : List bA × Int → Prop) (hq : Q r) : nK a0 a1 Q := aHs a0 a1 h Q hq
end Go.Am
