/- What the program's functions come to: what the reference's do; Ready too. -/
import Derived.Test.YtenffgkkeafnpaaBkDet
import Derived.Test.YtenffgkkeafnpaaBbPlain1
namespace Go.Am
theorem xX (a0 : aN) (a1 : List aE) {r} (h : qC a0 a1 = some r) (Q : List bD × Int → Prop) (hq : Q r) : nH a0 a1 Q := aHl a0 a1 h Q hq
end Go.Am
