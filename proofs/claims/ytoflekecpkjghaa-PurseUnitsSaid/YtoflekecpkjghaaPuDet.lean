/- Plain laws, one behind the other. -/
import Derived.Test.YtoflekecpkjghaaBkPlain2
import Derived.Test.YtoflekecpkjghaaPuSh
section
namespace Go.Am
theorem aHc (a0 : aU) (a1 : List aF) {r} (h : sS a0 a1 = some r) (Q : Int → Prop) (hq : Q r) : rX a0 a1 Q := aSb a0 a1 h Q hq
theorem aEi (a0 : aU) (a1 : List aF) (a2 : Int) {r} (h : qN a0 a1 a2 = some r) (Q : cG × Int → Prop) (hq : Q r) : pJ a0 a1 a2 Q := aOz a0 a1 a2 h Q hq
end Go.Am

end
section
namespace Go.Am
end Go.Am

end
