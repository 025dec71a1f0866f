/- Plain laws, one behind the other. -/
import Derived.Test.YtoflekecpkjghaaBkPlain2
import Derived.Test.YtoflekecpkjghaaPuSh
section
namespace Go.Am
theorem aHs (a0 : aR) (a1 : List aF) {r} (h : tB a0 a1 = some r) (Q : Int → Prop) (hq : Q r) : sG a0 a1 Q := aSy a0 a1 h Q hq
theorem aFa (a0 : aR) (a1 : List aF) (a2 : Int) {r} (h : qX a0 a1 a2 = some r) (Q : cG × Int → Prop) (hq : Q r) : pS a0 a1 a2 Q := aPu a0 a1 a2 h Q hq
end Go.Am

end
section
namespace Go.Am
end Go.Am

end
