/- Plain laws, one behind the other. -/
import Derived.Test.YtoflekecpkjghaaBkPlain2
import Derived.Test.YtoflekecpkjghaaPuSh
section
namespace Go.Am
theorem aHe (a0 : aT) (a1 : List aF) {r} (h : tC a0 a1 = some r) (Q : Int → Prop) (hq : Q r) : sF a0 a1 Q := aSi a0 a1 h Q hq
theorem aEl (a0 : aT) (a1 : List aF) (a2 : Int) {r} (h : qU a0 a1 a2 = some r) (Q : cF × Int → Prop) (hq : Q r) : pO a0 a1 a2 Q := aPk a0 a1 a2 h Q hq
end Go.Am

end
section
namespace Go.Am
end Go.Am

end
