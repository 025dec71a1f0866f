/- Plain laws, one behind the other. -/
import Derived.Test.YtiohgpipanopaaaGreatBkPlain2
import Derived.KernelRfl
import Derived.Test.YtiohgpipanopaaaGreatTlSh
section
namespace Go.Am
theorem aEl (a0 : aJ) (a1 : List aE) {r} (h : qS a0 a1 = some r) (Q : Int → Prop) (hq : Q r) : qC a0 a1 Q := aQb a0 a1 h Q hq
theorem aGs (a0 : aJ) (a1 : List aE) (a2 a3 : Int) {r} (h : wA a0 a1 a2 a3 = some r) (Q : List Int × Int → Prop) (hq : Q r) : sG a0 a1 a2 a3 Q := aUn a0 a1 a2 a3 h Q hq
theorem aCa (a0 : aJ) (a1 : List aE) (a2 : Int) {r} (h : oI a0 a1 a2 = some r) (Q : dK × Int → Prop) (hq : Q r) : nL a0 a1 a2 Q := aNc a0 a1 a2 h Q hq
theorem aFl (a0 : aJ) (a1 : List aE) (a2 a3 : Int) {r} (h : rQ a0 a1 a2 a3 = some r) (Q : Int × Int → Prop) (hq : Q r) : qY a0 a1 a2 a3 Q := aSe a0 a1 a2 a3 h Q hq
end Go.Am
end
section
namespace Go.Am
end Go.Am
end
section
namespace Go.Am
end Go.Am
end
section
namespace Go.Am
end Go.Am
end
section
namespace Go.Am
section
variable {t : aJ} {l : List aE} {d : List Int} (hg : Good t l d) {must : List (List Int)} (hM : MustIs t must (fF d (Res l)))
include hg hM
end
end Go.Am
end
section
namespace Go.Am
end Go.Am
end
