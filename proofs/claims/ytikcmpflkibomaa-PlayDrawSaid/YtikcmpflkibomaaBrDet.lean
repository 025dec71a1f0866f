/- What the program's Bouts, Winner and Check come to: what the reference's do. -/
import Derived.Test.YtikcmpflkibomaaJobsSh
import Derived.Test.YtikcmpflkibomaaBrPlain11
namespace Go.Am
theorem aAm (a0 : aV) (a1 : List aJ) {r} (h : mB a0 a1 = some r) (Q : List bN × Int → Prop) (hq : Q r) : nP a0 a1 Q := aIy a0 a1 h Q hq
theorem yQ (a0 : aV) (a1 : List aJ) (a2 a3 : Int) {r} (h : jX a0 a1 a2 a3 = some r) (Q : Int × Int → Prop) (hq : Q r) : mX a0 a1 a2 a3 Q := aHy a0 a1 a2 a3 h Q hq
theorem aAn (a0 : aV) (a1 : List aJ) {r} (h : oC a0 a1 = some r) (Q : Int → Prop) (hq : Q r) : nQ a0 a1 Q := aIz a0 a1 h Q hq
end Go.Am
