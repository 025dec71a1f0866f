/- What the program's Bouts, Winner and Check come to: what the reference's do. -/
import Derived.Test.YtikcmpflkibomaaJobsSh
import Derived.Test.YtikcmpflkibomaaBrPlain11
namespace Go.Am
theorem aCc (a0 : bD) (a1 : List aK) {r} (h : nG a0 a1 = some r) (Q : List bK × Int → Prop) (hq : Q r) : pC a0 a1 Q := aKx a0 a1 h Q hq
theorem aAd (a0 : bD) (a1 : List aK) (a2 a3 : Int) {r} (h : oW a0 a1 a2 a3 = some r) (Q : Int × Int → Prop) (hq : Q r) : oD a0 a1 a2 a3 Q := aJy a0 a1 a2 a3 h Q hq
end Go.Am
