/- What the program's functions come to: what the reference's do. -/
import Derived.Test.YtenffgkkeafnpaaBkPlain2
namespace Go.Am
theorem xD (a0 : aO) (a1 : List aD) {r} (h : pH a0 a1 = some r) (Q : List bY × Int → Prop) (hq : Q r) : mM a0 a1 Q := aGc a0 a1 h Q hq
theorem xE (a0 : aO) (a1 : List aD) {r} (h : nB a0 a1 = some r) (Q : Int → Prop) (hq : Q r) : mN a0 a1 Q := aGd a0 a1 h Q hq
theorem yS (a0 : aO) (a1 : List aD) (a2 a3 : Int) {r} (h : mP a0 a1 a2 a3 = some r) (Q : List Int × Int → Prop) (hq : Q r) : oF a0 a1 a2 a3 Q := aJj a0 a1 a2 a3 h Q hq
theorem xT (a0 : aO) (a1 : List aD) {r} (h : qE a0 a1 = some r) (Q : Int × Int → Prop) (hq : Q r) : nI a0 a1 Q := aHp a0 a1 h Q hq
theorem vK (a0 : aO) (a1 : List aD) (a2 : Int) {r} (h : oD a0 a1 a2 = some r) (Q : dH × Int → Prop) (hq : Q r) : lC a0 a1 a2 Q := aDk a0 a1 a2 h Q hq
end Go.Am
