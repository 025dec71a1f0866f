/- What the program's functions come to: what the reference's do. -/
import Derived.Test.YtenffgkkeafnpaaBkPlain2
namespace Go.Am
theorem xT (a0 : aN) (a1 : List aE) {r} (h : nU a0 a1 = some r) (Q : List bD × Int → Prop) (hq : Q r) : nF a0 a1 Q := aHi a0 a1 h Q hq
theorem xU (a0 : aN) (a1 : List aE) {r} (h : qB a0 a1 = some r) (Q : Int → Prop) (hq : Q r) : nG a0 a1 Q := aHj a0 a1 h Q hq
theorem zR (a0 : aN) (a1 : List aE) (a2 a3 : Int) {r} (h : sD a0 a1 a2 a3 = some r) (Q : List Int × Int → Prop) (hq : Q r) : pA a0 a1 a2 a3 Q := aKv a0 a1 a2 a3 h Q hq
theorem yN (a0 : aN) (a1 : List aE) {r} (h : oU a0 a1 = some r) (Q : Int × Int → Prop) (hq : Q r) : oD a0 a1 Q := aJc a0 a1 h Q hq
theorem wA (a0 : aN) (a1 : List aE) (a2 : Int) {r} (h : oX a0 a1 a2 = some r) (Q : dL × Int → Prop) (hq : Q r) : lM a0 a1 a2 Q := aEt a0 a1 a2 h Q hq
end Go.Am
