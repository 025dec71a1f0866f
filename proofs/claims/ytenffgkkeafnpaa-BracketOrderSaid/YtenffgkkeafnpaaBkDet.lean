/- What the program's functions come to: what the reference's do. -/
import Derived.Test.YtenffgkkeafnpaaBkPlain2
namespace Go.Am
theorem yD (a0 : aP) (a1 : List aE) {r} (h : lY a0 a1 = some r) (Q : List bP × Int → Prop) (hq : Q r) : nH a0 a1 Q := aHj a0 a1 h Q hq
theorem wP (a0 : aP) (a1 : List aE) (a2 a3 : Int) {r} (h : iE a0 a1 a2 a3 = some r) (Q : Int × Int → Prop) (hq : Q r) : mL a0 a1 a2 a3 Q := aGb a0 a1 a2 a3 h Q hq
theorem zO (a0 : aP) (a1 : List aE) (a2 a3 : Int) {r} (h : sC a0 a1 a2 a3 = some r) (Q : List Int × Int → Prop) (hq : Q r) : oX a0 a1 a2 a3 Q := aKv a0 a1 a2 a3 h Q hq
theorem yS (a0 : aP) (a1 : List aE) {r} (h : qZ a0 a1 = some r) (Q : Int × Int → Prop) (hq : Q r) : oA a0 a1 Q := aIy a0 a1 h Q hq
theorem wI (a0 : aP) (a1 : List aE) (a2 : Int) {r} (h : oU a0 a1 a2 = some r) (Q : dP × Int → Prop) (hq : Q r) : lW a0 a1 a2 Q := aEp a0 a1 a2 h Q hq
end Go.Am
