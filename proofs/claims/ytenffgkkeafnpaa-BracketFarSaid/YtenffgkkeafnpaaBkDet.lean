/- What the program's functions come to: what the reference's do. -/
import Derived.Test.YtenffgkkeafnpaaBkPlain2
namespace Go.Am
theorem xZ (a0 : aO) (a1 : List aD) {r} (h : pU a0 a1 = some r) (Q : List bZ × Int → Prop) (hq : Q r) : mY a0 a1 Q := aHa a0 a1 h Q hq
theorem yA (a0 : aO) (a1 : List aD) {r} (h : nP a0 a1 = some r) (Q : Int → Prop) (hq : Q r) : mZ a0 a1 Q := aHb a0 a1 h Q hq
theorem zQ (a0 : aO) (a1 : List aD) (a2 a3 : Int) {r} (h : nB a0 a1 a2 a3 = some r) (Q : List Int × Int → Prop) (hq : Q r) : oS a0 a1 a2 a3 Q := aKn a0 a1 a2 a3 h Q hq
theorem yN (a0 : aO) (a1 : List aD) {r} (h : qQ a0 a1 = some r) (Q : Int × Int → Prop) (hq : Q r) : nV a0 a1 Q := aIp a0 a1 h Q hq
theorem wA (a0 : aO) (a1 : List aD) (a2 : Int) {r} (h : mA a0 a1 a2 = some r) (Q : cZ × Int → Prop) (hq : Q r) : lN a0 a1 a2 Q := aEf a0 a1 a2 h Q hq
end Go.Am
