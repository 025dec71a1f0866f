/- What the program's functions come to: what the reference's do. -/
import Derived.Test.YtenffgkkeafnpaaBkPlain2
namespace Go.Am
theorem yK (a0 : aO) (a1 : List aE) {r} (h : lU a0 a1 = some r) (Q : List bA × Int → Prop) (hq : Q r) : nJ a0 a1 Q := aHq a0 a1 h Q hq
theorem wT (a0 : aO) (a1 : List aE) (a2 a3 : Int) {r} (h : nA a0 a1 a2 a3 = some r) (Q : Int × Int → Prop) (hq : Q r) : mH a0 a1 a2 a3 Q := aGj a0 a1 a2 a3 h Q hq
theorem aAd (a0 : aO) (a1 : List aE) (a2 a3 : Int) {r} (h : sM a0 a1 a2 a3 = some r) (Q : List Int × Int → Prop) (hq : Q r) : pB a0 a1 a2 a3 Q := aLf a0 a1 a2 a3 h Q hq
theorem zB (a0 : aO) (a1 : List aE) {r} (h : lA a0 a1 = some r) (Q : Int × Int → Prop) (hq : Q r) : oD a0 a1 Q := aJk a0 a1 h Q hq
theorem wM (a0 : aO) (a1 : List aE) (a2 : Int) {r} (h : oY a0 a1 a2 = some r) (Q : dN × Int → Prop) (hq : Q r) : lS a0 a1 a2 Q := aEz a0 a1 a2 h Q hq
end Go.Am
