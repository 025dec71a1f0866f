/- What the program's functions come to: what the reference's do. -/
import Derived.Test.YtenffgkkeafnpaaBkPlain2
namespace Go.Am
theorem yN (a0 : aO) (a1 : List aE) {r} (h : lU a0 a1 = some r) (Q : List bO × Int → Prop) (hq : Q r) : nH a0 a1 Q := aHu a0 a1 h Q hq
theorem wU (a0 : aO) (a1 : List aE) (a2 a3 : Int) {r} (h : mZ a0 a1 a2 a3 = some r) (Q : Int × Int → Prop) (hq : Q r) : mJ a0 a1 a2 a3 Q := aGj a0 a1 a2 a3 h Q hq
theorem aAa (a0 : aO) (a1 : List aE) (a2 a3 : Int) {r} (h : sI a0 a1 a2 a3 = some r) (Q : List Int × Int → Prop) (hq : Q r) : pA a0 a1 a2 a3 Q := aLc a0 a1 a2 a3 h Q hq
theorem zD (a0 : aO) (a1 : List aE) {r} (h : rB a0 a1 = some r) (Q : Int × Int → Prop) (hq : Q r) : oB a0 a1 Q := aJj a0 a1 h Q hq
theorem wO (a0 : aO) (a1 : List aE) (a2 : Int) {r} (h : iC a0 a1 a2 = some r) (Q : dN × Int → Prop) (hq : Q r) : lS a0 a1 a2 Q := aEu a0 a1 a2 h Q hq
end Go.Am
