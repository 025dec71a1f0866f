/- What the program's functions come to: what the reference's do. -/
import Derived.Test.YtenffgkkeafnpaaBkPlain2
namespace Go.Am
theorem yX (a0 : aO) (a1 : List aE) {r} (h : mM a0 a1 = some r) (Q : List cF × Int → Prop) (hq : Q r) : oB a0 a1 Q := aIh a0 a1 h Q hq
theorem yY (a0 : aO) (a1 : List aE) {r} (h : oQ a0 a1 = some r) (Q : Int → Prop) (hq : Q r) : oC a0 a1 Q := aIi a0 a1 h Q hq
theorem aAy (a0 : aO) (a1 : List aE) (a2 a3 : Int) {r} (h : sP a0 a1 a2 a3 = some r) (Q : List Int × Int → Prop) (hq : Q r) : pQ a0 a1 a2 a3 Q := aLw a0 a1 a2 a3 h Q hq
theorem zN (a0 : aO) (a1 : List aE) {r} (h : rN a0 a1 = some r) (Q : Int × Int → Prop) (hq : Q r) : oW a0 a1 Q := aJx a0 a1 h Q hq
theorem wX (a0 : aO) (a1 : List aE) (a2 : Int) {r} (h : pM a0 a1 a2 = some r) (Q : dR × Int → Prop) (hq : Q r) : mK a0 a1 a2 Q := aFk a0 a1 a2 h Q hq
theorem zO (a0 : aO) (a1 : List aE) (a2 a3 : Int) {r} (h : pK a0 a1 a2 a3 = some r) (Q : Int × Int → Prop) (hq : Q r) : oX a0 a1 a2 a3 Q := aKa a0 a1 a2 a3 h Q hq
end Go.Am
