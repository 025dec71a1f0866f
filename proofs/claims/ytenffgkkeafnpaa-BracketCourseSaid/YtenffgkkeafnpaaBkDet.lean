/- What the program's functions come to: what the reference's do. -/
import Derived.Test.YtenffgkkeafnpaaBkPlain2
namespace Go.Am
theorem zC (a0 : aT) (a1 : List aI) {r} (h : mF a0 a1 = some r) (Q : List bS × Int → Prop) (hq : Q r) : nT a0 a1 Q := aHz a0 a1 h Q hq
theorem xM (a0 : aT) (a1 : List aI) (a2 a3 : Int) {r} (h : nM a0 a1 a2 a3 = some r) (Q : Int × Int → Prop) (hq : Q r) : mW a0 a1 a2 a3 Q := aGq a0 a1 a2 a3 h Q hq
theorem aAr (a0 : aT) (a1 : List aI) (a2 a3 : Int) {r} (h : jV a0 a1 a2 a3 = some r) (Q : List Int × Int → Prop) (hq : Q r) : pM a0 a1 a2 a3 Q := aLi a0 a1 a2 a3 h Q hq
theorem zS (a0 : aT) (a1 : List aI) {r} (h : rU a0 a1 = some r) (Q : Int × Int → Prop) (hq : Q r) : oL a0 a1 Q := aJl a0 a1 h Q hq
theorem xC (a0 : aT) (a1 : List aI) (a2 : Int) {r} (h : lH a0 a1 a2 = some r) (Q : dP × Int → Prop) (hq : Q r) : mD a0 a1 a2 Q := aFf a0 a1 a2 h Q hq
end Go.Am
