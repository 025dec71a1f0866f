/- What the program's functions come to: what the reference's do. -/
import Derived.Test.YtenffgkkeafnpaaBkPlain2
namespace Go.Am
theorem yL (a0 : aO) (a1 : List aG) {r} (h : qQ a0 a1 = some r) (Q : List cE × Int → Prop) (hq : Q r) : nR a0 a1 Q := aHs a0 a1 h Q hq
theorem wX (a0 : aO) (a1 : List aG) (a2 a3 : Int) {r} (h : pU a0 a1 a2 a3 = some r) (Q : Int × Int → Prop) (hq : Q r) : mO a0 a1 a2 a3 Q := aGl a0 a1 a2 a3 h Q hq
theorem aAg (a0 : aO) (a1 : List aG) (a2 a3 : Int) {r} (h : pN a0 a1 a2 a3 = some r) (Q : List Int × Int → Prop) (hq : Q r) : pK a0 a1 a2 a3 Q := aLd a0 a1 a2 a3 h Q hq
theorem zC (a0 : aO) (a1 : List aG) {r} (h : rJ a0 a1 = some r) (Q : Int × Int → Prop) (hq : Q r) : oJ a0 a1 Q := aJk a0 a1 h Q hq
theorem wN (a0 : aO) (a1 : List aG) (a2 : Int) {r} (h : mM a0 a1 a2 = some r) (Q : cR × Int → Prop) (hq : Q r) : lV a0 a1 a2 Q := aEy a0 a1 a2 h Q hq
theorem zD (a0 : aO) (a1 : List aG) (a2 a3 : Int) {r} (h : rK a0 a1 a2 a3 = some r) (Q : Int × Int → Prop) (hq : Q r) : oK a0 a1 a2 a3 Q := aJm a0 a1 a2 a3 h Q hq
end Go.Am
