/- The list of a week. -/
import Derived.Test.YtaocljlhapoieaaGreatRzPlain11
namespace Go.Am

def ltL (x y : bJ) : Prop := y.points < x.points ∨ (x.points = y.points ∧ (y.musts < x.musts ∨ (x.musts = y.musts ∧ (x.many < y.many ∨ (x.many = y.many ∧ x.player < y.player)))))
/-- A player's line. -/
def aGs (l : aS) (z : List aD) (w p : Int) : bJ := ⟨p, aAc l z p w, oR (jD l z p w), ((jD l z p w).length : Nat)⟩
def aHn (l : aS) (z : List aD) (w p : Int) : Bool := !lT l.Bans p w && !decide ((jD l z p w).length = 0)
/-- One player stands before another. -/
def bef (l : aS) (z : List aD) (w : Int) (a b : Int) : Prop := ltL (aGs l z w a) (aGs l z w b)
theorem aGy (l : aS) (z : List aD) (w a : Int) : ¬ bef l z w a a := by unfold bef ltL; omega
/-- A list of players that is as the document says. -/
structure IsList (l : aS) (z : List aD) (w : Int) (out : List Int) : Prop where
  st : out.Pairwise (bef l z w)
  mem : ∀ p, p ∈ out ↔ (0 ≤ p ∧ p < l.Players) ∧ aHn l z w p = true
section list
variable {l : aS} {z : List aD} (hl : uN l = true) (hz : ∀ x ∈ z, uV l.Players x = true) (hst : z.Pairwise fun x y => x.Id < y.Id) (hlen : z.length ≤ 1000) {w : Int} (hw : 0 ≤ w) (hw1 : w ≤ 1000)
include hl hz hlen hw hw1
include hst
end list
end Go.Am
