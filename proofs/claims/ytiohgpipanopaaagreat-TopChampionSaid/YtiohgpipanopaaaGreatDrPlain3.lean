/- Plain laws, one behind the other. -/
import Derived.Test.YtiohgpipanopaaaGreatBbDet
section
namespace Go.Am
def aOj (p : bQ) : Bool :=
 (decide (p.Size = 4) || decide (p.Size = 8)) && (wi p.Persons.length 2 p.Size && (wi p.Seeds 0 (min p.Persons.length (p.Size / 2)) && (!decide (p.Size / 2 < p.Size - p.Persons.length) && !decide (10 < (p.Lots.length : Int)))))
def pp (p : bQ) (i : Nat) : bC := p.Persons.getD i default
def aZc (p : bQ) (i : Nat) : Bool :=
 (wi (pp p i).Player 0 999 && wi (pp p i).Nation 0 9 && !(decide ((i : Int) < p.Seeds) && (pp p i).Qualified)) && !((p.Persons.take i).any fun y => decide (y.Player = (pp p i).Player))
def aJg (p : bQ) : Bool := aOj p && ((List.range p.Persons.length).all (aZc p) && p.Lots.all fun n => wi n 0 999999)
theorem aYk {p : bQ} {i : Nat} (h : i < p.Persons.length) : pp p i = p.Persons[i] := by simp [pp, h]
end Go.Am
end
section
namespace Go.Am
end Go.Am
end
section
namespace Go.Am
theorem bM {α β : Type} {A : Option α} {x : α} (h : A = some x) (f : α → Option β) : A.bind f = f x := by subst h; rfl
end Go.Am
end
