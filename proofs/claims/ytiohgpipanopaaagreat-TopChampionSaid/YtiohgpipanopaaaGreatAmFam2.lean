/- The program logic 'Am': families of growable slices, rules whose outcome is told by the family alone; results that the caller owns. -/
import Derived.Test.YtiohgpipanopaaaGreatAmFam
namespace Go.Am
section
variable {P : Program} {n d : Nat} {st : St} {o : Oper} {f e k j : Nat} {vs : List Value} {v : Value} {α : Type} {g : α → List D} {c c' : List (List α)} {row : List α}
end
end Go.Am
