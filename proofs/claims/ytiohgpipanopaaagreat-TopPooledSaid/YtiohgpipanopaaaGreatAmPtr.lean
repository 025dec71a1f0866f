/- A box that holds a frozen pointer: the pointer's value has a name, and what it points to is held beside. -/
import Derived.Test.YtiohgpipanopaaaGreatAmSort
namespace Go.Am
section
variable {P : Program} {n d : Nat} {st : St} {Q : Exit → St → Prop}
end
end Go.Am
