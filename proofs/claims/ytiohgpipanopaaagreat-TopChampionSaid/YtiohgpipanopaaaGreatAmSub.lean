/- The program logic 'Am': parts of slices of the call's own: 's[i:]', 'clear(s[i:])', 's[:i]'. -/
import Derived.Test.YtiohgpipanopaaaGreatAmFull
namespace Go.Am
section
variable {P : Program} {n d : Nat} {st : St} {o : Oper}
end
section
variable {P : Program} {n d : Nat} {st : St} {o : Oper}
end
end Go.Am
