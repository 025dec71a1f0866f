/- The program logic 'Am': families of growable slices (slices of slices that the call owns). -/
import Derived.Test.YtiohgpipanopaaaGreatAmFull
namespace Go.Am
section
variable {env : Nat → AV} {objs : List MO} {i e k j : Nat} {vs : List Value} {rss : List (List (List D))} {v : Value} {rows : List (List D)}
end
section
variable {P : Program} {n d : Nat} {st : St} {o : Oper} {f e k j : Nat} {vs : List Value} {rss : List (List (List D))} {v : Value} {rows rows' : List (List D)}
end
end Go.Am
