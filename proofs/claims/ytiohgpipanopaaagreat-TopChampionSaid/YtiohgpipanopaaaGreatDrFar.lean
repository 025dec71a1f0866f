/- Layer 6, plain: the reference's list of draws comes to an end. -/
import Derived.Test.YtiohgpipanopaaaGreatDrPlain7
namespace Go.Am
section
variable {p : bQ} (hp : aJg p = true)
include hp
end
end Go.Am
