/- One more ban; one more report. -/
import Derived.Test.YtaocljlhapoieaaRkPlain17
namespace Go.Am

section ban
variable {l : aM} {z : List aB} (ban : bA) (w : Int)
end ban

section add
variable {l : aM} {z : List aB} {r : aB} (w : Int)
end add
end Go.Am
