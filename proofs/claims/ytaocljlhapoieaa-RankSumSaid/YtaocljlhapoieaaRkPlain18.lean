/- One more ban; one more report. -/
import Derived.Test.YtaocljlhapoieaaRkPlain17
namespace Go.Am

section ban
variable {l : aR} {z : List aD} (ban : bD) (w : Int)
end ban

section add
variable {l : aR} {z : List aD} {r : aD} (w : Int)
end add
end Go.Am
