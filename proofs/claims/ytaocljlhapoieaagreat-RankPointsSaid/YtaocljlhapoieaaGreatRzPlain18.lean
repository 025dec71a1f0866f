/- One more ban; one more report. -/
import Derived.Test.YtaocljlhapoieaaGreatRzPlain17
namespace Go.Am

section ban
variable {l : aS} {z : List aD} (ban : bC) (w : Int)
end ban

section add
variable {l : aS} {z : List aD} {r : aD} (w : Int)
end add
end Go.Am
