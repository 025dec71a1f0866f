/- The plain law TopDrawn. -/
import Derived.Test.YtiohgpipanopaaaGreatDrWorks
import Derived.Test.YtiohgpipanopaaaGreatDrFar
namespace Go.Am
theorem aMs : (gM.bind fun r => some r) = some true := by rw [aJx]; rfl
section
variable {p : bQ} (hp : aJg p = true) {l : List Int} (hl : aSc p l)
include hp hl
end
end Go.Am
