/- The theorem of the places, plainly. -/
import Derived.Test.YtfdappeickbpeaaGreatEnPlain23
import Derived.Test.YtfdappeickbpeaaGreatEntryStaysLaw
namespace Go.Am

theorem aMi (l : aI) (n : Int) (t : List Int) : gd l (n :: t) = (if (pl l n).guard then 1 else 0) + gd l t := by
  unfold gd
  rw [List.filter_cons]
  cases (pl l n).guard <;> simp <;> omega
end Go.Am
