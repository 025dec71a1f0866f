/- The theorem of the messages, plainly. -/
import Derived.Test.YtfdappeickbpeaaGreatEnWorks
namespace Go.Am
theorem aYq (l : List aO) : qN l = some ((decide (20 < (l.length : Int)) && decide ((l.length : Int) ≤ 60)) || decide (100 < (l.length : Int))) := by
 unfold qN
 rw [kZ, Option.bind_some, oP, Option.bind_some]
end Go.Am
