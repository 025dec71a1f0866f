/- The theorem of the places, plainly. -/
import Derived.Test.YtfdappeickbpeaaGreatEnPlain23
import Derived.Test.YtfdappeickbpeaaGreatEntryStaysLaw
namespace Go.Am
end Go.Am
