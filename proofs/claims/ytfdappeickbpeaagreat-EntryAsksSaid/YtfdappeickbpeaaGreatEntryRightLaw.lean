/- The theorem of the list, plainly. -/
import Derived.Test.YtfdappeickbpeaaGreatEntryPlacesLaw
namespace Go.Am
end Go.Am
