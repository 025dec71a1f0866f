/- The theorem of the place that is kept, plainly. -/
import Derived.Test.YtfdappeickbpeaaGreatEnPlain14
namespace Go.Am
end Go.Am
