/- List and Stand are those of the document, plainly. -/
import Derived.Test.YtfdappeickbpeaaGreatEnPlain29
namespace Go.Am
end Go.Am
