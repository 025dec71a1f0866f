/- Layer 7, plain: all that is known of all matches. -/
import Derived.Test.YtenffgkkeafnpaaBkPlain4
namespace Go.Am

end Go.Am
