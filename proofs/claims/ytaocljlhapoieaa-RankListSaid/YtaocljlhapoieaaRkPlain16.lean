/- What is defended. -/
import Derived.Test.YtaocljlhapoieaaRkPlain15
namespace Go.Am

section del
end del

end Go.Am
