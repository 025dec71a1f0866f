/- The plain law RankReach. -/
import Derived.Test.YtaocljlhapoieaaRkPlain27
import Derived.Test.YtaocljlhapoieaaRkWorks
namespace Go.Am

end Go.Am
