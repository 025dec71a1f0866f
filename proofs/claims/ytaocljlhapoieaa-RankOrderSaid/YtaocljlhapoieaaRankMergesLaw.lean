/- The plain law RankMerges. -/
import Derived.Test.YtaocljlhapoieaaRkWorks
namespace Go.Am

end Go.Am
