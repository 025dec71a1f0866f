/- The library's sort of whole numbers, as a function that changes its slice. -/
import Derived.Test.YtaocljlhapoieaaAmFam2
import Derived.Test.YtaocljlhapoieaaAmRange
import Derived.Sort.OwnSortedInts
namespace Go.Am
open Go.Sort

end Go.Am
