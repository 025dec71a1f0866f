/- The best results: none are better. -/
import Derived.Test.YtaocljlhapoieaaGreatRzPlain14
namespace Go.Am

end Go.Am
