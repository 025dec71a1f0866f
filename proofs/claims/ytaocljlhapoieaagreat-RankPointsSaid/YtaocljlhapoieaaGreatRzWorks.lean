/- The examples. -/
import Derived.Test.YtaocljlhapoieaaGreatRzSh
import Derived.KernelRfl
namespace Go.Am
theorem aDi : kK = some true := by kernel_rfl
end Go.Am
