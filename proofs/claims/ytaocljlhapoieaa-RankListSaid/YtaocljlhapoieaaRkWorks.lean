/- The examples. -/
import Derived.Test.YtaocljlhapoieaaRkSh
import Derived.KernelRfl
namespace Go.Am
theorem sI : jG = some true := by kernel_rfl
end Go.Am
