import Derived.Test.YtejdennodgdfhaaGreatDoorRf10Sh
import Derived.KernelRfl
namespace Go.Am
set_option maxRecDepth 100000
theorem aNd:lH=some true:=by kernel_rfl
end Go.Am
