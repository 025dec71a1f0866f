/- TopRanked: the layers' examples. -/
import Derived.Test.YtbbahihlmgampaaGreatEnWorks
import Derived.KernelRfl
namespace Go.Am
def aRv : aU := (nJ).getD ⟨0, 0, [], [], []⟩
def aWq : List Int × Int := (qW aRv 40).getD ([], 0)
theorem aTx : nJ = some aRv := by kernel_rfl
theorem aTy : qW aRv 40 = some aWq := by kernel_rfl
theorem sH : jD = some true := by
 unfold jD
 rw [aTx, Option.bind_some, aTy, Option.bind_some, aWl, Option.bind_some, aUa, Option.bind_some]
 kernel_rfl
end Go.Am
