/- Plain laws, one behind the other. -/
import Derived.Test.YtiohgpipanopaaaGreatTlSh
import Derived.Test.YtiohgpipanopaaaGreatBkPlain5
section
namespace Go.Am
section
variable {t : aP} {l : List aG} {d : List Int} (hg : Good t l d) {must : List (List Int)} (hM : MustIs t must (gE d (Res l)))
include hg hM
end
end Go.Am
end
section
namespace Go.Am
end Go.Am
end
