/- Layer 7, plain: who may win a match. -/
import Derived.Test.YtoflekecpkjghaaGreatBkPlain5
namespace Go.Am
section
variable {t : aR} {l : List aE} {d : List Int} (hg : Good t l d) {must : List (List Int)} (hd : eN t l = some (⟨d, must⟩, true)) (hM : MustIs t must (jE d (Res l)))
include hg hM
end
end Go.Am
