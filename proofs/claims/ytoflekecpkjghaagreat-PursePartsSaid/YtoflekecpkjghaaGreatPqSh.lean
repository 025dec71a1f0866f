/- Shallow functions, printed by program. -/
import Derived.Test.YtoflekecpkjghaaGreatPgSh
import Derived.Test.YtoflekecpkjghaaGreatAmSort
namespace Go.Am


end Go.Am
