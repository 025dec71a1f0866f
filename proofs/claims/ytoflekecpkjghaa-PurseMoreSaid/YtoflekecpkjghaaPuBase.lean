/- What is left of a draw, by the reference's draw. -/
import Derived.Test.YtoflekecpkjghaaBkPlain2
namespace Go.Am
end Go.Am
