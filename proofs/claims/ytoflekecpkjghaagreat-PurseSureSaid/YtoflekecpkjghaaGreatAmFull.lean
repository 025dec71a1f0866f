/- The program logic 'Am': slices without room behind them: literals that are appended to once. -/
import Derived.Test.YtoflekecpkjghaaGreatAmMap
namespace Go.Am
section
variable {P : Program} {n d : Nat} {st : St} {o : Oper}
end
theorem aGy {w : World} {X : bZ} {zs : List D} (h : zOK zs = true) : DRs w X zs (zs.map bT) := aBr h
end Go.Am
