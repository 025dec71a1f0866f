/- The program logic 'Am': slices without room behind them: literals that are appended to once. -/
import Derived.Test.YtoflekecpkjghaaAmMap
namespace Go.Am
section
variable {P : Program} {n d : Nat} {st : St} {o : Oper}

end

theorem aFi {w : World} {X : bY} {zs : List D} (h : zOK zs = true) : DRs w X zs (zs.map bQ) := aAl h
end Go.Am
