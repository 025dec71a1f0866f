/- The program logic 'Am': slices without room behind them: literals that are appended to once. -/
import Derived.Test.YtenffgkkeafnpaaAmMap
namespace Go.Am
section
variable {P : Program} {n d : Nat} {st : St} {o : Oper}

end

theorem yB {w : World} {X : cA} {zs : List D} (h : zOK zs = true) : DRs w X zs (zs.map bQ) := uJ h
end Go.Am
