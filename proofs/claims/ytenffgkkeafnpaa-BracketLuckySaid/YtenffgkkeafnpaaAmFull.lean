/- The program logic 'Am': slices without room behind them: literals that are appended to once. -/
import Derived.Test.YtenffgkkeafnpaaAmMap
namespace Go.Am
section
variable {P : Program} {n d : Nat} {st : St} {o : Oper}

end

theorem xI {w : World} {X : cA} {zs : List D} (h : zOK zs = true) : DRs w X zs (zs.map bK) := uB h
end Go.Am
