/- The program logic 'Am': slices without room behind them: literals that are appended to once. -/
import Derived.Test.YtfdappeickbpeaaGreatAmMap
namespace Go.Am
section
variable {P : Program} {n d : Nat} {st : St} {o : Oper}

end

theorem gJ {w : World} {X : bA} {zs : List D} (h : zOK zs = true) : DRs w X zs (zs.map bT) := tF h
end Go.Am
