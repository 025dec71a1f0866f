/- The program logic 'Am': slices without room behind them: literals that are appended to once. -/
import Derived.Test.YtenffgkkeafnpaaAmMap
namespace Go.Am
section
variable {P : Program} {n d : Nat} {st : St} {o : Oper}

end

theorem xG {w : World} {X : bW} {zs : List D} (h : zOK zs = true) : DRs w X zs (zs.map bG) := tW h
end Go.Am
