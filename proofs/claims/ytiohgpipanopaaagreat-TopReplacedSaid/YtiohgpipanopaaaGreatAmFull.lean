/- The program logic 'Am': slices without room behind them: literals that are appended to once. -/
import Derived.Test.YtiohgpipanopaaaGreatAmMap
namespace Go.Am
section
variable {P : Program} {n d : Nat} {st : St} {o : Oper}
end
theorem aBq {w : World} {X : bO} {zs : List D} (h : zOK zs = true) : DRs w X zs (zs.map bN) := xA h
end Go.Am
