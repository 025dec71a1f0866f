/- The program logic 'Am': slices without room behind them: literals that are appended to once. -/
import Derived.Test.YtiohgpipanopaaaGreatAmMap
namespace Go.Am
section
variable {P : Program} {n d : Nat} {st : St} {o : Oper}
end
theorem aEs {w : World} {X : bZ} {zs : List D} (h : zOK zs = true) : DRs w X zs (zs.map bJ) := zU h
end Go.Am
