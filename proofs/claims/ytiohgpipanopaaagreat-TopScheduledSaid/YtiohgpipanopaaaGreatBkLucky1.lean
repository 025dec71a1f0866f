/- Layer 7, plain: one more lucky loser. -/
import Derived.Test.YtiohgpipanopaaaGreatBbDet
namespace Go.Am
def Sim(A:Int)(E E':List Int):Prop:=∀x,x≠A->(x∈E↔x∈E')
theorem Sim.snoc{A:Int}{E E':List Int}(h:Sim A E E')(y:Int):Sim A (E++[y]) (E'++[y]):=λx hx=>by rw[List.mem_append,List.mem_append,h x hx]
section
variable{L:List aB}{s:aB}(hL:∀x∈L,x.Player≠s.Player)
include hL
end
end Go.Am
