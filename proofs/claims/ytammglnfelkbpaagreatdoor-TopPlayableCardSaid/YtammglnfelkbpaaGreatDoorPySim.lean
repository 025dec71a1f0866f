/- The functions compute what the shallow ones say: printed by program. -/
import Derived.Test.YtammglnfelkbpaaGreatDoorPySh
import Derived.Test.YtammglnfelkbpaaGreatDoorBbDet
import Derived.Test.YtammglnfelkbpaaGreatDoorChecked
import Derived.Test.YtammglnfelkbpaaGreatDoorAmX18
import Derived.KernelRfl
import Derived.Test.YtammglnfelkbpaaGreatDoorAmFam2
import Derived.Test.YtammglnfelkbpaaGreatDoorRfRun
import Derived.Test.YtammglnfelkbpaaGreatDoorCdA
import Derived.Test.YtammglnfelkbpaaGreatDoorAmW
namespace Go.Am
open Go.Proofs
open Go.Proofs.Tryz
set_option maxRecDepth 100000
set_option maxHeartbeats 40000000
attribute [local instance] aCj








instance bTl:KC Tryz.prog (nH) 5 [] (λr:Bool=>(.b r)):=⟨call5,λr h=>by
 refine fnx xT {} _ func5 results5 ntmps5 ?_
 repeat' ((conv=>whnf);first|(refine S2 ?_ ?_<;>intro _ _ h)|(refine S1 ?_;intro _ _ h)|(refine cd call11 (λ_=>aQj _ _) h ?_;intro _ h)|(refine cl call15 (λ_=>bHa _) h ?_;intro _ h)|refine cBt (b:=([55]:Str)) ?_|exact S0)⟩

instance aLj(d_0:dK)(sides_1:List Int):KC Tryz.prog (vE d_0 sides_1) 3 [.agg (fO d_0),.d (.sl 1 (sides_1.map aP))] (λr:Bool=>(.b r)):=⟨call3,λr h=>by
 refine fnx xT {ow:=[11],lt:=[(134,[130])]} _ func3 results3 ntmps3 ?_
 repeat' ((conv=>whnf);first|(refine S2 ?_ ?_<;>intro _ _ h)|(refine S1 ?_;intro _ _ h)|(refine xl2 [1,2,6,9] [2] (F:=eH _ _ _ _) (λ(a:Int) (b:(List Str))=>([(11,.d (.hv 0 11 0)),(12,.i a)],[(11,.arr 9 1 (b.map wG))])) h eB ?_;intro k a b h)|(refine cEm h ?_;intro _ h)|(refine cd call11 (λ_=>aQj _ _) h ?_;intro _ h)|(refine xl1 [9,15,16] [16] (F:=iM _ _ _) (λ(a:Int)=>([(18,.i a)],[])) h eB ?_;intro k a h)|refine cBu (b:=([111,107]:Str)) ?_|refine cBu ?_|refine cBt (b:=([48]:Str)) ?_|exact S0)⟩

end Go.Am
