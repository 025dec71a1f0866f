/- The plain law PlayDraw. -/
import Derived.Test.YtiohgpipanopaaaGreatPlayJobs1
import Derived.Test.YtiohgpipanopaaaGreatBkPlain1
import Derived.KernelRfl
namespace Go.Am
theorem bAm(stages:List bU){o:List aN}{i:Nat}(hi:i<o.length):(iQ stages o)[i]'(by rw[pG];exact hi)=aGw stages o o[i] i:=by
 have e:(iQ stages o)[i]'(by rw[pG];exact hi)=aGw stages o (o.getD i ⟨0,0,0,0⟩) i:=by simp[iQ]
 rw[e,aW hi]
theorem bOq(t:aF)(d:List Int)(must:List (List Int)):cI t d must=((sZ t).filter λx=>decide (mat must x.1 x.2= -2)).map (aAu d must):=by
 unfold cI;rw[bKj,List.filter_map]
 rfl
section
variable{t:aF}{l:List aB}{d:List Int}(hg:Good t l d){must:List (List Int)}(hd:cL t l=some (⟨d,must⟩,true))(hM:MustIs t must (fB d (Res l)))
variable{stages:List bU}(hst:(stages.length:Int)=t.Rounds)
include hg hd hM hst
end
end Go.Am
