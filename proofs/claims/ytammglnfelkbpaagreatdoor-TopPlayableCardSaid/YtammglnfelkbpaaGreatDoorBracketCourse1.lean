/- Layer 7, plain: players. -/
import Derived.Test.YtammglnfelkbpaaGreatDoorBbDet
namespace Go.Am
theorem Good.le999{t:aD}{l:List aA}{d:List Int}(hg:Good t l d){a:Nat}(ha:a<d.length):d.getD a 0<=999:=by
 rcases hg.home.home a ha with e|⟨u,hu,_,e⟩
 ·have ha':a<t.Slots.length:=hg.dok.len▸ha;rw[e,bC ha'];exact(hg.ht.rng a ha').2
 ·have hm:=aOp.1 hu;have hs:=hg.slips u hm.1;simp only[fG,hm.2,aF2,f4,kS] at hs
  omega
end Go.Am
