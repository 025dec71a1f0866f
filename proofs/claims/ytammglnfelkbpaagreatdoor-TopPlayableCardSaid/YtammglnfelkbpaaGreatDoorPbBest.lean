/- Best, of the jobs of a draw. -/
import Derived.Test.YtammglnfelkbpaaGreatDoorPlayPlain11
import Derived.Test.YtammglnfelkbpaaGreatDoorPlayJobs1
namespace Go.Am
open Py (VP isOrd valid kE pK asc)
theorem bYv{p:aH}(hp:VP p)(hv:valid p=true):∃l e,aKs p=some (l,e)/\l.length<=6/\((e=0/\isOrd p l=true)\/e=3):=by
 have hc:sS p=some 0:=by rw[Py.play_Check_eq p hp.small,hv];rfl
 obtain⟨n,l,b,hb,hl,ht,_⟩:=Py.best_spec hp;unfold aKs;rw[hc,c6,n7 rfl,l8,g6,hb,c6];cases b with
 |true=>exact⟨l,0,rfl,hl,.inl ⟨rfl,(ht rfl).2.2.1.ord⟩⟩
 |false=>exact⟨[],3,rfl,by simp,.inr rfl⟩
end Go.Am
