/- The plain law PlayReal: whatever valid program, order and minutes come in, the function computes true. -/
import Derived.Test.YtiohgpipanopaaaGreatPlayPlain6
import Derived.KernelRfl
namespace Go.Am.Py
theorem aSi{p:aI}(a c:List Int){j:Int}(hj:isJ p j):idx (spansOf p a c) j=some (aX.mk (cH a j) (cH c j)):=by
 have h:j.toNat<(spansOf p a c).length:=by simp[spansOf];exact hj.2
 rw[pW hj.1 h];simp only[spansOf,List.getElem_map,List.getElem_range];have:((j.toNat:Nat):Int)=j:=by have:=hj.1;omega
 rw[this]
end Go.Am.Py
