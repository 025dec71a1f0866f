/- What is defended. -/
import Derived.Test.YtaocljlhapoieaaRkPlain15
namespace Go.Am

section del
theorem aBw (l : List aB) (f : aB → Option Bool) (p : aB → Bool) (h : ∀ x ∈ l, f x = some (p x)) (hb : l.length ≤ 1000000) : dI l f = some (mI p l) := by
  unfold dI
  refine wW (fun k i => eG l f (l.length : Int) k i) l p (fun k i hi => ?_) (fun k => ?_) BIG (dA (by omega))
  · have hlt : decide ((i : Int) < (l.length : Int)) = true := decide_eq_true (by omega)
    simp only [eG, hlt, cond_true, dF hi, Option.bind_some, h _ (List.getElem_mem hi), cJ (show i < 9223372036854775807 by omega)]
  · have hlt : decide ((l.length : Int) < (l.length : Int)) = false := decide_eq_false (by omega)
    simp only [eG, hlt, cond_false, jQ]
end del

end Go.Am
