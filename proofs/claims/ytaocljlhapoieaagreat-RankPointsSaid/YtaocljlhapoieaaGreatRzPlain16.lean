/- What is defended. -/
import Derived.Test.YtaocljlhapoieaaGreatRzPlain15
namespace Go.Am

section del
theorem aBx (l : List aD) (f : aD → Option Bool) (p : aD → Bool) (h : ∀ x ∈ l, f x = some (p x)) (hb : l.length ≤ 1000000) : dK l f = some (oQ p l) := by
  unfold dK
  refine aAo (fun k i => eI l f (l.length : Int) k i) l p (fun k i hi => ?_) (fun k => ?_) BIG (dO (by omega))
  · have hlt : decide ((i : Int) < (l.length : Int)) = true := decide_eq_true (by omega)
    simp only [eI, hlt, cond_true, dD hi, Option.bind_some, h _ (List.getElem_mem hi), cU (show i < 9223372036854775807 by omega)]
  · have hlt : decide ((l.length : Int) < (l.length : Int)) = false := decide_eq_false (by omega)
    simp only [eI, hlt, cond_false, jT]
end del

end Go.Am
