/- The plain law RankSum. -/
import Derived.Test.YtaocljlhapoieaaRkPlain19
import Derived.Test.YtaocljlhapoieaaRankDefendsLaw
namespace Go.Am

section sum
variable (b : aB → Bool)
end sum
theorem aDo (p : Int → Bool) : ∀ (L : List Int) (b : Bool), L.foldl (fun b y => b || p y) b = (b || L.any p)
  | [], b => by simp
  | y :: L, b => by rw [List.foldl_cons, aDo p L]; simp [Bool.or_assoc]
end Go.Am
