/- The program logic 'Am': ranges over maps; more of maps. -/
import Derived.Test.YtaocljlhapoieaaAmFam
import Derived.Maps.RangeRun
namespace Go.Am

theorem MRs.len {w : World} {X : cB} {es : List (Value × AV)} {ms : List MapEntry} (h : MRs w X es ms) : ms.length = es.length := by
  have := congrArg List.length h.keys
  simpa using this

section
variable {P : Program} {n d : Nat} {st : St}

theorem MRs.erase {w : World} {X : cB} : ∀ {es : List (Value × AV)} {ms : List MapEntry} (j : Nat), MRs w X es ms → MRs w X (es.eraseIdx j) (ms.eraseIdx j)
  | [], [], _, h => by simpa using h
  | (_, _) :: _, _ :: _, 0, h => h.2.2
  | (_, _) :: _, _ :: _, j + 1, h => ⟨h.1, h.2.1, MRs.erase j h.2.2⟩

end
end Go.Am
