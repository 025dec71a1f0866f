/- Layer 7, plain: all that is known of all matches. -/
import Derived.Test.YtenffgkkeafnpaaBkPlain4
namespace Go.Am

theorem yB {t : aN} (ht : TreeOK t) (d : List Int) (must : List (List Int)) : (gP t d must).length + 1 = t.Slots.length := by
  rw [uY, List.length_map]; exact vI ht
theorem uP (l : List bD) (h : l.length ≤ 9223372036854775807) : gB l l = some true := by
  unfold gB
  have main := pO (fun k i => eQ l l k i) l.length (fun _ => true) (some false) (some true) ?_ ?_ BIG (cX h)
  · rw [main, show (List.range l.length).all (fun _ => true) = true by simp]
    simp
  · intro k i hi
    simp [eQ, hi, cL hi, cJ (show i < 9223372036854775807 by omega)]
  · intro k
    simp [eQ, lJ]
end Go.Am
