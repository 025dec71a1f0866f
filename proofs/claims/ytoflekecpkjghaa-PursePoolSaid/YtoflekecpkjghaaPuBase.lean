/- What is left of a draw, by the reference's draw. -/
import Derived.Test.YtoflekecpkjghaaBkPlain2
namespace Go.Am
def nX (t : aR) (l : List aG) : Option (Int × Int) :=
  (fG t l).bind fun e => bif !decide (e = 0) then some (0, e) else (eT t l).bind fun r => some (((aBq t r.1.Must : Nat) : Int), 0)
theorem aWi {t : aR} {l : List aG} {e : Int} (h : Stat t l e) : nX t l = some (0, e) := by
  unfold nX
  rw [yK h, Option.bind_some]
  simp only [h.ne, Bool.not_false, cond_true]
theorem aMp {t : aR} {l : List aG} {d : List Int} (h : Good t l d) {must : List (List Int)} (hd : eT t l = some (⟨d, must⟩, true)) : nX t l = some (((aBq t must : Nat) : Int), 0) := by
  unfold nX
  rw [wF h, Option.bind_some, hd]
  rfl
end Go.Am
