/- The theorem of the place that is kept, plainly. -/
import Derived.Test.YtfdappeickbpeaaGreatEnPlain14
namespace Go.Am
theorem aUp (xs : List Int) (n : Int) (hb : xs.length ≤ 1000) : oE xs n = some (decide (n ∈ xs)) := by
 have key := kB (S := Unit) (fun k i _ => iS xs n k i) xs.length (fun i _ => some (decide (n ∈ xs.drop i))) (fun _ _ => True) (fun k i _ hi _ ih => ?_) (fun k _ _ => ?_) BIG () (dC (by omega)) trivial
 ·unfold oE
  rw [key]
  simp
 ·simp only [iS, show decide ((i : Int) < (xs.length : Int)) = true by simpa using hi, cond_true, cV hi, Option.bind_some, bU (show i < 9223372036854775807 by omega)]
  rw [List.drop_eq_getElem_cons hi]
  by_cases h : xs[i] = n
  ·simp [h]
  ·rw [decide_eq_false h, cond_false, ih () trivial]
   have e2 : (n ∈ xs[i] :: xs.drop (i + 1)) ↔ n ∈ xs.drop (i + 1) := by
    rw [List.mem_cons]; exact ⟨fun hh => hh.resolve_left fun e => h e.symm, .inr⟩
   rw [decide_eq_decide.2 e2]
 ·simp [iS, rN]
end Go.Am
