/- The theorem of the messages, plainly. -/
import Derived.Test.YtfdappeickbpeaaGreatEnWorks
namespace Go.Am
theorem aRn (l : List aM) : oQ l = some ((decide (20 < (l.length : Int)) && decide ((l.length : Int) ≤ 60)) || decide (100 < (l.length : Int))) := by
 unfold oQ
 rw [mZ, Option.bind_some, oW, Option.bind_some]
theorem sH (a : List Int) (hb : a.length ≤ 1000) : eR a a = some true := by
 unfold eR
 rw [decide_eq_true rfl]
 have key := kX (S := Unit) (fun k i _ => gL a a k i) a.length (fun _ _ => some true) (fun _ _ => True) (fun k i _ hi _ ih => ?_) (fun k _ _ => ?_) BIG () (eK (by omega)) trivial
 ·exact key
 ·simp only [gL, show decide ((i : Int) < (a.length : Int)) = true by simpa using hi, cond_true, dP hi, Option.bind_some, decide_true, Bool.not_true, cond_false, cZ (show i < 9223372036854775807 by omega)]
  exact ih () trivial
 ·simp [gL, oK]
theorem aNe {f : aY} {l : List aM} (h : VL f l) (hour : Int) : jE (uR f l hour) (uR f l hour) = some true := by
 obtain ⟨j, hj, hg⟩ := sZ h hour
 have hm := sT hg
 have ho := aDc hg.wf
 have hw := hg.cn.wl
 unfold jE uR
 simp only
 rw [sH _ (by omega), Option.bind_some, cond_true, sH _ (by omega), Option.bind_some, Option.bind_some, cond_true, sH _ (by omega), Option.bind_some, Option.bind_some, cond_true]
 simp
end Go.Am
