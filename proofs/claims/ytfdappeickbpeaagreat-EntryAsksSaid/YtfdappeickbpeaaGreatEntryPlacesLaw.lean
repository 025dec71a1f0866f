/- The theorem of the places, plainly. -/
import Derived.Test.YtfdappeickbpeaaGreatEnPlain23
import Derived.Test.YtfdappeickbpeaaGreatEntryStaysLaw
namespace Go.Am
theorem aNh : ∀ (t : List aO) (l : aN) {n : Int}, (∀ x ∈ t, x.Player ≠ n) → pl (t.foldl cA l) n = pl l n
 | [], _, _, _ => rfl
 | x :: t, l, n, h => by
  rw [List.foldl_cons, aNh t _ fun y hy => h y (by simp [hy]), aBs, decide_eq_false (fun e => h x (by simp) e.symm), cond_false]
theorem aWa {f : aT} {l : List aO} (h : VL f l) (hour n : Int) (hn : (pl (bV f l hour) n).entered = true ∨ (pl (bV f l hour) n).wild = true) : wi n 0 999 = true := by
 have hb : ∀ x ∈ l, bN x := fun x hx => yM (h.nt x hx)
 have hT := qE l
 have hlen := h.len
 have hs := oA hb h.id
 have hbT : ∀ x ∈ dC l, bN x := fun x hx => hb x ((fK x).1 hx)
 obtain ⟨_, _, ga⟩ := wX hour (dC l) (eI f) 0 (jX h.fd) (by omega) fun x hx => h.nt x ((fK x).1 hx)
 unfold bV at hn
 rw [aYx ga, zY hour _ _ hs hbT] at hn
 by_cases hx : ∀ x ∈ (dC l).filter (fun x => decide (x.Hour ≤ hour)), x.Player ≠ n
 ·rw [aNh _ _ hx] at hn
  rcases hn with hn | hn <;> cases hn
 ·simp only [Classical.not_forall] at hx
  obtain ⟨x, hm, he⟩ := hx
  have hx2 := h.nt x ((fK x).1 (List.mem_filter.1 hm).1)
  have he2 : x.Player = n := Classical.byContradiction fun e => he e
  unfold gQ at hx2
  simp only [Bool.and_eq_true] at hx2
  rw [← he2]; exact hx2.1.1.2
end Go.Am
