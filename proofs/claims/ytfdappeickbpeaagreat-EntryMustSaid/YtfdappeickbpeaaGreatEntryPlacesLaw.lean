/- The theorem of the places, plainly. -/
import Derived.Test.YtfdappeickbpeaaGreatEnPlain23
import Derived.Test.YtfdappeickbpeaaGreatEntryStaysLaw
namespace Go.Am
theorem aJo : ∀ (t : List aG) (l : aH) {n : Int}, (∀ x ∈ t, x.Player ≠ n) → pl (t.foldl bJ l) n = pl l n
 | [], _, _, _ => rfl
 | x :: t, l, n, h => by
  rw [List.foldl_cons, aJo t _ fun y hy => h y (by simp [hy]), yS, decide_eq_false (fun e => h x (by simp) e.symm), cond_false]
theorem aKk {f : aP} {l : List aG} (h : VL f l) (hour n : Int) (hn : (pl (aZ f l hour) n).entered = true ∨ (pl (aZ f l hour) n).wild = true) : wi n 0 999 = true := by
 have hb : ∀ x ∈ l, bN x := fun x hx => rI (h.nt x hx)
 have hT := nV l
 have hlen := h.len
 have hs := jP hb h.id
 have hbT : ∀ x ∈ cN l, bN x := fun x hx => hb x ((dR x).1 hx)
 obtain ⟨_, _, ga⟩ := sO hour (cN l) (dB f) 0 (gX h.fd) (by omega) fun x hx => h.nt x ((dR x).1 hx)
 unfold aZ at hn
 rw [aUr ga, sN hour _ _ hs hbT] at hn
 by_cases hx : ∀ x ∈ (cN l).filter (fun x => decide (x.Hour ≤ hour)), x.Player ≠ n
 ·rw [aJo _ _ hx] at hn
  rcases hn with hn | hn <;> cases hn
 ·simp only [Classical.not_forall] at hx
  obtain ⟨x, hm, he⟩ := hx
  have hx2 := h.nt x ((dR x).1 (List.mem_filter.1 hm).1)
  have he2 : x.Player = n := Classical.byContradiction fun e => he e
  unfold eZ at hx2
  simp only [Bool.and_eq_true] at hx2
  rw [← he2]; exact hx2.1.1.2
end Go.Am
