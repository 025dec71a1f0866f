/- What is taken, and ages, as they are asked for. -/
import Derived.Test.YtaocljlhapoieaaRkPlain18
namespace Go.Am

theorem yS {α β : Type} (f : α → β) : ∀ (t : List α) (s : List β), t.foldl (fun s r => s ++ [f r]) s = s ++ t.map f
  | [], s => by simp
  | x :: t, s => by rw [List.foldl_cons, yS f t]; simp
theorem aEj {l : aR} {z : List aD} (h : GL l z) {p w : Int} (ha : yI l p w = true) : qZ l p w = some (aBz l z p w, 0) := by
  have hw := (wO ha).2
  have hf := mN h.rest
  have hlen : z.length ≤ 1000 := Nat.le_trans h.len (by omega)
  unfold qZ
  rw [aGi h ha, Option.bind_some]
  obtain ⟨t, h1, h2⟩ := aCg (gM l z) (eA l z p w) (rR h.st) (nI h.reps) (Nat.le_trans kT hlen) (by have := hf.2.1; show 0 ≤ l.Counts ∧ l.Counts ≤ 1000; omega)
  have htl : t.length ≤ 1000 := by rw [h2.length_eq]; exact Nat.le_trans (List.length_filter_le _ _) (Nat.le_trans kT hlen)
  simp only [tO, decide_true, Bool.not_true, cond_false, aCf h.rest h.reps hlen (show w ≤ 1000 by omega), Option.bind_some, h1]
  have main := jN (fun k i s => lH t (t.length : Int) k i s) t (fun s r => s ++ [r.Id]) (fun s => qB s) [] ?_ ?_ BIG (dG (by omega))
  · refine Eq.trans main ?_
    rw [yS]
    unfold qB slices_Sort_int aBz
    rw [if_pos (by simp; omega), Option.bind_some, List.nil_append, aFh h2 (aGc h.st)]; rfl
  · intro k i hi s hs
    have hlt : decide ((i : Int) < (t.length : Int)) = true := decide_eq_true (by omega)
    have hsl : s.length ≤ i := by rw [hs, yS]; simp; omega
    simp only [lH, hlt, cond_true, dL hi, Option.bind_some, kS (show (s.length + [t[i].Id].length) * 8 ≤ 140737488355328 by simp; omega), cN (show i < 9223372036854775807 by omega)]
  · intro k s
    have hlt : decide ((t.length : Int) < (t.length : Int)) = false := decide_eq_false (by omega)
    simp only [lH, hlt, cond_false]
end Go.Am
