/- What is taken, and ages, as they are asked for. -/
import Derived.Test.YtaocljlhapoieaaRkPlain18
namespace Go.Am

theorem yQ {α β : Type} (f : α → β) : ∀ (t : List α) (s : List β), t.foldl (fun s r => s ++ [f r]) s = s ++ t.map f
  | [], s => by simp
  | x :: t, s => by rw [List.foldl_cons, yQ f t]; simp
theorem aEh {l : aM} {z : List aB} (h : GL l z) {p w : Int} (ha : pD l p w = true) : oY l p w = some (aBv l z p w, 0) := by
  have hw := (wO ha).2
  have hf := mN h.rest
  have hlen : z.length ≤ 1000 := Nat.le_trans h.len (by omega)
  unfold oY
  rw [aEg h ha, Option.bind_some]
  obtain ⟨t, h1, h2⟩ := aFd (gK l z) (dS l z p w) (tM h.st) (qD h.reps) (Nat.le_trans mG hlen) (by have := hf.2.1; show 0 ≤ l.Counts ∧ l.Counts ≤ 1000; omega)
  have htl : t.length ≤ 1000 := by rw [h2.length_eq]; exact Nat.le_trans (List.length_filter_le _ _) (Nat.le_trans mG hlen)
  simp only [sW, decide_true, Bool.not_true, cond_false, aFc h.rest h.reps hlen (show w ≤ 1000 by omega), Option.bind_some, h1]
  have main := iX (fun k i s => lC t (t.length : Int) k i s) t (fun s r => s ++ [r.Id]) (fun s => qA s) [] ?_ ?_ BIG (dA (by omega))
  · refine Eq.trans main ?_
    rw [yQ]
    unfold qA slices_Sort_int aBv
    rw [if_pos (by simp; omega), Option.bind_some, List.nil_append, aFh h2 (aGe h.st)]; rfl
  · intro k i hi s hs
    have hlt : decide ((i : Int) < (t.length : Int)) = true := decide_eq_true (by omega)
    have hsl : s.length ≤ i := by rw [hs, yQ]; simp; omega
    simp only [lC, hlt, cond_true, dF hi, Option.bind_some, jG (show (s.length + [t[i].Id].length) * 8 ≤ 140737488355328 by simp; omega), cJ (show i < 9223372036854775807 by omega)]
  · intro k s
    have hlt : decide ((t.length : Int) < (t.length : Int)) = false := decide_eq_false (by omega)
    simp only [lC, hlt, cond_false]
theorem aCc {l : aM} {z : List aB} (h : GL l z) {id w : Int} (ha : pD l 0 w = true) (hn : ∀ r ∈ z, r.Id ≠ id) : qJ l id w = some (0, 3) := by
  unfold qJ
  rw [aEg h ha, Option.bind_some]
  have hi : dI z (fun y7 => nJ y7 id) = some (mI (fun r => decide (r.Id = id)) z) := aBw z _ _ (fun _ _ => rfl) (Nat.le_trans h.len (by omega))
  have hfi : mI (fun r : aB => decide (r.Id = id)) z = -1 := by
    unfold mI
    rw [if_neg]
    intro hlt
    have := List.findIdx_getElem (p := fun r : aB => decide (r.Id = id)) (xs := z) (w := hlt)
    simp only [decide_eq_true_eq] at this
    exact hn _ (List.getElem_mem _) this
  rw [hfi] at hi
  simp only [sW, decide_true, Bool.not_true, cond_false]
  show (dI z (fun y7 => nJ y7 id)).bind _ = _
  rw [hi]; rfl
theorem aCd {l : aM} {z : List aB} (h : GL l z) {id w : Int} (ha : pD l 0 w = true) {r : aB} (hr : r ∈ z) (hid : r.Id = id) : qJ l id w = some (bif decide (w < r.Week) then (0, 3) else (nU l.Frozen r w, 0)) := by
  have hw := (wO ha).2
  obtain ⟨_, _, _, hbans, hfz, _, hap⟩ := mN h.rest
  have hlen : z.length ≤ 1000 := Nat.le_trans h.len (by omega)
  unfold qJ
  rw [aEg h ha, Option.bind_some]
  have hi : dI z (fun y7 => nJ y7 id) = some (mI (fun r => decide (r.Id = id)) z) := aBw z _ _ (fun _ _ => rfl) (by omega)
  have hlt : z.findIdx (fun r => decide (r.Id = id)) < z.length := List.findIdx_lt_length_of_exists ⟨r, hr, by simp [hid]⟩
  obtain ⟨i, hie⟩ : ∃ i, i = z.findIdx (fun r => decide (r.Id = id)) := ⟨_, rfl⟩
  have hfi : mI (fun r : aB => decide (r.Id = id)) z = (i : Int) := by
    unfold mI
    rw [if_pos hlt, ← hie]
  have hil : i < z.length := by omega
  have hzi : z[i] = r := by
    have := List.findIdx_getElem (p := fun r : aB => decide (r.Id = id)) (xs := z) (w := hlt)
    simp only [decide_eq_true_eq, ← hie] at this
    exact vZ h.st _ (List.getElem_mem _) _ hr (by rw [this, hid])
  rw [hfi] at hi
  have hix : idx z (i : Int) = some r := by rw [dF hil, hzi]
  have hrf := rC (h.reps r hr)
  simp only [sW, decide_true, Bool.not_true, cond_false]
  show (dI z (fun y7 => nJ y7 id)).bind _ = _
  rw [hi, Option.bind_some, decide_eq_false (by omega), cond_false]
  show ((idx z (i : Int)).bind fun x9 => some (decide (w < x9.Week))).bind (fun b10 => bif b10 then some (0, 3) else (idx z (i : Int)).bind fun x11 => (jE (gK l z) x11 w).bind fun r12 => some (r12, 0)) = _
  rw [hix, Option.bind_some, Option.bind_some, Option.bind_some]
  by_cases hwk : w < r.Week
  · rw [decide_eq_true hwk]; rfl
  · have hage : jE (gK l z) r w = some (nU l.Frozen r w) := aIc (gK l z) r w (fun f hf => by have := aAf (hfz.2 f hf); omega) hfz.1 hap hrf.2.2.1.1 (by omega) (by omega)
    rw [decide_eq_false hwk, cond_false, hage]; rfl
/-- A ledger that a statement looks at. -/
structure Near (l : aM) : Prop where
  bd : Bd l
  pl : lD l = 0 → l.Players ≤ 5
theorem Near.gl {l : aM} (h : Near l) {p w : Int} (ha : aFo l p w = 0) : ∃ z, GL l z ∧ pD l p w = true ∧ l.Players ≤ 12 := by
  obtain ⟨h1, h2⟩ := aFp ha
  obtain ⟨z, hz⟩ := aGj h1
  exact ⟨z, hz, h2, by have := h.pl h1; omega⟩
end Go.Am
