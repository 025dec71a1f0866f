/- What is taken, and ages, as they are asked for. -/
import Derived.Test.YtaocljlhapoieaaGreatRzPlain18
namespace Go.Am

theorem tT {α β : Type} (f : α → β) : ∀ (t : List α) (s : List β), t.foldl (fun s r => s ++ [f r]) s = s ++ t.map f
  | [], s => by simp
  | x :: t, s => by rw [List.foldl_cons, tT f t]; simp
theorem aEj {l : aS} {z : List aD} (h : GL l z) {p w : Int} (ha : oI l p w = true) : mL l p w = some (aEc l z p w, 0) := by
  have hw := (oT ha).2
  have hf := pK h.rest
  have hlen : z.length ≤ 1000 := Nat.le_trans h.len (by omega)
  unfold mL
  rw [aBf h ha, Option.bind_some]
  obtain ⟨t, h1, h2⟩ := aFj (nN l z) (jD l z p w) (vN h.st) (vM h.reps) (Nat.le_trans nQ hlen) (by have := hf.2.1; show 0 ≤ l.Counts ∧ l.Counts ≤ 1000; omega)
  have htl : t.length ≤ 1000 := by rw [h2.length_eq]; exact Nat.le_trans (List.length_filter_le _ _) (Nat.le_trans nQ hlen)
  simp only [nU, decide_true, Bool.not_true, cond_false, aFh h.rest h.reps hlen (show w ≤ 1000 by omega), Option.bind_some, h1]
  have main := mJ (fun k i s => lB t (t.length : Int) k i s) t (fun s r => s ++ [r.Id]) (fun s => qF s) [] ?_ ?_ BIG (dO (by omega))
  · refine Eq.trans main ?_
    rw [tT]
    unfold qF slices_Sort_int aEc
    rw [if_pos (by simp; omega), Option.bind_some, List.nil_append, aFn h2 (aGm h.st)]; rfl
  · intro k i hi s hs
    have hlt : decide ((i : Int) < (t.length : Int)) = true := decide_eq_true (by omega)
    have hsl : s.length ≤ i := by rw [hs, tT]; simp; omega
    simp only [lB, hlt, cond_true, dD hi, Option.bind_some, nL (show (s.length + [t[i].Id].length) * 8 ≤ 140737488355328 by simp; omega), cU (show i < 9223372036854775807 by omega)]
  · intro k s
    have hlt : decide ((t.length : Int) < (t.length : Int)) = false := decide_eq_false (by omega)
    simp only [lB, hlt, cond_false]
theorem aEk {l : aS} (hb : Bd l) {p w : Int} (h : jC l p w ≠ 0) : mL l p w = some ([], jC l p w) := by
  unfold mL
  rw [aEi hb h, Option.bind_some]
  simp only [nU, decide_eq_false h, Bool.not_false, cond_true]

theorem aGg {l : aS} (hb : Bd l) {id w : Int} (h : jC l 0 w ≠ 0) : nB l id w = some (0, jC l 0 w) := by
  unfold nB
  rw [aEi hb h, Option.bind_some]
  simp only [nU, decide_eq_false h, Bool.not_false, cond_true]
theorem aCd {l : aS} {z : List aD} (h : GL l z) {id w : Int} (ha : oI l 0 w = true) (hn : ∀ r ∈ z, r.Id ≠ id) : nB l id w = some (0, 3) := by
  unfold nB
  rw [aBf h ha, Option.bind_some]
  have hi : dK z (fun y7 => nX y7 id) = some (oQ (fun r => decide (r.Id = id)) z) := aBx z _ _ (fun _ _ => rfl) (Nat.le_trans h.len (by omega))
  have hfi : oQ (fun r : aD => decide (r.Id = id)) z = -1 := by
    unfold oQ
    rw [if_neg]
    intro hlt
    have := List.findIdx_getElem (p := fun r : aD => decide (r.Id = id)) (xs := z) (w := hlt)
    simp only [decide_eq_true_eq] at this
    exact hn _ (List.getElem_mem _) this
  rw [hfi] at hi
  simp only [nU, decide_true, Bool.not_true, cond_false]
  show (dK z (fun y7 => nX y7 id)).bind _ = _
  rw [hi]; rfl
theorem xE {l : aS} {z : List aD} (h : GL l z) {id w : Int} (ha : oI l 0 w = true) {r : aD} (hr : r ∈ z) (hid : r.Id = id) : nB l id w = some (bif decide (w < r.Week) then (0, 3) else (qH l.Frozen r w, 0)) := by
  have hw := (oT ha).2
  obtain ⟨_, _, _, hbans, hfz, _, hap⟩ := pK h.rest
  have hlen : z.length ≤ 1000 := Nat.le_trans h.len (by omega)
  unfold nB
  rw [aBf h ha, Option.bind_some]
  have hi : dK z (fun y7 => nX y7 id) = some (oQ (fun r => decide (r.Id = id)) z) := aBx z _ _ (fun _ _ => rfl) (by omega)
  have hlt : z.findIdx (fun r => decide (r.Id = id)) < z.length := List.findIdx_lt_length_of_exists ⟨r, hr, by simp [hid]⟩
  obtain ⟨i, hie⟩ : ∃ i, i = z.findIdx (fun r => decide (r.Id = id)) := ⟨_, rfl⟩
  have hfi : oQ (fun r : aD => decide (r.Id = id)) z = (i : Int) := by
    unfold oQ
    rw [if_pos hlt, ← hie]
  have hil : i < z.length := by omega
  have hzi : z[i] = r := by
    have := List.findIdx_getElem (p := fun r : aD => decide (r.Id = id)) (xs := z) (w := hlt)
    simp only [decide_eq_true_eq, ← hie] at this
    exact zU h.st _ (List.getElem_mem _) _ hr (by rw [this, hid])
  rw [hfi] at hi
  have hix : idx z (i : Int) = some r := by rw [dD hil, hzi]
  have hrf := tH (h.reps r hr)
  simp only [nU, decide_true, Bool.not_true, cond_false]
  show (dK z (fun y7 => nX y7 id)).bind _ = _
  rw [hi, Option.bind_some, decide_eq_false (by omega), cond_false]
  show ((idx z (i : Int)).bind fun x9 => some (decide (w < x9.Week))).bind (fun b10 => bif b10 then some (0, 3) else (idx z (i : Int)).bind fun x11 => (jG (nN l z) x11 w).bind fun r12 => some (r12, 0)) = _
  rw [hix, Option.bind_some, Option.bind_some, Option.bind_some]
  by_cases hwk : w < r.Week
  · rw [decide_eq_true hwk]; rfl
  · have hage : jG (nN l z) r w = some (qH l.Frozen r w) := aIk (nN l z) r w (fun f hf => by have := aAi (hfz.2 f hf); omega) hfz.1 hap hrf.2.2.1.1 (by omega) (by omega)
    rw [decide_eq_false hwk, cond_false, hage]; rfl
theorem aDf (a b : List Int) (ha : a.length ≤ 1000000) : iW a b = some (decide (a = b)) := by
  unfold iW
  by_cases hl : a.length = b.length
  · rw [decide_eq_true (show (a.length : Int) = (b.length : Int) by omega), Bool.not_true, cond_false]
    have main := kO (fun k i => fY a b k i) a.length (fun i => decide (a.getD i 0 = b.getD i 0)) (some false) (some true) (fun k i hi => by
      have hlt : decide ((i : Int) < (a.length : Int)) = true := decide_eq_true (by omega)
      have e1 : a.getD i 0 = a[i] := by simp [List.getD, List.getElem?_eq_getElem hi]
      have e2 : b.getD i 0 = b[i] := by simp [List.getD, List.getElem?_eq_getElem (show i < b.length by omega)]
      simp only [fY, hlt, cond_true, dD hi, dD (show i < b.length by omega), Option.bind_some, e1, e2, cU (show i < 9223372036854775807 by omega)]
      cases decide (a[i] = b[i]) <;> rfl) (fun k => by
      have hlt : decide ((a.length : Int) < (a.length : Int)) = false := decide_eq_false (by omega)
      simp only [fY, hlt, cond_false, mR]) BIG (dO (by omega))
    refine Eq.trans main ?_
    have : (List.range a.length).all (fun i => decide (a.getD i 0 = b.getD i 0)) = decide (a = b) := by
      rw [Bool.eq_iff_iff, List.all_eq_true, decide_eq_true_eq]
      constructor
      · intro h
        refine List.ext_getElem hl fun i h1 h2 => ?_
        have := h i (List.mem_range.2 h1)
        simpa [List.getD, List.getElem?_eq_getElem h1, List.getElem?_eq_getElem h2] using this
      · rintro rfl i _; simp
    rw [this]
    cases decide (a = b) <;> rfl
  · rw [decide_eq_false (show ¬ (a.length : Int) = (b.length : Int) by omega), decide_eq_false (fun h => hl (by rw [h]))]; rfl
/-- A ledger that a statement looks at. -/
structure Near (l : aS) : Prop where
  bd : Bd l
  pl : hJ l = 0 → l.Players ≤ 5
theorem aHp {l : aS} (hb : l.Reports.length ≤ maxLen ∧ l.Bans.length ≤ maxLen ∧ l.Frozen.length ≤ maxLen) : gD l = some true ∨ gD l = some false ∧ Near l ∧ (hJ l = 0 → l.Reports.length ≤ 10 ∧ ∀ r ∈ l.Reports, r.Week ≤ 150) := by
  unfold maxLen at hb
  have hff : (∃ b, gD l = some b) := by
    by_cases h : l.Reports.length ≤ 140737488355328 ∧ l.Bans.length ≤ 140737488355328 ∧ l.Frozen.length ≤ 140737488355328
    · exact aFz l h
    · unfold gD
      rw [gA, Option.bind_some, gA, Option.bind_some]
      have : (decide (60 < (l.Reports.length : Int)) || decide (20 < (l.Bans.length : Int)) || decide (20 < (l.Frozen.length : Int))) = true := by simp only [Bool.or_eq_true, decide_eq_true_eq]; omega
      rw [this]; exact ⟨true, rfl⟩
  obtain ⟨b, hf⟩ := hff
  cases b with
  | true => exact .inl hf
  | false =>
    obtain ⟨h1, h2⟩ := aFb hf
    exact .inr ⟨hf, ⟨by unfold Bd; omega, fun hc => (h2 hc).1⟩, fun hc => (h2 hc).2⟩
theorem Near.gl {l : aS} (h : Near l) {p w : Int} (ha : jC l p w = 0) : ∃ z, GL l z ∧ oI l p w = true ∧ l.Players ≤ 12 := by
  obtain ⟨h1, h2⟩ := aFu ha
  obtain ⟨z, hz⟩ := aBe h1
  exact ⟨z, hz, h2, by have := h.pl h1; omega⟩
end Go.Am
