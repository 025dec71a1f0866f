/- What is taken, and ages, as they are asked for. -/
import Derived.Test.YtaocljlhapoieaaRkPlain18
namespace Go.Am

theorem yX {α β : Type} (f : α → β) : ∀ (t : List α) (s : List β), t.foldl (fun s r => s ++ [f r]) s = s ++ t.map f
  | [], s => by simp
  | x :: t, s => by rw [List.foldl_cons, yX f t]; simp
theorem aEp {l : aM} {z : List aB} (h : GL l z) {p w : Int} (ha : qQ l p w = true) : rB l p w = some (aCd l z p w, 0) := by
  have hw := (wR ha).2
  have hf := mQ h.rest
  have hlen : z.length ≤ 1000 := Nat.le_trans h.len (by omega)
  unfold rB
  rw [aEo h ha, Option.bind_some]
  obtain ⟨t, h1, h2⟩ := aCm (gO l z) (dS l z p w) (tP h.st) (oL h.reps) (Nat.le_trans kU hlen) (by have := hf.2.1; show 0 ≤ l.Counts ∧ l.Counts ≤ 1000; omega)
  have htl : t.length ≤ 1000 := by rw [h2.length_eq]; exact Nat.le_trans (List.length_filter_le _ _) (Nat.le_trans kU hlen)
  simp only [sX, decide_true, Bool.not_true, cond_false, aCl h.rest h.reps hlen (show w ≤ 1000 by omega), Option.bind_some, h1]
  have main := kX (fun k i s => lI t (t.length : Int) k i s) t (fun s r => s ++ [r.Id]) (fun s => pY s) [] ?_ ?_ BIG (dB (by omega))
  · refine Eq.trans main ?_
    rw [yX]
    unfold pY slices_Sort_int aCd
    rw [if_pos (by simp; omega), Option.bind_some, List.nil_append, aFp h2 (aGk h.st)]; rfl
  · intro k i hi s hs
    have hlt : decide ((i : Int) < (t.length : Int)) = true := decide_eq_true (by omega)
    have hsl : s.length ≤ i := by rw [hs, yX]; simp; omega
    simp only [lI, hlt, cond_true, dD hi, Option.bind_some, hY (show (s.length + [t[i].Id].length) * 8 ≤ 140737488355328 by simp; omega), cF (show i < 9223372036854775807 by omega)]
  · intro k s
    have hlt : decide ((t.length : Int) < (t.length : Int)) = false := decide_eq_false (by omega)
    simp only [lI, hlt, cond_false]
theorem aDl (a b : List Int) (ha : a.length ≤ 1000000) : iV a b = some (decide (a = b)) := by
  unfold iV
  by_cases hl : a.length = b.length
  · rw [decide_eq_true (show (a.length : Int) = (b.length : Int) by omega), Bool.not_true, cond_false]
    have main := jO (fun k i => fW a b k i) a.length (fun i => decide (a.getD i 0 = b.getD i 0)) (some false) (some true) (fun k i hi => by
      have hlt : decide ((i : Int) < (a.length : Int)) = true := decide_eq_true (by omega)
      have e1 : a.getD i 0 = a[i] := by simp [List.getD, List.getElem?_eq_getElem hi]
      have e2 : b.getD i 0 = b[i] := by simp [List.getD, List.getElem?_eq_getElem (show i < b.length by omega)]
      simp only [fW, hlt, cond_true, dD hi, dD (show i < b.length by omega), Option.bind_some, e1, e2, cF (show i < 9223372036854775807 by omega)]
      cases decide (a[i] = b[i]) <;> rfl) (fun k => by
      have hlt : decide ((a.length : Int) < (a.length : Int)) = false := decide_eq_false (by omega)
      simp only [fW, hlt, cond_false, mU]) BIG (dB (by omega))
    refine Eq.trans main ?_
    have : (List.range a.length).all (fun i => decide (a.getD i 0 = b.getD i 0)) = decide (a = b) := by
      rw [Bool.eq_iff_iff, List.all_eq_true, decide_eq_true_eq]
      constructor
      · intro h
        refine List.ext_getElem hl fun i h1 h2 => ?_
        have := h i (List.mem_range.2 h1)
        simpa [List.getD, List.getElem?_eq_getElem h1, List.getElem?_eq_getElem h2] using this
      · rintro rfl i _; simp
    rw [this]
    cases decide (a = b) <;> rfl
  · rw [decide_eq_false (show ¬ (a.length : Int) = (b.length : Int) by omega), decide_eq_false (fun h => hl (by rw [h]))]; rfl
/-- A ledger that a statement looks at. -/
structure Near (l : aM) : Prop where
  bd : Bd l
  pl : lJ l = 0 → l.Players ≤ 5
theorem Near.gl {l : aM} (h : Near l) {p w : Int} (ha : aFu l p w = 0) : ∃ z, GL l z ∧ qQ l p w = true ∧ l.Players ≤ 12 := by
  obtain ⟨h1, h2⟩ := aFv ha
  obtain ⟨z, hz⟩ := aGp h1
  exact ⟨z, hz, h2, by have := h.pl h1; omega⟩
end Go.Am
