/- The points. -/
import Derived.Test.YtaocljlhapoieaaRkPlain10
namespace Go.Am

theorem jI {α : Type} {p : α → Bool} {x : α} {l : List α} (h : x ∈ l.filter p) : x ∈ l := (List.mem_filter.1 h).1
def iS : List aD → Int
  | [] => 0
  | r :: t => r.Points + iS t
def jR (l : List aD) : Int := iS (l.filter fun r => r.Must)
theorem aBb {a b : List aD} (h : a.Perm b) : iS a = iS b := by
  induction h with
  | nil => rfl
  | cons x _ ih => simp only [iS, ih]
  | swap x y l => simp only [iS]; omega
  | trans _ _ h1 h2 => exact h1.trans h2
theorem nO {l : List aD} (h : ∀ r ∈ l, 0 ≤ r.Points ∧ r.Points ≤ 2000) : 0 ≤ iS l ∧ iS l ≤ 2000 * l.length := by
  induction l with
  | nil => simp [iS]
  | cons r l ih =>
    have h1 := ih fun x hx => h x (List.mem_cons_of_mem _ hx)
    have h2 := h r (by simp)
    simp only [iS, List.length_cons]
    omega
theorem vZ : ∀ (l : List aD) (n : Int), l.foldl (fun n r => n + r.Points) n = n + iS l
  | [], n => by simp [iS]
  | r :: l, n => by rw [List.foldl_cons, vZ l]; simp only [iS]; omega
theorem aIg (l : List aD) (h : ∀ r ∈ l, 0 ≤ r.Points ∧ r.Points ≤ 2000) (hb : l.length ≤ 1000000) : rW l = some (iS l) := by
  unfold rW
  have main := jN (fun k i n => nC l (l.length : Int) k n i) l (fun n r => n + r.Points) (fun n => some n) 0 ?_ ?_ BIG (dG (by omega))
  · rw [main, vZ]; simp
  · intro k i hi n hn
    have hlt : decide ((i : Int) < (l.length : Int)) = true := decide_eq_true (by omega)
    have h1 := nO (l := l.take i) fun r hr => h r (List.mem_of_mem_take hr)
    have h2 := h _ (List.getElem_mem hi)
    simp only [List.length_take] at h1
    rw [vZ] at hn
    simp only [nC, hlt, cond_true, dL hi, Option.bind_some, cN (show i < 9223372036854775807 by omega)]
    rw [cV (by omega) (by omega)]
  · intro k n
    have hlt : decide ((l.length : Int) < (l.length : Int)) = false := decide_eq_false (by omega)
    simp only [nC, hlt, cond_false, uQ]

/-- The points of a player in a week. -/
def uO (l : aR) (z : List aD) (p w : Int) : Int := iS (iT l.Counts (eA l z p w))
theorem nI {l : aR} {z : List aD} (hz : ∀ x ∈ z, tV l.Players x = true) {p w : Int} : ∀ x ∈ eA l z p w, okT x := fun x hx => by
  have := vV (hz x (jI hx))
  exact ⟨this.1, this.2.2.2⟩
theorem rR {l : aR} {z : List aD} (hz : z.Pairwise fun x y => x.Id < y.Id) {p w : Int} : (eA l z p w).Pairwise fun x y => x.Id < y.Id := hz.sublist List.filter_sublist
theorem kT {l : aR} {z : List aD} {p w : Int} : (eA l z p w).length ≤ z.length := List.length_filter_le _ _
theorem aHl {l : aR} {z : List aD} (hl : sZ l = true) (hz : ∀ x ∈ z, tV l.Players x = true) (hst : z.Pairwise fun x y => x.Id < y.Id) (hlen : z.length ≤ 1000) {p w : Int} (hw : 0 ≤ w) (hw1 : w ≤ 1000) : jK (gM l z) p w = some (uO l z p w) := by
  have hf := mN hl
  obtain ⟨t, h1, h2⟩ := aCg (gM l z) (eA l z p w) (rR hst) (nI hz) (Nat.le_trans kT hlen) (by have := hf.2.1; show 0 ≤ l.Counts ∧ l.Counts ≤ 1000; omega)
  have ht : ∀ r ∈ t, 0 ≤ r.Points ∧ r.Points ≤ 2000 := fun r hr => (nI hz r (jI (h2.mem_iff.1 hr))).2
  have htl : t.length ≤ 1000 := by rw [h2.length_eq]; exact Nat.le_trans (List.length_filter_le _ _) (Nat.le_trans kT hlen)
  unfold jK
  rw [aCf hl hz hlen hw1, Option.bind_some, h1, Option.bind_some, aIg t ht (by omega), Option.bind_some, aBb h2]; rfl

/-- The document's results that are taken. -/
theorem aGz (l : aR) (all : List aD) (hst : all.Pairwise fun x y => x.Id < y.Id) (hb : all.length ≤ 1000) (hC : 0 ≤ l.Counts ∧ l.Counts ≤ 1000) : gX all l BIG 0 0 = some (iT l.Counts all) := by
  have hm : ∀ (l : List aD) (n : Int), l.foldl (fun n r => bif r.Must then n + 1 else n) n = n + dP l := by
    intro l
    induction l with
    | nil => intro n; simp [dP]
    | cons x l ih =>
      intro n
      rw [List.foldl_cons, ih]
      unfold dP
      rw [List.filter_cons]
      cases x.Must <;> simp <;> omega
  have hml : dP all ≤ all.length := List.length_filter_le _ _
  have main := jN (fun k i n => gX all l k n i) all (fun n r => bif r.Must then n + 1 else n) (fun n => oB all n l) 0 ?_ ?_ BIG (dG (by omega))
  · rw [main, hm]
    unfold oB
    have e0 : (0 : Int) + (dP all : Int) = (dP all : Int) := by omega
    rw [e0]
    refine uM (fun k i s => gY all (dP all : Nat) l k i s) all (fun r => r.Must || decide ((lB all r : Int) < l.Counts - dP all)) (fun s => some s) (fun k i hi s hs => ?_) (fun k s => ?_) BIG (dG (by omega))
    · have hlt : decide ((i : Int) < (all.length : Int)) = true := decide_eq_true (by omega)
      have hsl : s.length ≤ i := by rw [hs]; exact Nat.le_trans (List.length_filter_le _ _) (by simp; omega)
      simp only [gY, hlt, cond_true]
      have hbt : ∀ (l : List aD) (n : Int), l.foldl (fun n q => bif (!q.Must && (decide (all[i].Points < q.Points) || (decide (q.Points = all[i].Points) && decide (q.Id < all[i].Id)))) then n + 1 else n) n = n + lB l all[i] := by
        intro l
        induction l with
        | nil => intro n; simp [lB]
        | cons x l ih =>
          intro n
          rw [List.foldl_cons, ih]
          unfold lB
          rw [List.filter_cons]
          cases (!x.Must && (decide (all[i].Points < x.Points) || (decide (x.Points = all[i].Points) && decide (x.Id < all[i].Id)))) <;> simp <;> omega
      have inner := jN (fun k4 q n => jD (gY all (dP all : Nat) l k) all (dP all : Nat) (i : Nat) l s k4 n q) all (fun n q => bif (!q.Must && (decide (all[i].Points < q.Points) || (decide (q.Points = all[i].Points) && decide (q.Id < all[i].Id)))) then n + 1 else n)
        (fun n => oD (gY all (dP all : Nat) l k) all (dP all : Nat) (i : Nat) n l s) 0 ?_ ?_ BIG (dG (by omega))
      · rw [inner, hbt]
        have e1 : (0 : Int) + (lB all all[i] : Int) = (lB all all[i] : Int) := by omega
        have e2 : w64 (l.Counts - (dP all : Int)) = l.Counts - (dP all : Int) := cV (by omega) (by omega)
        rw [e1]
        unfold oD oC
        rw [dL hi, Option.bind_some, e2, fP, Option.bind_some, Option.bind_some, kS (by simp; omega), Option.bind_some, cN (by omega)]
        cases (all[i].Must || decide ((lB all all[i] : Int) < l.Counts - (dP all : Int))) <;> rfl
      · intro k4 q hq n hn
        have hlt2 : decide ((q : Int) < (all.length : Int)) = true := decide_eq_true (by omega)
        have hbl : lB (all.take q) all[i] ≤ q := Nat.le_trans (List.length_filter_le _ _) (by simp; omega)
        rw [hbt] at hn
        have hid : decide ((q : Int) < (i : Int)) = decide (all[q].Id < all[i].Id) := by
          rw [decide_eq_decide]
          have h1 := List.pairwise_iff_getElem.1 hst
          constructor
          · intro h; exact h1 q i hq hi (by omega)
          · intro h
            rcases Nat.lt_trichotomy q i with h2 | h2 | h2
            · omega
            · subst h2; omega
            · have := h1 i q hi hq h2; omega
        simp only [jD, hlt2, cond_true, dL hq, dL hi, Option.bind_some, gL, fP, hid, cN (show q < 9223372036854775807 by omega)]
        cases (!all[q].Must && (decide (all[i].Points < all[q].Points) || (decide (all[q].Points = all[i].Points) && decide (all[q].Id < all[i].Id))))
        · rfl
        · simp only [cond_true]; rw [cV (by omega) (by omega)]
      · intro k4 n
        have hlt2 : decide ((all.length : Int) < (all.length : Int)) = false := decide_eq_false (by omega)
        simp only [jD, hlt2, cond_false]
    · have hlt : decide ((all.length : Int) < (all.length : Int)) = false := decide_eq_false (by omega)
      simp only [gY, hlt, cond_false, rN]
  · intro k i hi n hn
    have hlt : decide ((i : Int) < (all.length : Int)) = true := decide_eq_true (by omega)
    have hmi : dP (all.take i) ≤ i := Nat.le_trans (List.length_filter_le _ _) (by simp; omega)
    rw [hm] at hn
    simp only [gX, hlt, cond_true, dL hi, Option.bind_some, cN (show i < 9223372036854775807 by omega)]
    cases all[i].Must
    · rfl
    · simp only [cond_true]; rw [cV (by omega) (by omega)]
  · intro k n
    have hlt : decide ((all.length : Int) < (all.length : Int)) = false := decide_eq_false (by omega)
    simp only [gX, hlt, cond_false]
theorem GD.taken {l : aR} {z : List aD} (h : GD l z) {p w : Int} (hw : 0 ≤ w) (hw1 : w ≤ 1000) : qF l p w = some (iT l.Counts (eA l z p w)) := by
  unfold qF
  rw [h.count hw hw1, Option.bind_some]
  have := h.len
  exact aGz l _ (rR h.st) (Nat.le_trans kT (by omega)) (by have := (mN h.rest).2.1; omega)
theorem aEg (C : Int) (all : List aD) : jR (iT C all) = jR all := by
  unfold jR iT
  rw [List.filter_filter]
  congr 1
  exact List.filter_congr fun r _ => by cases r.Must <;> simp
theorem GD.points {l : aR} {z : List aD} (h : GD l z) {p w : Int} (hw : 0 ≤ w) (hw1 : w ≤ 1000) : nE l p w = some (uO l z p w, jR (eA l z p w)) := by
  unfold nE
  rw [h.taken hw hw1, Option.bind_some]
  obtain ⟨t, ht⟩ : ∃ t, t = iT l.Counts (eA l z p w) := ⟨_, rfl⟩
  have hp : ∀ r ∈ t, 0 ≤ r.Points ∧ r.Points ≤ 2000 := fun r hr => (nI h.reps r (jI (ht ▸ hr))).2
  have hlen : t.length ≤ 1000 := by rw [ht]; exact Nat.le_trans (List.length_filter_le _ _) (Nat.le_trans kT (Nat.le_trans h.len (by omega)))
  have hf : ∀ (l : List aD) (s : Int × Int), l.foldl (fun s r => (s.1 + r.Points, bif r.Must then s.2 + r.Points else s.2)) s = (s.1 + iS l, s.2 + jR l) := by
    intro l
    induction l with
    | nil => intro s; simp [iS, jR]
    | cons x l ih =>
      intro s
      rw [List.foldl_cons, ih]
      unfold jR
      rw [List.filter_cons]
      cases x.Must <;> simp [iS] <;> omega
  have main := jN (S := Int × Int) (fun k i s => iP t k s.1 s.2 i) t (fun s r => (s.1 + r.Points, bif r.Must then s.2 + r.Points else s.2)) (fun s => some s) (0, 0) ?_ ?_ BIG (dG (by omega))
  · rw [← ht]
    refine Eq.trans main ?_
    rw [hf]
    unfold uO
    have hmt : jR t = jR (eA l z p w) := by rw [ht, aEg]
    rw [← ht, hmt]
    simp
  · intro k i hi s hs
    have hlt : decide ((i : Int) < (t.length : Int)) = true := decide_eq_true (by omega)
    have h1 := nO (l := t.take i) fun r hr => hp r (List.mem_of_mem_take hr)
    have h3 := nO (l := (t.take i).filter fun r => r.Must) fun r hr => hp r (List.mem_of_mem_take (jI hr))
    have h4 := List.length_filter_le (fun r : aD => r.Must) (t.take i)
    have h2 := hp _ (List.getElem_mem hi)
    simp only [List.length_take] at h1 h4
    rw [hf] at hs
    subst hs
    simp only [iP, hlt, cond_true, dL hi, Option.bind_some, cN (show i < 9223372036854775807 by omega)]
    have e1 : w64 (0 + iS (t.take i) + t[i].Points) = 0 + iS (t.take i) + t[i].Points := cV (by omega) (by omega)
    have e2 : w64 (0 + jR (t.take i) + t[i].Points) = 0 + jR (t.take i) + t[i].Points := cV (by unfold jR; omega) (by unfold jR; omega)
    rw [e1, e2]
    cases t[i].Must <;> rfl
  · intro k s
    have hlt : decide ((t.length : Int) < (t.length : Int)) = false := decide_eq_false (by omega)
    simp only [iP, hlt, cond_false, qS]
end Go.Am
