/- The points. -/
import Derived.Test.YtaocljlhapoieaaGreatRzPlain10
namespace Go.Am

theorem tG {α : Type} {p : α → Bool} {x : α} {l : List α} (h : x ∈ l.filter p) : x ∈ l := (List.mem_filter.1 h).1
def nP : List aD → Int
  | [] => 0
  | r :: t => r.Points + nP t
def oR (l : List aD) : Int := nP (l.filter fun r => r.Must)
theorem aFp {a b : List aD} (h : a.Perm b) : nP a = nP b := by
  induction h with
  | nil => rfl
  | cons x _ ih => simp only [nP, ih]
  | swap x y l => simp only [nP]; omega
  | trans _ _ h1 h2 => exact h1.trans h2
theorem wB {l : List aD} (h : ∀ r ∈ l, 0 ≤ r.Points ∧ r.Points ≤ 2000) : 0 ≤ nP l ∧ nP l ≤ 2000 * l.length := by
  induction l with
  | nil => simp [nP]
  | cons r l ih =>
    have h1 := ih fun x hx => h x (List.mem_cons_of_mem _ hx)
    have h2 := h r (by simp)
    simp only [nP, List.length_cons]
    omega
theorem wA : ∀ (l : List aD) (n : Int), l.foldl (fun n r => n + r.Points) n = n + nP l
  | [], n => by simp [nP]
  | r :: l, n => by rw [List.foldl_cons, wA l]; simp only [nP]; omega
theorem aIw (l : List aD) (h : ∀ r ∈ l, 0 ≤ r.Points ∧ r.Points ≤ 2000) (hb : l.length ≤ 1000000) : sB l = some (nP l) := by
  unfold sB
  have main := mJ (fun k i n => nC l (l.length : Int) k n i) l (fun n r => n + r.Points) (fun n => some n) 0 ?_ ?_ BIG (dO (by omega))
  · rw [main, wA]; simp
  · intro k i hi n hn
    have hlt : decide ((i : Int) < (l.length : Int)) = true := decide_eq_true (by omega)
    have h1 := wB (l := l.take i) fun r hr => h r (List.mem_of_mem_take hr)
    have h2 := h _ (List.getElem_mem hi)
    simp only [List.length_take] at h1
    rw [wA] at hn
    simp only [nC, hlt, cond_true, dD hi, Option.bind_some, cU (show i < 9223372036854775807 by omega)]
    rw [dC (by omega) (by omega)]
  · intro k n
    have hlt : decide ((l.length : Int) < (l.length : Int)) = false := decide_eq_false (by omega)
    simp only [nC, hlt, cond_false, uU]

/-- The points of a player in a week. -/
def aAc (l : aS) (z : List aD) (p w : Int) : Int := nP (oF l.Counts (jD l z p w))
theorem vM {l : aS} {z : List aD} (hz : ∀ x ∈ z, uV l.Players x = true) {p w : Int} : ∀ x ∈ jD l z p w, okT x := fun x hx => by
  have := tH (hz x (tG hx))
  exact ⟨this.1, this.2.2.2⟩
theorem vN {l : aS} {z : List aD} (hz : z.Pairwise fun x y => x.Id < y.Id) {p w : Int} : (jD l z p w).Pairwise fun x y => x.Id < y.Id := hz.sublist List.filter_sublist
theorem nQ {l : aS} {z : List aD} {p w : Int} : (jD l z p w).length ≤ z.length := List.length_filter_le _ _
theorem aHt {l : aS} {z : List aD} (hl : uN l = true) (hz : ∀ x ∈ z, uV l.Players x = true) (hst : z.Pairwise fun x y => x.Id < y.Id) (hlen : z.length ≤ 1000) {p w : Int} (hw : 0 ≤ w) (hw1 : w ≤ 1000) : jK (nN l z) p w = some (aAc l z p w) := by
  have hf := pK hl
  obtain ⟨t, h1, h2⟩ := aFj (nN l z) (jD l z p w) (vN hst) (vM hz) (Nat.le_trans nQ hlen) (by have := hf.2.1; show 0 ≤ l.Counts ∧ l.Counts ≤ 1000; omega)
  have ht : ∀ r ∈ t, 0 ≤ r.Points ∧ r.Points ≤ 2000 := fun r hr => (vM hz r (tG (h2.mem_iff.1 hr))).2
  have htl : t.length ≤ 1000 := by rw [h2.length_eq]; exact Nat.le_trans (List.length_filter_le _ _) (Nat.le_trans nQ hlen)
  unfold jK
  rw [aFh hl hz hlen hw1, Option.bind_some, h1, Option.bind_some, aIw t ht (by omega), Option.bind_some, aFp h2]; rfl

/-- The document's results that are taken. -/
theorem aHg (l : aS) (all : List aD) (hst : all.Pairwise fun x y => x.Id < y.Id) (hb : all.length ≤ 1000) (hC : 0 ≤ l.Counts ∧ l.Counts ≤ 1000) : fK all l BIG 0 0 = some (oF l.Counts all) := by
  have hm : ∀ (l : List aD) (n : Int), l.foldl (fun n r => bif r.Must then n + 1 else n) n = n + eM l := by
    intro l
    induction l with
    | nil => intro n; simp [eM]
    | cons x l ih =>
      intro n
      rw [List.foldl_cons, ih]
      unfold eM
      rw [List.filter_cons]
      cases x.Must <;> simp <;> omega
  have hml : eM all ≤ all.length := List.length_filter_le _ _
  have main := mJ (fun k i n => fK all l k n i) all (fun n r => bif r.Must then n + 1 else n) (fun n => lU all n l) 0 ?_ ?_ BIG (dO (by omega))
  · rw [main, hm]
    unfold lU
    have e0 : (0 : Int) + (eM all : Int) = (eM all : Int) := by omega
    rw [e0]
    refine uR (fun k i s => eY all (eM all : Nat) l k i s) all (fun r => r.Must || decide ((nM all r : Int) < l.Counts - eM all)) (fun s => some s) (fun k i hi s hs => ?_) (fun k s => ?_) BIG (dO (by omega))
    · have hlt : decide ((i : Int) < (all.length : Int)) = true := decide_eq_true (by omega)
      have hsl : s.length ≤ i := by rw [hs]; exact Nat.le_trans (List.length_filter_le _ _) (by simp; omega)
      simp only [eY, hlt, cond_true]
      have hbt : ∀ (l : List aD) (n : Int), l.foldl (fun n q => bif (!q.Must && (decide (all[i].Points < q.Points) || (decide (q.Points = all[i].Points) && decide (q.Id < all[i].Id)))) then n + 1 else n) n = n + nM l all[i] := by
        intro l
        induction l with
        | nil => intro n; simp [nM]
        | cons x l ih =>
          intro n
          rw [List.foldl_cons, ih]
          unfold nM
          rw [List.filter_cons]
          cases (!x.Must && (decide (all[i].Points < x.Points) || (decide (x.Points = all[i].Points) && decide (x.Id < all[i].Id)))) <;> simp <;> omega
      have inner := mJ (fun k4 q n => gB (eY all (eM all : Nat) l k) all (eM all : Nat) (i : Nat) l s k4 n q) all (fun n q => bif (!q.Must && (decide (all[i].Points < q.Points) || (decide (q.Points = all[i].Points) && decide (q.Id < all[i].Id)))) then n + 1 else n)
        (fun n => lV (eY all (eM all : Nat) l k) all (eM all : Nat) (i : Nat) n l s) 0 ?_ ?_ BIG (dO (by omega))
      · rw [inner, hbt]
        have e1 : (0 : Int) + (nM all all[i] : Int) = (nM all all[i] : Int) := by omega
        have e2 : w64 (l.Counts - (eM all : Int)) = l.Counts - (eM all : Int) := dC (by omega) (by omega)
        rw [e1]
        unfold lV kI
        rw [dD hi, Option.bind_some, e2, gA, Option.bind_some, Option.bind_some, nL (by simp; omega), Option.bind_some, cU (by omega)]
        cases (all[i].Must || decide ((nM all all[i] : Int) < l.Counts - (eM all : Int))) <;> rfl
      · intro k4 q hq n hn
        have hlt2 : decide ((q : Int) < (all.length : Int)) = true := decide_eq_true (by omega)
        have hbl : nM (all.take q) all[i] ≤ q := Nat.le_trans (List.length_filter_le _ _) (by simp; omega)
        rw [hbt] at hn
        have hid : decide ((q : Int) < (i : Int)) = decide (all[q].Id < all[i].Id) := by
          rw [decide_eq_decide]
          have h1 := List.pairwise_iff_getElem.1 hst
          constructor
          · intro h; exact h1 q i hq hi (by omega)
          · intro h
            rcases Nat.lt_trichotomy q i with h2 | h2 | h2
            · omega
            · subst h2; omega
            · have := h1 i q hi hq h2; omega
        simp only [gB, hlt2, cond_true, dD hq, dD hi, Option.bind_some, gL, gA, hid, cU (show q < 9223372036854775807 by omega)]
        cases (!all[q].Must && (decide (all[i].Points < all[q].Points) || (decide (all[q].Points = all[i].Points) && decide (all[q].Id < all[i].Id))))
        · rfl
        · simp only [cond_true]; rw [dC (by omega) (by omega)]
      · intro k4 n
        have hlt2 : decide ((all.length : Int) < (all.length : Int)) = false := decide_eq_false (by omega)
        simp only [gB, hlt2, cond_false]
    · have hlt : decide ((all.length : Int) < (all.length : Int)) = false := decide_eq_false (by omega)
      simp only [eY, hlt, cond_false, oM]
  · intro k i hi n hn
    have hlt : decide ((i : Int) < (all.length : Int)) = true := decide_eq_true (by omega)
    have hmi : eM (all.take i) ≤ i := Nat.le_trans (List.length_filter_le _ _) (by simp; omega)
    rw [hm] at hn
    simp only [fK, hlt, cond_true, dD hi, Option.bind_some, cU (show i < 9223372036854775807 by omega)]
    cases all[i].Must
    · rfl
    · simp only [cond_true]; rw [dC (by omega) (by omega)]
  · intro k n
    have hlt : decide ((all.length : Int) < (all.length : Int)) = false := decide_eq_false (by omega)
    simp only [fK, hlt, cond_false]
theorem GD.taken {l : aS} {z : List aD} (h : GD l z) {p w : Int} (hw : 0 ≤ w) (hw1 : w ≤ 1000) : jI l p w = some (oF l.Counts (jD l z p w)) := by
  unfold jI
  rw [h.count hw hw1, Option.bind_some]
  have := h.len
  exact aHg l _ (vN h.st) (Nat.le_trans nQ (by omega)) (by have := (pK h.rest).2.1; omega)
theorem aEf (C : Int) (all : List aD) : oR (oF C all) = oR all := by
  unfold oR oF
  rw [List.filter_filter]
  congr 1
  exact List.filter_congr fun r _ => by cases r.Must <;> simp
theorem GD.points {l : aS} {z : List aD} (h : GD l z) {p w : Int} (hw : 0 ≤ w) (hw1 : w ≤ 1000) : lD l p w = some (aAc l z p w, oR (jD l z p w)) := by
  unfold lD
  rw [h.taken hw hw1, Option.bind_some]
  obtain ⟨t, ht⟩ : ∃ t, t = oF l.Counts (jD l z p w) := ⟨_, rfl⟩
  have hp : ∀ r ∈ t, 0 ≤ r.Points ∧ r.Points ≤ 2000 := fun r hr => (vM h.reps r (tG (ht ▸ hr))).2
  have hlen : t.length ≤ 1000 := by rw [ht]; exact Nat.le_trans (List.length_filter_le _ _) (Nat.le_trans nQ (Nat.le_trans h.len (by omega)))
  have hf : ∀ (l : List aD) (s : Int × Int), l.foldl (fun s r => (s.1 + r.Points, bif r.Must then s.2 + r.Points else s.2)) s = (s.1 + nP l, s.2 + oR l) := by
    intro l
    induction l with
    | nil => intro s; simp [nP, oR]
    | cons x l ih =>
      intro s
      rw [List.foldl_cons, ih]
      unfold oR
      rw [List.filter_cons]
      cases x.Must <;> simp [nP] <;> omega
  have main := mJ (S := Int × Int) (fun k i s => fS t k s.1 s.2 i) t (fun s r => (s.1 + r.Points, bif r.Must then s.2 + r.Points else s.2)) (fun s => some s) (0, 0) ?_ ?_ BIG (dO (by omega))
  · rw [← ht]
    refine Eq.trans main ?_
    rw [hf]
    unfold aAc
    have hmt : oR t = oR (jD l z p w) := by rw [ht, aEf]
    rw [← ht, hmt]
    simp
  · intro k i hi s hs
    have hlt : decide ((i : Int) < (t.length : Int)) = true := decide_eq_true (by omega)
    have h1 := wB (l := t.take i) fun r hr => hp r (List.mem_of_mem_take hr)
    have h3 := wB (l := (t.take i).filter fun r => r.Must) fun r hr => hp r (List.mem_of_mem_take (tG hr))
    have h4 := List.length_filter_le (fun r : aD => r.Must) (t.take i)
    have h2 := hp _ (List.getElem_mem hi)
    simp only [List.length_take] at h1 h4
    rw [hf] at hs
    subst hs
    simp only [fS, hlt, cond_true, dD hi, Option.bind_some, cU (show i < 9223372036854775807 by omega)]
    have e1 : w64 (0 + nP (t.take i) + t[i].Points) = 0 + nP (t.take i) + t[i].Points := dC (by omega) (by omega)
    have e2 : w64 (0 + oR (t.take i) + t[i].Points) = 0 + oR (t.take i) + t[i].Points := dC (by unfold oR; omega) (by unfold oR; omega)
    rw [e1, e2]
    cases t[i].Must <;> rfl
  · intro k s
    have hlt : decide ((t.length : Int) < (t.length : Int)) = false := decide_eq_false (by omega)
    simp only [fS, hlt, cond_false, nS]
theorem aIg {l : aS} {z : List aD} (h : GL l z) {p w : Int} (hw : 0 ≤ w) (hw1 : w ≤ 1000) : jI l p w = some (oF l.Counts (jD l z p w)) := h.gd.taken hw hw1
end Go.Am
