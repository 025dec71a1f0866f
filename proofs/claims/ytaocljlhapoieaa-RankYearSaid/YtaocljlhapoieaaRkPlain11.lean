/- The points. -/
import Derived.Test.YtaocljlhapoieaaRkPlain10
namespace Go.Am

theorem lG {α : Type} {p : α → Bool} {x : α} {l : List α} (h : x ∈ l.filter p) : x ∈ l := (List.mem_filter.1 h).1
def lV : List aB → Int
  | [] => 0
  | r :: t => r.Points + lV t
def jL (l : List aB) : Int := lV (l.filter fun r => r.Must)
theorem aFj {a b : List aB} (h : a.Perm b) : lV a = lV b := by
  induction h with
  | nil => rfl
  | cons x _ ih => simp only [lV, ih]
  | swap x y l => simp only [lV]; omega
  | trans _ _ h1 h2 => exact h1.trans h2
theorem pB {l : List aB} (h : ∀ r ∈ l, 0 ≤ r.Points ∧ r.Points ≤ 2000) : 0 ≤ lV l ∧ lV l ≤ 2000 * l.length := by
  induction l with
  | nil => simp [lV]
  | cons r l ih =>
    have h1 := ih fun x hx => h x (List.mem_cons_of_mem _ hx)
    have h2 := h r (by simp)
    simp only [lV, List.length_cons]
    omega
theorem wA : ∀ (l : List aB) (n : Int), l.foldl (fun n r => n + r.Points) n = n + lV l
  | [], n => by simp [lV]
  | r :: l, n => by rw [List.foldl_cons, wA l]; simp only [lV]; omega
theorem aIr (l : List aB) (h : ∀ r ∈ l, 0 ≤ r.Points ∧ r.Points ≤ 2000) (hb : l.length ≤ 1000000) : rW l = some (lV l) := by
  unfold rW
  have main := iX (fun k i n => mZ l (l.length : Int) k n i) l (fun n r => n + r.Points) (fun n => some n) 0 ?_ ?_ BIG (dA (by omega))
  · rw [main, wA]; simp
  · intro k i hi n hn
    have hlt : decide ((i : Int) < (l.length : Int)) = true := decide_eq_true (by omega)
    have h1 := pB (l := l.take i) fun r hr => h r (List.mem_of_mem_take hr)
    have h2 := h _ (List.getElem_mem hi)
    simp only [List.length_take] at h1
    rw [wA] at hn
    simp only [mZ, hlt, cond_true, dF hi, Option.bind_some, cJ (show i < 9223372036854775807 by omega)]
    rw [cR (by omega) (by omega)]
  · intro k n
    have hlt : decide ((l.length : Int) < (l.length : Int)) = false := decide_eq_false (by omega)
    simp only [mZ, hlt, cond_false, uS]

/-- The points of a player in a week. -/
def yT (l : aM) (z : List aB) (p w : Int) : Int := lV (kD l.Counts (dS l z p w))
theorem qD {l : aM} {z : List aB} (hz : ∀ x ∈ z, uT l.Players x = true) {p w : Int} : ∀ x ∈ dS l z p w, okT x := fun x hx => by
  have := rC (hz x (lG hx))
  exact ⟨this.1, this.2.2.2⟩
theorem tM {l : aM} {z : List aB} (hz : z.Pairwise fun x y => x.Id < y.Id) {p w : Int} : (dS l z p w).Pairwise fun x y => x.Id < y.Id := hz.sublist List.filter_sublist
theorem mG {l : aM} {z : List aB} {p w : Int} : (dS l z p w).length ≤ z.length := List.length_filter_le _ _
/-- The document's results that are taken. -/
theorem aHb (l : aM) (all : List aB) (hst : all.Pairwise fun x y => x.Id < y.Id) (hb : all.length ≤ 1000) (hC : 0 ≤ l.Counts ∧ l.Counts ≤ 1000) : gY all l BIG 0 0 = some (kD l.Counts all) := by
  have hm : ∀ (l : List aB) (n : Int), l.foldl (fun n r => bif r.Must then n + 1 else n) n = n + dZ l := by
    intro l
    induction l with
    | nil => intro n; simp [dZ]
    | cons x l ih =>
      intro n
      rw [List.foldl_cons, ih]
      unfold dZ
      rw [List.filter_cons]
      cases x.Must <;> simp <;> omega
  have hml : dZ all ≤ all.length := List.length_filter_le _ _
  have main := iX (fun k i n => gY all l k n i) all (fun n r => bif r.Must then n + 1 else n) (fun n => nZ all n l) 0 ?_ ?_ BIG (dA (by omega))
  · rw [main, hm]
    unfold nZ
    have e0 : (0 : Int) + (dZ all : Int) = (dZ all : Int) := by omega
    rw [e0]
    refine uP (fun k i s => gZ all (dZ all : Nat) l k i s) all (fun r => r.Must || decide ((nE all r : Int) < l.Counts - dZ all)) (fun s => some s) (fun k i hi s hs => ?_) (fun k s => ?_) BIG (dA (by omega))
    · have hlt : decide ((i : Int) < (all.length : Int)) = true := decide_eq_true (by omega)
      have hsl : s.length ≤ i := by rw [hs]; exact Nat.le_trans (List.length_filter_le _ _) (by simp; omega)
      simp only [gZ, hlt, cond_true]
      have hbt : ∀ (l : List aB) (n : Int), l.foldl (fun n q => bif (!q.Must && (decide (all[i].Points < q.Points) || (decide (q.Points = all[i].Points) && decide (q.Id < all[i].Id)))) then n + 1 else n) n = n + nE l all[i] := by
        intro l
        induction l with
        | nil => intro n; simp [nE]
        | cons x l ih =>
          intro n
          rw [List.foldl_cons, ih]
          unfold nE
          rw [List.filter_cons]
          cases (!x.Must && (decide (all[i].Points < x.Points) || (decide (x.Points = all[i].Points) && decide (x.Id < all[i].Id)))) <;> simp <;> omega
      have inner := iX (fun k4 q n => jA (gZ all (dZ all : Nat) l k) all (dZ all : Nat) (i : Nat) l s k4 n q) all (fun n q => bif (!q.Must && (decide (all[i].Points < q.Points) || (decide (q.Points = all[i].Points) && decide (q.Id < all[i].Id)))) then n + 1 else n)
        (fun n => oB (gZ all (dZ all : Nat) l k) all (dZ all : Nat) (i : Nat) n l s) 0 ?_ ?_ BIG (dA (by omega))
      · rw [inner, hbt]
        have e1 : (0 : Int) + (nE all all[i] : Int) = (nE all all[i] : Int) := by omega
        have e2 : w64 (l.Counts - (dZ all : Int)) = l.Counts - (dZ all : Int) := cR (by omega) (by omega)
        rw [e1]
        unfold oB oA
        rw [dF hi, Option.bind_some, e2, fX, Option.bind_some, Option.bind_some, jG (by simp; omega), Option.bind_some, cJ (by omega)]
        cases (all[i].Must || decide ((nE all all[i] : Int) < l.Counts - (dZ all : Int))) <;> rfl
      · intro k4 q hq n hn
        have hlt2 : decide ((q : Int) < (all.length : Int)) = true := decide_eq_true (by omega)
        have hbl : nE (all.take q) all[i] ≤ q := Nat.le_trans (List.length_filter_le _ _) (by simp; omega)
        rw [hbt] at hn
        have hid : decide ((q : Int) < (i : Int)) = decide (all[q].Id < all[i].Id) := by
          rw [decide_eq_decide]
          have h1 := List.pairwise_iff_getElem.1 hst
          constructor
          · intro h; exact h1 q i hq hi (by omega)
          · intro h
            rcases Nat.lt_trichotomy q i with h2 | h2 | h2
            · omega
            · subst h2; omega
            · have := h1 i q hi hq h2; omega
        simp only [jA, hlt2, cond_true, dF hq, dF hi, Option.bind_some, gC, fX, hid, cJ (show q < 9223372036854775807 by omega)]
        cases (!all[q].Must && (decide (all[i].Points < all[q].Points) || (decide (all[q].Points = all[i].Points) && decide (all[q].Id < all[i].Id))))
        · rfl
        · simp only [cond_true]; rw [cR (by omega) (by omega)]
      · intro k4 n
        have hlt2 : decide ((all.length : Int) < (all.length : Int)) = false := decide_eq_false (by omega)
        simp only [jA, hlt2, cond_false]
    · have hlt : decide ((all.length : Int) < (all.length : Int)) = false := decide_eq_false (by omega)
      simp only [gZ, hlt, cond_false, rM]
  · intro k i hi n hn
    have hlt : decide ((i : Int) < (all.length : Int)) = true := decide_eq_true (by omega)
    have hmi : dZ (all.take i) ≤ i := Nat.le_trans (List.length_filter_le _ _) (by simp; omega)
    rw [hm] at hn
    simp only [gY, hlt, cond_true, dF hi, Option.bind_some, cJ (show i < 9223372036854775807 by omega)]
    cases all[i].Must
    · rfl
    · simp only [cond_true]; rw [cR (by omega) (by omega)]
  · intro k n
    have hlt : decide ((all.length : Int) < (all.length : Int)) = false := decide_eq_false (by omega)
    simp only [gY, hlt, cond_false]
theorem GD.taken {l : aM} {z : List aB} (h : GD l z) {p w : Int} (hw : 0 ≤ w) (hw1 : w ≤ 1000) : qE l p w = some (kD l.Counts (dS l z p w)) := by
  unfold qE
  rw [h.count hw hw1, Option.bind_some]
  have := h.len
  exact aHb l _ (tM h.st) (Nat.le_trans mG (by omega)) (by have := (mN h.rest).2.1; omega)
theorem aEd (C : Int) (all : List aB) : jL (kD C all) = jL all := by
  unfold jL kD
  rw [List.filter_filter]
  congr 1
  exact List.filter_congr fun r _ => by cases r.Must <;> simp
theorem GD.points {l : aM} {z : List aB} (h : GD l z) {p w : Int} (hw : 0 ≤ w) (hw1 : w ≤ 1000) : nB l p w = some (yT l z p w, jL (dS l z p w)) := by
  unfold nB
  rw [h.taken hw hw1, Option.bind_some]
  obtain ⟨t, ht⟩ : ∃ t, t = kD l.Counts (dS l z p w) := ⟨_, rfl⟩
  have hp : ∀ r ∈ t, 0 ≤ r.Points ∧ r.Points ≤ 2000 := fun r hr => (qD h.reps r (lG (ht ▸ hr))).2
  have hlen : t.length ≤ 1000 := by rw [ht]; exact Nat.le_trans (List.length_filter_le _ _) (Nat.le_trans mG (Nat.le_trans h.len (by omega)))
  have hf : ∀ (l : List aB) (s : Int × Int), l.foldl (fun s r => (s.1 + r.Points, bif r.Must then s.2 + r.Points else s.2)) s = (s.1 + lV l, s.2 + jL l) := by
    intro l
    induction l with
    | nil => intro s; simp [lV, jL]
    | cons x l ih =>
      intro s
      rw [List.foldl_cons, ih]
      unfold jL
      rw [List.filter_cons]
      cases x.Must <;> simp [lV] <;> omega
  have main := iX (S := Int × Int) (fun k i s => iL t k s.1 s.2 i) t (fun s r => (s.1 + r.Points, bif r.Must then s.2 + r.Points else s.2)) (fun s => some s) (0, 0) ?_ ?_ BIG (dA (by omega))
  · rw [← ht]
    refine Eq.trans main ?_
    rw [hf]
    unfold yT
    have hmt : jL t = jL (dS l z p w) := by rw [ht, aEd]
    rw [← ht, hmt]
    simp
  · intro k i hi s hs
    have hlt : decide ((i : Int) < (t.length : Int)) = true := decide_eq_true (by omega)
    have h1 := pB (l := t.take i) fun r hr => hp r (List.mem_of_mem_take hr)
    have h3 := pB (l := (t.take i).filter fun r => r.Must) fun r hr => hp r (List.mem_of_mem_take (lG hr))
    have h4 := List.length_filter_le (fun r : aB => r.Must) (t.take i)
    have h2 := hp _ (List.getElem_mem hi)
    simp only [List.length_take] at h1 h4
    rw [hf] at hs
    subst hs
    simp only [iL, hlt, cond_true, dF hi, Option.bind_some, cJ (show i < 9223372036854775807 by omega)]
    have e1 : w64 (0 + lV (t.take i) + t[i].Points) = 0 + lV (t.take i) + t[i].Points := cR (by omega) (by omega)
    have e2 : w64 (0 + jL (t.take i) + t[i].Points) = 0 + jL (t.take i) + t[i].Points := cR (by unfold jL; omega) (by unfold jL; omega)
    rw [e1, e2]
    cases t[i].Must <;> rfl
  · intro k s
    have hlt : decide ((t.length : Int) < (t.length : Int)) = false := decide_eq_false (by omega)
    simp only [iL, hlt, cond_false, qS]
end Go.Am
