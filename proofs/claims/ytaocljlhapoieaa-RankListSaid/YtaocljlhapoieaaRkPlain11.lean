/- The points. -/
import Derived.Test.YtaocljlhapoieaaRkPlain10
namespace Go.Am

theorem kU {α : Type} {p : α → Bool} {x : α} {l : List α} (h : x ∈ l.filter p) : x ∈ l := (List.mem_filter.1 h).1
def gJ : List aC → Int
  | [] => 0
  | r :: t => r.Points + gJ t
def jT (l : List aC) : Int := gJ (l.filter fun r => r.Must)
theorem xY {a b : List aC} (h : a.Perm b) : gJ a = gJ b := by
  induction h with
  | nil => rfl
  | cons x _ ih => simp only [gJ, ih]
  | swap x y l => simp only [gJ]; omega
  | trans _ _ h1 h2 => exact h1.trans h2
theorem pO {l : List aC} (h : ∀ r ∈ l, 0 ≤ r.Points ∧ r.Points ≤ 2000) : 0 ≤ gJ l ∧ gJ l ≤ 2000 * l.length := by
  induction l with
  | nil => simp [gJ]
  | cons r l ih =>
    have h1 := ih fun x hx => h x (List.mem_cons_of_mem _ hx)
    have h2 := h r (by simp)
    simp only [gJ, List.length_cons]
    omega
theorem wJ : ∀ (l : List aC) (n : Int), l.foldl (fun n r => n + r.Points) n = n + gJ l
  | [], n => by simp [gJ]
  | r :: l, n => by rw [List.foldl_cons, wJ l]; simp only [gJ]; omega
theorem aIq (l : List aC) (h : ∀ r ∈ l, 0 ≤ r.Points ∧ r.Points ≤ 2000) (hb : l.length ≤ 1000000) : rY l = some (gJ l) := by
  unfold rY
  have main := kD (fun k i n => nL l (l.length : Int) k n i) l (fun n r => n + r.Points) (fun n => some n) 0 ?_ ?_ BIG (dD (by omega))
  · rw [main, wJ]; simp
  · intro k i hi n hn
    have hlt : decide ((i : Int) < (l.length : Int)) = true := decide_eq_true (by omega)
    have h1 := pO (l := l.take i) fun r hr => h r (List.mem_of_mem_take hr)
    have h2 := h _ (List.getElem_mem hi)
    simp only [List.length_take] at h1
    rw [wJ] at hn
    simp only [nL, hlt, cond_true, dK hi, Option.bind_some, cP (show i < 9223372036854775807 by omega)]
    rw [cW (by omega) (by omega)]
  · intro k n
    have hlt : decide ((l.length : Int) < (l.length : Int)) = false := decide_eq_false (by omega)
    simp only [nL, hlt, cond_false, vB]

/-- The points of a player in a week. -/
def lR (l : aP) (z : List aC) (p w : Int) : Int := gJ (jW l.Counts (dZ l z p w))
theorem oV {l : aP} {z : List aC} (hz : ∀ x ∈ z, rZ l.Players x = true) {p w : Int} : ∀ x ∈ dZ l z p w, okT x := fun x hx => by
  have := wF (hz x (kU hx))
  exact ⟨this.1, this.2.2.2⟩
theorem tR {l : aP} {z : List aC} (hz : z.Pairwise fun x y => x.Id < y.Id) {p w : Int} : (dZ l z p w).Pairwise fun x y => x.Id < y.Id := hz.sublist List.filter_sublist
theorem mN {l : aP} {z : List aC} {p w : Int} : (dZ l z p w).length ≤ z.length := List.length_filter_le _ _
theorem aHt {l : aP} {z : List aC} (hl : sF l = true) (hz : ∀ x ∈ z, rZ l.Players x = true) (hst : z.Pairwise fun x y => x.Id < y.Id) (hlen : z.length ≤ 1000) {p w : Int} (hw : 0 ≤ w) (hw1 : w ≤ 1000) : jJ (gK l z) p w = some (lR l z p w) := by
  have hf := nY hl
  obtain ⟨t, h1, h2⟩ := aFm (gK l z) (dZ l z p w) (tR hst) (oV hz) (Nat.le_trans mN hlen) (by have := hf.2.1; show 0 ≤ l.Counts ∧ l.Counts ≤ 1000; omega)
  have ht : ∀ r ∈ t, 0 ≤ r.Points ∧ r.Points ≤ 2000 := fun r hr => (oV hz r (kU (h2.mem_iff.1 hr))).2
  have htl : t.length ≤ 1000 := by rw [h2.length_eq]; exact Nat.le_trans (List.length_filter_le _ _) (Nat.le_trans mN hlen)
  unfold jJ
  rw [aFl hl hz hlen hw1, Option.bind_some, h1, Option.bind_some, aIq t ht (by omega), Option.bind_some, xY h2]; rfl

/-- The document's results that are taken. -/
theorem aHh (l : aP) (all : List aC) (hst : all.Pairwise fun x y => x.Id < y.Id) (hb : all.length ≤ 1000) (hC : 0 ≤ l.Counts ∧ l.Counts ≤ 1000) : gU all l BIG 0 0 = some (jW l.Counts all) := by
  have hm : ∀ (l : List aC) (n : Int), l.foldl (fun n r => bif r.Must then n + 1 else n) n = n + dQ l := by
    intro l
    induction l with
    | nil => intro n; simp [dQ]
    | cons x l ih =>
      intro n
      rw [List.foldl_cons, ih]
      unfold dQ
      rw [List.filter_cons]
      cases x.Must <;> simp <;> omega
  have hml : dQ all ≤ all.length := List.length_filter_le _ _
  have main := kD (fun k i n => gU all l k n i) all (fun n r => bif r.Must then n + 1 else n) (fun n => oL all n l) 0 ?_ ?_ BIG (dD (by omega))
  · rw [main, hm]
    unfold oL
    have e0 : (0 : Int) + (dQ all : Int) = (dQ all : Int) := by omega
    rw [e0]
    refine uW (fun k i s => gV all (dQ all : Nat) l k i s) all (fun r => r.Must || decide ((lD all r : Int) < l.Counts - dQ all)) (fun s => some s) (fun k i hi s hs => ?_) (fun k s => ?_) BIG (dD (by omega))
    · have hlt : decide ((i : Int) < (all.length : Int)) = true := decide_eq_true (by omega)
      have hsl : s.length ≤ i := by rw [hs]; exact Nat.le_trans (List.length_filter_le _ _) (by simp; omega)
      simp only [gV, hlt, cond_true]
      have hbt : ∀ (l : List aC) (n : Int), l.foldl (fun n q => bif (!q.Must && (decide (all[i].Points < q.Points) || (decide (q.Points = all[i].Points) && decide (q.Id < all[i].Id)))) then n + 1 else n) n = n + lD l all[i] := by
        intro l
        induction l with
        | nil => intro n; simp [lD]
        | cons x l ih =>
          intro n
          rw [List.foldl_cons, ih]
          unfold lD
          rw [List.filter_cons]
          cases (!x.Must && (decide (all[i].Points < x.Points) || (decide (x.Points = all[i].Points) && decide (x.Id < all[i].Id)))) <;> simp <;> omega
      have inner := kD (fun k4 q n => iZ (gV all (dQ all : Nat) l k) all (dQ all : Nat) (i : Nat) l s k4 n q) all (fun n q => bif (!q.Must && (decide (all[i].Points < q.Points) || (decide (q.Points = all[i].Points) && decide (q.Id < all[i].Id)))) then n + 1 else n)
        (fun n => oN (gV all (dQ all : Nat) l k) all (dQ all : Nat) (i : Nat) n l s) 0 ?_ ?_ BIG (dD (by omega))
      · rw [inner, hbt]
        have e1 : (0 : Int) + (lD all all[i] : Int) = (lD all all[i] : Int) := by omega
        have e2 : w64 (l.Counts - (dQ all : Int)) = l.Counts - (dQ all : Int) := cW (by omega) (by omega)
        rw [e1]
        unfold oN oM
        rw [dK hi, Option.bind_some, e2, fO, Option.bind_some, Option.bind_some, jL (by simp; omega), Option.bind_some, cP (by omega)]
        cases (all[i].Must || decide ((lD all all[i] : Int) < l.Counts - (dQ all : Int))) <;> rfl
      · intro k4 q hq n hn
        have hlt2 : decide ((q : Int) < (all.length : Int)) = true := decide_eq_true (by omega)
        have hbl : lD (all.take q) all[i] ≤ q := Nat.le_trans (List.length_filter_le _ _) (by simp; omega)
        rw [hbt] at hn
        have hid : decide ((q : Int) < (i : Int)) = decide (all[q].Id < all[i].Id) := by
          rw [decide_eq_decide]
          have h1 := List.pairwise_iff_getElem.1 hst
          constructor
          · intro h; exact h1 q i hq hi (by omega)
          · intro h
            rcases Nat.lt_trichotomy q i with h2 | h2 | h2
            · omega
            · subst h2; omega
            · have := h1 i q hi hq h2; omega
        simp only [iZ, hlt2, cond_true, dK hq, dK hi, Option.bind_some, gC, fO, hid, cP (show q < 9223372036854775807 by omega)]
        cases (!all[q].Must && (decide (all[i].Points < all[q].Points) || (decide (all[q].Points = all[i].Points) && decide (all[q].Id < all[i].Id))))
        · rfl
        · simp only [cond_true]; rw [cW (by omega) (by omega)]
      · intro k4 n
        have hlt2 : decide ((all.length : Int) < (all.length : Int)) = false := decide_eq_false (by omega)
        simp only [iZ, hlt2, cond_false]
    · have hlt : decide ((all.length : Int) < (all.length : Int)) = false := decide_eq_false (by omega)
      simp only [gV, hlt, cond_false, rO]
  · intro k i hi n hn
    have hlt : decide ((i : Int) < (all.length : Int)) = true := decide_eq_true (by omega)
    have hmi : dQ (all.take i) ≤ i := Nat.le_trans (List.length_filter_le _ _) (by simp; omega)
    rw [hm] at hn
    simp only [gU, hlt, cond_true, dK hi, Option.bind_some, cP (show i < 9223372036854775807 by omega)]
    cases all[i].Must
    · rfl
    · simp only [cond_true]; rw [cW (by omega) (by omega)]
  · intro k n
    have hlt : decide ((all.length : Int) < (all.length : Int)) = false := decide_eq_false (by omega)
    simp only [gU, hlt, cond_false]
theorem GD.taken {l : aP} {z : List aC} (h : GD l z) {p w : Int} (hw : 0 ≤ w) (hw1 : w ≤ 1000) : qK l p w = some (jW l.Counts (dZ l z p w)) := by
  unfold qK
  rw [h.count hw hw1, Option.bind_some]
  have := h.len
  exact aHh l _ (tR h.st) (Nat.le_trans mN (by omega)) (by have := (nY h.rest).2.1; omega)
theorem aEm (C : Int) (all : List aC) : jT (jW C all) = jT all := by
  unfold jT jW
  rw [List.filter_filter]
  congr 1
  exact List.filter_congr fun r _ => by cases r.Must <;> simp
theorem GD.points {l : aP} {z : List aC} (h : GD l z) {p w : Int} (hw : 0 ≤ w) (hw1 : w ≤ 1000) : nN l p w = some (lR l z p w, jT (dZ l z p w)) := by
  unfold nN
  rw [h.taken hw hw1, Option.bind_some]
  obtain ⟨t, ht⟩ : ∃ t, t = jW l.Counts (dZ l z p w) := ⟨_, rfl⟩
  have hp : ∀ r ∈ t, 0 ≤ r.Points ∧ r.Points ≤ 2000 := fun r hr => (oV h.reps r (kU (ht ▸ hr))).2
  have hlen : t.length ≤ 1000 := by rw [ht]; exact Nat.le_trans (List.length_filter_le _ _) (Nat.le_trans mN (Nat.le_trans h.len (by omega)))
  have hf : ∀ (l : List aC) (s : Int × Int), l.foldl (fun s r => (s.1 + r.Points, bif r.Must then s.2 + r.Points else s.2)) s = (s.1 + gJ l, s.2 + jT l) := by
    intro l
    induction l with
    | nil => intro s; simp [gJ, jT]
    | cons x l ih =>
      intro s
      rw [List.foldl_cons, ih]
      unfold jT
      rw [List.filter_cons]
      cases x.Must <;> simp [gJ] <;> omega
  have main := kD (S := Int × Int) (fun k i s => iM t k s.1 s.2 i) t (fun s r => (s.1 + r.Points, bif r.Must then s.2 + r.Points else s.2)) (fun s => some s) (0, 0) ?_ ?_ BIG (dD (by omega))
  · rw [← ht]
    refine Eq.trans main ?_
    rw [hf]
    unfold lR
    have hmt : jT t = jT (dZ l z p w) := by rw [ht, aEm]
    rw [← ht, hmt]
    simp
  · intro k i hi s hs
    have hlt : decide ((i : Int) < (t.length : Int)) = true := decide_eq_true (by omega)
    have h1 := pO (l := t.take i) fun r hr => hp r (List.mem_of_mem_take hr)
    have h3 := pO (l := (t.take i).filter fun r => r.Must) fun r hr => hp r (List.mem_of_mem_take (kU hr))
    have h4 := List.length_filter_le (fun r : aC => r.Must) (t.take i)
    have h2 := hp _ (List.getElem_mem hi)
    simp only [List.length_take] at h1 h4
    rw [hf] at hs
    subst hs
    simp only [iM, hlt, cond_true, dK hi, Option.bind_some, cP (show i < 9223372036854775807 by omega)]
    have e1 : w64 (0 + gJ (t.take i) + t[i].Points) = 0 + gJ (t.take i) + t[i].Points := cW (by omega) (by omega)
    have e2 : w64 (0 + jT (t.take i) + t[i].Points) = 0 + jT (t.take i) + t[i].Points := cW (by unfold jT; omega) (by unfold jT; omega)
    rw [e1, e2]
    cases t[i].Must <;> rfl
  · intro k s
    have hlt : decide ((t.length : Int) < (t.length : Int)) = false := decide_eq_false (by omega)
    simp only [iM, hlt, cond_false, qW]
end Go.Am
