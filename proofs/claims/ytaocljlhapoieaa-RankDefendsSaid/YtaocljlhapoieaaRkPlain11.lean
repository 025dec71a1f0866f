/- The points. -/
import Derived.Test.YtaocljlhapoieaaRkPlain10
namespace Go.Am

theorem gR {α : Type} {p : α → Bool} {x : α} {l : List α} (h : x ∈ l.filter p) : x ∈ l := (List.mem_filter.1 h).1
def gG : List aB → Int
  | [] => 0
  | r :: t => r.Points + gG t
def jD (l : List aB) : Int := gG (l.filter fun r => r.Must)
theorem xF {a b : List aB} (h : a.Perm b) : gG a = gG b := by
  induction h with
  | nil => rfl
  | cons x _ ih => simp only [gG, ih]
  | swap x y l => simp only [gG]; omega
  | trans _ _ h1 h2 => exact h1.trans h2
theorem nD {l : List aB} (h : ∀ r ∈ l, 0 ≤ r.Points ∧ r.Points ≤ 2000) : 0 ≤ gG l ∧ gG l ≤ 2000 * l.length := by
  induction l with
  | nil => simp [gG]
  | cons r l ih =>
    have h1 := ih fun x hx => h x (List.mem_cons_of_mem _ hx)
    have h2 := h r (by simp)
    simp only [gG, List.length_cons]
    omega
theorem vL : ∀ (l : List aB) (n : Int), l.foldl (fun n r => n + r.Points) n = n + gG l
  | [], n => by simp [gG]
  | r :: l, n => by rw [List.foldl_cons, vL l]; simp only [gG]; omega
theorem aHi (l : List aB) (h : ∀ r ∈ l, 0 ≤ r.Points ∧ r.Points ≤ 2000) (hb : l.length ≤ 1000000) : rJ l = some (gG l) := by
  unfold rJ
  have main := kJ (fun k i n => mO l (l.length : Int) k n i) l (fun n r => n + r.Points) (fun n => some n) 0 ?_ ?_ BIG (dB (by omega))
  · rw [main, vL]; simp
  · intro k i hi n hn
    have hlt : decide ((i : Int) < (l.length : Int)) = true := decide_eq_true (by omega)
    have h1 := nD (l := l.take i) fun r hr => h r (List.mem_of_mem_take hr)
    have h2 := h _ (List.getElem_mem hi)
    simp only [List.length_take] at h1
    rw [vL] at hn
    simp only [mO, hlt, cond_true, dK hi, Option.bind_some, cE (show i < 9223372036854775807 by omega)]
    rw [cR (by omega) (by omega)]
  · intro k n
    have hlt : decide ((l.length : Int) < (l.length : Int)) = false := decide_eq_false (by omega)
    simp only [mO, hlt, cond_false, uH]

/-- The points of a player in a week. -/
def kM (l : aS) (z : List aB) (p w : Int) : Int := gG (iU l.Counts (dS l z p w))
theorem mV {l : aS} {z : List aB} (hz : ∀ x ∈ z, qN l.Players x = true) {p w : Int} : ∀ x ∈ dS l z p w, okT x := fun x hx => by
  have := vG (hz x (gR hx))
  exact ⟨this.1, this.2.2.2⟩
theorem sY {l : aS} {z : List aB} (hz : z.Pairwise fun x y => x.Id < y.Id) {p w : Int} : (dS l z p w).Pairwise fun x y => x.Id < y.Id := hz.sublist List.filter_sublist
theorem lE {l : aS} {z : List aB} {p w : Int} : (dS l z p w).length ≤ z.length := List.length_filter_le _ _
theorem zM {l : aS} {z : List aB} (hl : sO l = true) (hz : ∀ x ∈ z, qN l.Players x = true) (hst : z.Pairwise fun x y => x.Id < y.Id) (hlen : z.length ≤ 1000) {p w : Int} (hw : 0 ≤ w) (hw1 : w ≤ 1000) : gF (gC l z) p w = some (kM l z p w) := by
  have hf := nB hl
  obtain ⟨t, h1, h2⟩ := aEi (gC l z) (dS l z p w) (sY hst) (mV hz) (Nat.le_trans lE hlen) (by have := hf.2.1; show 0 ≤ l.Counts ∧ l.Counts ≤ 1000; omega)
  have ht : ∀ r ∈ t, 0 ≤ r.Points ∧ r.Points ≤ 2000 := fun r hr => (mV hz r (gR (h2.mem_iff.1 hr))).2
  have htl : t.length ≤ 1000 := by rw [h2.length_eq]; exact Nat.le_trans (List.length_filter_le _ _) (Nat.le_trans lE hlen)
  unfold gF
  rw [aEh hl hz hlen hw1, Option.bind_some, h1, Option.bind_some, aHi t ht (by omega), Option.bind_some, xF h2]; rfl

/-- The document's results that are taken. -/
theorem aGc (l : aS) (all : List aB) (hst : all.Pairwise fun x y => x.Id < y.Id) (hb : all.length ≤ 1000) (hC : 0 ≤ l.Counts ∧ l.Counts ≤ 1000) : gP all l BIG 0 0 = some (iU l.Counts all) := by
  have hm : ∀ (l : List aB) (n : Int), l.foldl (fun n r => bif r.Must then n + 1 else n) n = n + dL l := by
    intro l
    induction l with
    | nil => intro n; simp [dL]
    | cons x l ih =>
      intro n
      rw [List.foldl_cons, ih]
      unfold dL
      rw [List.filter_cons]
      cases x.Must <;> simp <;> omega
  have hml : dL all ≤ all.length := List.length_filter_le _ _
  have main := kJ (fun k i n => gP all l k n i) all (fun n r => bif r.Must then n + 1 else n) (fun n => nS all n l) 0 ?_ ?_ BIG (dB (by omega))
  · rw [main, hm]
    unfold nS
    have e0 : (0 : Int) + (dL all : Int) = (dL all : Int) := by omega
    rw [e0]
    refine uD (fun k i s => gQ all (dL all : Nat) l k i s) all (fun r => r.Must || decide ((kQ all r : Int) < l.Counts - dL all)) (fun s => some s) (fun k i hi s hs => ?_) (fun k s => ?_) BIG (dB (by omega))
    · have hlt : decide ((i : Int) < (all.length : Int)) = true := decide_eq_true (by omega)
      have hsl : s.length ≤ i := by rw [hs]; exact Nat.le_trans (List.length_filter_le _ _) (by simp; omega)
      simp only [gQ, hlt, cond_true]
      have hbt : ∀ (l : List aB) (n : Int), l.foldl (fun n q => bif (!q.Must && (decide (all[i].Points < q.Points) || (decide (q.Points = all[i].Points) && decide (q.Id < all[i].Id)))) then n + 1 else n) n = n + kQ l all[i] := by
        intro l
        induction l with
        | nil => intro n; simp [kQ]
        | cons x l ih =>
          intro n
          rw [List.foldl_cons, ih]
          unfold kQ
          rw [List.filter_cons]
          cases (!x.Must && (decide (all[i].Points < x.Points) || (decide (x.Points = all[i].Points) && decide (x.Id < all[i].Id)))) <;> simp <;> omega
      have inner := kJ (fun k4 q n => iQ (gQ all (dL all : Nat) l k) all (dL all : Nat) (i : Nat) l s k4 n q) all (fun n q => bif (!q.Must && (decide (all[i].Points < q.Points) || (decide (q.Points = all[i].Points) && decide (q.Id < all[i].Id)))) then n + 1 else n)
        (fun n => nU (gQ all (dL all : Nat) l k) all (dL all : Nat) (i : Nat) n l s) 0 ?_ ?_ BIG (dB (by omega))
      · rw [inner, hbt]
        have e1 : (0 : Int) + (kQ all all[i] : Int) = (kQ all all[i] : Int) := by omega
        have e2 : w64 (l.Counts - (dL all : Int)) = l.Counts - (dL all : Int) := cR (by omega) (by omega)
        rw [e1]
        unfold nU nT
        rw [dK hi, Option.bind_some, e2, fI, Option.bind_some, Option.bind_some, kX (by simp; omega), Option.bind_some, cE (by omega)]
        cases (all[i].Must || decide ((kQ all all[i] : Int) < l.Counts - (dL all : Int))) <;> rfl
      · intro k4 q hq n hn
        have hlt2 : decide ((q : Int) < (all.length : Int)) = true := decide_eq_true (by omega)
        have hbl : kQ (all.take q) all[i] ≤ q := Nat.le_trans (List.length_filter_le _ _) (by simp; omega)
        rw [hbt] at hn
        have hid : decide ((q : Int) < (i : Int)) = decide (all[q].Id < all[i].Id) := by
          rw [decide_eq_decide]
          have h1 := List.pairwise_iff_getElem.1 hst
          constructor
          · intro h; exact h1 q i hq hi (by omega)
          · intro h
            rcases Nat.lt_trichotomy q i with h2 | h2 | h2
            · omega
            · subst h2; omega
            · have := h1 i q hi hq h2; omega
        simp only [iQ, hlt2, cond_true, dK hq, dK hi, Option.bind_some, fN, fI, hid, cE (show q < 9223372036854775807 by omega)]
        cases (!all[q].Must && (decide (all[i].Points < all[q].Points) || (decide (all[q].Points = all[i].Points) && decide (all[q].Id < all[i].Id))))
        · rfl
        · simp only [cond_true]; rw [cR (by omega) (by omega)]
      · intro k4 n
        have hlt2 : decide ((all.length : Int) < (all.length : Int)) = false := decide_eq_false (by omega)
        simp only [iQ, hlt2, cond_false]
    · have hlt : decide ((all.length : Int) < (all.length : Int)) = false := decide_eq_false (by omega)
      simp only [gQ, hlt, cond_false, qY]
  · intro k i hi n hn
    have hlt : decide ((i : Int) < (all.length : Int)) = true := decide_eq_true (by omega)
    have hmi : dL (all.take i) ≤ i := Nat.le_trans (List.length_filter_le _ _) (by simp; omega)
    rw [hm] at hn
    simp only [gP, hlt, cond_true, dK hi, Option.bind_some, cE (show i < 9223372036854775807 by omega)]
    cases all[i].Must
    · rfl
    · simp only [cond_true]; rw [cR (by omega) (by omega)]
  · intro k n
    have hlt : decide ((all.length : Int) < (all.length : Int)) = false := decide_eq_false (by omega)
    simp only [gP, hlt, cond_false]
theorem GD.taken {l : aS} {z : List aB} (h : GD l z) {p w : Int} (hw : 0 ≤ w) (hw1 : w ≤ 1000) : pN l p w = some (iU l.Counts (dS l z p w)) := by
  unfold pN
  rw [h.count hw hw1, Option.bind_some]
  have := h.len
  exact aGc l _ (sY h.st) (Nat.le_trans lE (by omega)) (by have := (nB h.rest).2.1; omega)
theorem aDl (C : Int) (all : List aB) : jD (iU C all) = jD all := by
  unfold jD iU
  rw [List.filter_filter]
  congr 1
  exact List.filter_congr fun r _ => by cases r.Must <;> simp
theorem GD.points {l : aS} {z : List aB} (h : GD l z) {p w : Int} (hw : 0 ≤ w) (hw1 : w ≤ 1000) : mQ l p w = some (kM l z p w, jD (dS l z p w)) := by
  unfold mQ
  rw [h.taken hw hw1, Option.bind_some]
  obtain ⟨t, ht⟩ : ∃ t, t = iU l.Counts (dS l z p w) := ⟨_, rfl⟩
  have hp : ∀ r ∈ t, 0 ≤ r.Points ∧ r.Points ≤ 2000 := fun r hr => (mV h.reps r (gR (ht ▸ hr))).2
  have hlen : t.length ≤ 1000 := by rw [ht]; exact Nat.le_trans (List.length_filter_le _ _) (Nat.le_trans lE (Nat.le_trans h.len (by omega)))
  have hf : ∀ (l : List aB) (s : Int × Int), l.foldl (fun s r => (s.1 + r.Points, bif r.Must then s.2 + r.Points else s.2)) s = (s.1 + gG l, s.2 + jD l) := by
    intro l
    induction l with
    | nil => intro s; simp [gG, jD]
    | cons x l ih =>
      intro s
      rw [List.foldl_cons, ih]
      unfold jD
      rw [List.filter_cons]
      cases x.Must <;> simp [gG] <;> omega
  have main := kJ (S := Int × Int) (fun k i s => iD t k s.1 s.2 i) t (fun s r => (s.1 + r.Points, bif r.Must then s.2 + r.Points else s.2)) (fun s => some s) (0, 0) ?_ ?_ BIG (dB (by omega))
  · rw [← ht]
    refine Eq.trans main ?_
    rw [hf]
    unfold kM
    have hmt : jD t = jD (dS l z p w) := by rw [ht, aDl]
    rw [← ht, hmt]
    simp
  · intro k i hi s hs
    have hlt : decide ((i : Int) < (t.length : Int)) = true := decide_eq_true (by omega)
    have h1 := nD (l := t.take i) fun r hr => hp r (List.mem_of_mem_take hr)
    have h3 := nD (l := (t.take i).filter fun r => r.Must) fun r hr => hp r (List.mem_of_mem_take (gR hr))
    have h4 := List.length_filter_le (fun r : aB => r.Must) (t.take i)
    have h2 := hp _ (List.getElem_mem hi)
    simp only [List.length_take] at h1 h4
    rw [hf] at hs
    subst hs
    simp only [iD, hlt, cond_true, dK hi, Option.bind_some, cE (show i < 9223372036854775807 by omega)]
    have e1 : w64 (0 + gG (t.take i) + t[i].Points) = 0 + gG (t.take i) + t[i].Points := cR (by omega) (by omega)
    have e2 : w64 (0 + jD (t.take i) + t[i].Points) = 0 + jD (t.take i) + t[i].Points := cR (by unfold jD; omega) (by unfold jD; omega)
    rw [e1, e2]
    cases t[i].Must <;> rfl
  · intro k s
    have hlt : decide ((t.length : Int) < (t.length : Int)) = false := decide_eq_false (by omega)
    simp only [iD, hlt, cond_false, qD]
end Go.Am
