/- The results that are taken, and the points. -/
import Derived.Test.YtaocljlhapoieaaGreatRzPlain9
namespace Go.Am

/-- The first that is not 0. -/
def orF : List Int → Int
  | [] => 0
  | x :: t => if x = 0 then orF t else x
theorem aHr (l : List Int) (hb : l.length ≤ 1000000) : pD l = some (orF l) := by
  unfold pD
  have main : ∀ (d i k : Nat), l.length - i = d → d < k → i ≤ l.length → kZ 0 l (l.length : Int) k (i : Nat) = some (orF (l.drop i)) := by
    intro d
    induction d with
    | zero =>
      intro i k hd hk hi
      obtain ⟨k, rfl⟩ : ∃ q, k = q + 1 := ⟨k - 1, by omega⟩
      have hlt : decide ((i : Int) < (l.length : Int)) = false := decide_eq_false (by omega)
      have : l.drop i = [] := List.drop_eq_nil_of_le (by omega)
      simp only [kZ, hlt, cond_false, sT, this, orF]
    | succ d ih =>
      intro i k hd hk hi
      obtain ⟨k, rfl⟩ : ∃ q, k = q + 1 := ⟨k - 1, by omega⟩
      have hil : i < l.length := by omega
      have hlt : decide ((i : Int) < (l.length : Int)) = true := decide_eq_true (by omega)
      simp only [kZ, hlt, cond_true, dD hil, Option.bind_some, cU (show i < 9223372036854775807 by omega), ih (i + 1) k (by omega) (by omega) (by omega)]
      rw [List.drop_eq_getElem_cons hil]
      simp only [orF]
      by_cases h : l[i] = 0
      · rw [decide_eq_true h, if_pos h]; rfl
      · rw [decide_eq_false h, if_neg h]; rfl
  exact main _ 0 BIG rfl (dO (by omega)) (Nat.zero_le _)

/-- The order in which results are taken. -/
def leT (x y : aD) : Prop := (x.Must = true ∧ y.Must = false) ∨ (x.Must = y.Must ∧ (y.Points < x.Points ∨ (x.Points = y.Points ∧ x.Id ≤ y.Id)))
def kT (x y : aD) : Bool := (x.Must && !y.Must) || (decide (x.Must = y.Must) && (decide (y.Points < x.Points) || (decide (x.Points = y.Points) && decide (x.Id < y.Id))))
def okT (x : aD) : Prop := (0 ≤ x.Id ∧ x.Id ≤ 10000) ∧ (0 ≤ x.Points ∧ x.Points ≤ 2000)
theorem aIu : oP (fun x y => kA x y) okT leT where
  run x y hx hy := by
    unfold okT at hx hy
    unfold kA leT
    have e1 : w64 (y.Points - x.Points) = y.Points - x.Points := dC (by omega) (by omega)
    have e2 : w64 (x.Id - y.Id) = x.Id - y.Id := dC (by omega) (by omega)
    rw [e1, e2, aHr _ (by simp), Option.bind_some]
    cases hxm : x.Must <;> cases hym : y.Must
    · refine ⟨orF [y.Points - x.Points, x.Id - y.Id], rfl, ?_⟩
      simp only [orF]
      split <;> simp <;> omega
    · exact ⟨1, rfl, by simp⟩
    · exact ⟨-1, rfl, by simp⟩
    · refine ⟨orF [y.Points - x.Points, x.Id - y.Id], rfl, ?_⟩
      simp only [orF]
      split <;> simp <;> omega
  tot x y _ _ := by
    unfold leT
    cases x.Must <;> cases y.Must <;> simp <;> omega
  tr x y z _ _ _ h1 h2 := by
    unfold leT at *
    cases hx : x.Must <;> cases hy : y.Must <;> cases hz : z.Must <;> simp [hx, hy, hz] at h1 h2 ⊢ <;> omega
def eM (all : List aD) : Nat := (all.filter fun r => r.Must).length
def nM (all : List aD) (r : aD) : Nat := (all.filter fun q => !q.Must && (decide (r.Points < q.Points) || (decide (q.Points = r.Points) && decide (q.Id < r.Id)))).length
/-- The results that are taken, of those that count. -/
def oF (C : Int) (all : List aD) : List aD := all.filter fun r => r.Must || decide ((nM all r : Int) < C - eM all)
theorem aDs {x y : aD} (h : leT x y) (hne : x.Id ≠ y.Id) : kT x y = true ∧ kT y x = false := by
  unfold leT at h
  unfold kT
  rw [Bool.eq_false_iff]
  cases hx : x.Must <;> cases hy : y.Must <;> simp [hx, hy] at h ⊢ <;> omega
theorem aDn (x : aD) : kT x x = false := by unfold kT; simp
/-- How many stand before one. -/
theorem aDq {s : List aD} (hs : s.Pairwise leT) (hid : ∀ i j (hi : i < s.length) (hj : j < s.length), i ≠ j → (s[i]).Id ≠ (s[j]).Id) {i : Nat} (hi : i < s.length) : (s.filter fun q => kT q s[i]).length = i := by
  have e : s = s.take i ++ s[i] :: s.drop (i + 1) := by rw [← List.drop_eq_getElem_cons hi, List.take_append_drop]
  have h1 : (s.take i).filter (fun q => kT q s[i]) = s.take i := by
    refine List.filter_eq_self.2 fun q hq => ?_
    obtain ⟨j, hj, rfl⟩ := List.getElem_of_mem hq
    simp only [List.length_take] at hj
    rw [List.getElem_take]
    exact (aDs (List.pairwise_iff_getElem.1 hs j i (by omega) hi (by omega)) (hid j i (by omega) hi (by omega))).1
  have h2 : (s.drop (i + 1)).filter (fun q => kT q s[i]) = [] := by
    refine List.filter_eq_nil_iff.2 fun q hq => ?_
    obtain ⟨j, hj, rfl⟩ := List.getElem_of_mem hq
    simp only [List.length_drop] at hj
    rw [List.getElem_drop]
    have := (aDs (List.pairwise_iff_getElem.1 hs i (i + 1 + j) hi (by omega) (by omega)) (hid i (i + 1 + j) hi (by omega) (by omega))).2
    rw [this]; simp
  have h3 : (s.filter fun q => kT q s[i]) = s.take i :=
    calc (s.filter fun q => kT q s[i]) = (s.take i ++ s[i] :: s.drop (i + 1)).filter (fun q => kT q s[i]) := congrArg (fun l => List.filter (fun q => kT q s[i]) l) e
      _ = s.take i := by
        rw [List.filter_append, List.filter_cons, h1, h2, aDn]
        simp
  rw [h3, List.length_take]; omega
theorem tL (all : List aD) (r : aD) : (r.Must = false → (all.filter fun q => kT q r).length = eM all + nM all r) ∧ (r.Must = true → (all.filter fun q => kT q r).length ≤ eM (all.filter fun q => kT q r)) := by
  constructor
  · intro hr
    unfold eM nM
    rw [← yP]
    · congr 1
      refine List.filter_congr fun q _ => ?_
      unfold kT
      rw [hr]
      cases q.Must <;> simp
    · rintro q _ ⟨h1, h2⟩
      simp [h1] at h2
  · intro hr
    unfold eM
    rw [List.filter_filter]
    refine Nat.le_of_eq ?_
    congr 1
    refine List.filter_congr fun q _ => ?_
    unfold kT
    rw [hr]
    cases q.Must <;> simp
theorem rB {p : aD → Bool} {a b : List aD} (h : a.Perm b) : (a.filter p).length = (b.filter p).length := (h.filter p).length_eq
theorem zU {z : List aD} (h : z.Pairwise fun x y => x.Id < y.Id) : ∀ x ∈ z, ∀ y ∈ z, x.Id = y.Id → x = y := by
  intro x hx y hy hxy
  obtain ⟨i, hi, rfl⟩ := List.getElem_of_mem hx
  obtain ⟨j, hj, rfl⟩ := List.getElem_of_mem hy
  have h1 := List.pairwise_iff_getElem.1 h
  rcases Nat.lt_trichotomy i j with h2 | h2 | h2
  · have := h1 i j hi hj h2; omega
  · subst h2; rfl
  · have := h1 j i hj hi h2; omega
theorem xP {z : List aD} (h : z.Pairwise fun x y => x.Id < y.Id) : z.Nodup := h.imp fun h he => by rw [he] at h; omega
theorem aEs {C : Int} {all s : List aD} (hall : all.Pairwise fun x y => x.Id < y.Id) (hp : s.Perm all) (hs : s.Pairwise leT) {N : Nat} (hN : (N : Int) = min (s.length : Int) (max (eM s : Int) C)) (hNl : N ≤ s.length) : (s.take N).Perm (oF C all) := by
  have hsl : s.length = all.length := hp.length_eq
  have hnd : s.Nodup := hp.nodup_iff.2 (xP hall)
  have hml : eM s ≤ s.length := List.length_filter_le _ _
  have hids : ∀ i j (hi : i < s.length) (hj : j < s.length), i ≠ j → (s[i]).Id ≠ (s[j]).Id := fun i j hi hj hij he => by
    have := zU hall _ (hp.mem_iff.1 (List.getElem_mem hi)) _ (hp.mem_iff.1 (List.getElem_mem hj)) he
    have hn := List.pairwise_iff_getElem.1 hnd
    rcases Nat.lt_or_gt_of_ne hij with h | h
    · exact hn i j hi hj h this
    · exact hn j i hj hi h this.symm
  refine (List.perm_ext_iff_of_nodup (hnd.sublist (List.take_sublist N s)) ((xP hall).sublist List.filter_sublist)).2 fun r => ?_
  have hmust : eM s = eM all := rB hp
  rw [List.mem_filter]
  constructor
  · intro h
    obtain ⟨i, hi, rfl⟩ := List.getElem_of_mem h
    simp only [List.length_take] at hi
    have hil : i < s.length := by omega
    have e : (s.take N)[i]'(by simp; omega) = s[i] := List.getElem_take
    rw [e]
    have h1 := aDq hs hids hil
    rw [rB (p := fun q => kT q s[i]) hp] at h1
    refine ⟨hp.mem_iff.1 (List.getElem_mem hil), ?_⟩
    cases hmu : s[i].Must with
    | true => rfl
    | false =>
      have h2 := (tL all s[i]).1 hmu
      simp only [Bool.false_or, decide_eq_true_eq]
      omega
  · rintro ⟨h1, h2⟩
    obtain ⟨i, hi, rfl⟩ := List.getElem_of_mem (hp.mem_iff.2 h1)
    have h3 := aDq hs hids hi
    have hiN : i < N := by
      cases hmu : s[i].Must with
      | true =>
        have h4 := (tL s s[i]).2 hmu
        rw [h3] at h4
        -- the one itself is a must too
        have h5 : eM (s.filter fun q => kT q s[i]) < eM s := by
          unfold eM
          rw [List.filter_filter]
          have h6 := yP s (fun q => q.Must && kT q s[i]) (fun q => q.Must && !kT q s[i]) (fun q _ h => by simp only [Bool.and_eq_true, Bool.not_eq_true'] at h; rw [h.1.2] at h; exact absurd h.2.2 (by simp))
          have h7 : (s.filter fun q => (q.Must && kT q s[i]) || (q.Must && !kT q s[i])) = s.filter fun q => q.Must := List.filter_congr fun q _ => by cases q.Must <;> cases kT q s[i] <;> rfl
          rw [h7] at h6
          have h8 : 0 < (s.filter fun q => q.Must && !kT q s[i]).length := List.length_pos_of_mem (List.mem_filter.2 ⟨List.getElem_mem hi, by rw [hmu, aDn]; rfl⟩)
          omega
        omega
      | false =>
        rw [hmu] at h2
        simp only [Bool.false_or, decide_eq_true_eq] at h2
        rw [rB (p := fun q => kT q s[i]) hp] at h3
        have h4 := (tL all s[i]).1 hmu
        omega
    have : (s.take N)[i]'(by simp; omega) = s[i] := List.getElem_take
    rw [← this]
    exact List.getElem_mem _
theorem aFj (b : cC) (all : List aD) (hall : all.Pairwise fun x y => x.Id < y.Id) (hok : ∀ x ∈ all, okT x) (hb : all.length ≤ 1000) (hC : 0 ≤ b.Ledger.Counts ∧ b.Ledger.Counts ≤ 1000) : ∃ t, jS b all = some t ∧ t.Perm (oF b.Ledger.Counts all) := by
  obtain ⟨s, hp, hs, hr⟩ := yJ aIu all hok (by omega)
  have hsl : s.length = all.length := hp.length_eq
  have hcl : fB all = some all := by
    unfold fB
    rw [nL (by simp; omega)]; rfl
  have hm : ∀ (l : List aD) (n : Int), l.foldl (fun n r => bif r.Must then n + 1 else n) n = n + eM l := by
    intro l
    induction l with
    | nil => intro n; simp [eM]
    | cons x l ih =>
      intro n
      rw [List.foldl_cons, ih]
      unfold eM
      rw [List.filter_cons]
      cases x.Must <;> simp <;> omega
  have hml : eM s ≤ s.length := List.length_filter_le _ _
  have loop : fV b (s.length : Int) s BIG 0 0 = kV b (eM s : Nat) s := by
    have main := mJ (fun k i n => fV b (s.length : Int) s k n i) s (fun n r => bif r.Must then n + 1 else n) (fun n => kV b n s) 0 ?_ ?_ BIG (dO (by omega))
    · rw [main, hm]; simp
    · intro k i hi n hn
      have hlt : decide ((i : Int) < (s.length : Int)) = true := decide_eq_true (by omega)
      have hmi : eM (s.take i) ≤ i := Nat.le_trans (List.length_filter_le _ _) (by simp; omega)
      rw [hm] at hn
      simp only [fV, hlt, cond_true, dD hi, Option.bind_some, cU (show i < 9223372036854775807 by omega)]
      cases s[i].Must
      · rfl
      · simp only [cond_true]; rw [dC (by omega) (by omega)]
    · intro k n
      have hlt : decide ((s.length : Int) < (s.length : Int)) = false := decide_eq_false (by omega)
      simp only [fV, hlt, cond_false]
  obtain ⟨N, hN, hNl⟩ : ∃ N : Nat, (N : Int) = min (s.length : Int) (max (eM s : Int) b.Ledger.Counts) ∧ N ≤ s.length := ⟨(min (s.length : Int) (max (eM s : Int) b.Ledger.Counts)).toNat, by omega, by omega⟩
  refine ⟨s.take N, ?_, ?_⟩
  · unfold jS
    rw [hcl, Option.bind_some, hr, Option.bind_some, loop]
    unfold kV
    rw [← hN, aAg hNl]; rfl
  · exact aEs hall hp hs hN hNl
end Go.Am
