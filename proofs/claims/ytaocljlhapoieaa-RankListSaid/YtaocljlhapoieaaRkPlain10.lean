/- The results that are taken, and the points. -/
import Derived.Test.YtaocljlhapoieaaRkPlain9
namespace Go.Am

/-- The first that is not 0. -/
def orF : List Int → Int
  | [] => 0
  | x :: t => if x = 0 then orF t else x
theorem aDu (l : List Int) (hb : l.length ≤ 1000000) : pI l = some (orF l) := by
  unfold pI
  have main : ∀ (d i k : Nat), l.length - i = d → d < k → i ≤ l.length → lJ 0 l (l.length : Int) k (i : Nat) = some (orF (l.drop i)) := by
    intro d
    induction d with
    | zero =>
      intro i k hd hk hi
      obtain ⟨k, rfl⟩ : ∃ q, k = q + 1 := ⟨k - 1, by omega⟩
      have hlt : decide ((i : Int) < (l.length : Int)) = false := decide_eq_false (by omega)
      have : l.drop i = [] := List.drop_eq_nil_of_le (by omega)
      simp only [lJ, hlt, cond_false, sV, this, orF]
    | succ d ih =>
      intro i k hd hk hi
      obtain ⟨k, rfl⟩ : ∃ q, k = q + 1 := ⟨k - 1, by omega⟩
      have hil : i < l.length := by omega
      have hlt : decide ((i : Int) < (l.length : Int)) = true := decide_eq_true (by omega)
      simp only [lJ, hlt, cond_true, dK hil, Option.bind_some, cP (show i < 9223372036854775807 by omega), ih (i + 1) k (by omega) (by omega) (by omega)]
      rw [List.drop_eq_getElem_cons hil]
      simp only [orF]
      by_cases h : l[i] = 0
      · rw [decide_eq_true h, if_pos h]; rfl
      · rw [decide_eq_false h, if_neg h]; rfl
  exact main _ 0 BIG rfl (dD (by omega)) (Nat.zero_le _)

/-- The order in which results are taken. -/
def leT (x y : aC) : Prop := (x.Must = true ∧ y.Must = false) ∨ (x.Must = y.Must ∧ (y.Points < x.Points ∨ (x.Points = y.Points ∧ x.Id ≤ y.Id)))
def kX (x y : aC) : Bool := (x.Must && !y.Must) || (decide (x.Must = y.Must) && (decide (y.Points < x.Points) || (decide (x.Points = y.Points) && decide (x.Id < y.Id))))
def okT (x : aC) : Prop := (0 ≤ x.Id ∧ x.Id ≤ 10000) ∧ (0 ≤ x.Points ∧ x.Points ≤ 2000)
theorem aGv : mH (fun x y => kA x y) okT leT where
  run x y hx hy := by
    unfold okT at hx hy
    unfold kA leT
    have e1 : w64 (y.Points - x.Points) = y.Points - x.Points := cW (by omega) (by omega)
    have e2 : w64 (x.Id - y.Id) = x.Id - y.Id := cW (by omega) (by omega)
    rw [e1, e2, aDu _ (by simp), Option.bind_some]
    cases hxm : x.Must <;> cases hym : y.Must
    · refine ⟨orF [y.Points - x.Points, x.Id - y.Id], rfl, ?_⟩
      simp only [orF]
      split <;> simp <;> omega
    · exact ⟨1, rfl, by simp⟩
    · exact ⟨-1, rfl, by simp⟩
    · refine ⟨orF [y.Points - x.Points, x.Id - y.Id], rfl, ?_⟩
      simp only [orF]
      split <;> simp <;> omega
  tot x y _ _ := by
    unfold leT
    cases x.Must <;> cases y.Must <;> simp <;> omega
  tr x y z _ _ _ h1 h2 := by
    unfold leT at *
    cases hx : x.Must <;> cases hy : y.Must <;> cases hz : z.Must <;> simp [hx, hy, hz] at h1 h2 ⊢ <;> omega
def dQ (all : List aC) : Nat := (all.filter fun r => r.Must).length
def lD (all : List aC) (r : aC) : Nat := (all.filter fun q => !q.Must && (decide (r.Points < q.Points) || (decide (q.Points = r.Points) && decide (q.Id < r.Id)))).length
/-- The results that are taken, of those that count. -/
def jW (C : Int) (all : List aC) : List aC := all.filter fun r => r.Must || decide ((lD all r : Int) < C - dQ all)
theorem aDy {x y : aC} (h : leT x y) (hne : x.Id ≠ y.Id) : kX x y = true ∧ kX y x = false := by
  unfold leT at h
  unfold kX
  rw [Bool.eq_false_iff]
  cases hx : x.Must <;> cases hy : y.Must <;> simp [hx, hy] at h ⊢ <;> omega
theorem aDr (x : aC) : kX x x = false := by unfold kX; simp
/-- How many stand before one. -/
theorem aDw {s : List aC} (hs : s.Pairwise leT) (hid : ∀ i j (hi : i < s.length) (hj : j < s.length), i ≠ j → (s[i]).Id ≠ (s[j]).Id) {i : Nat} (hi : i < s.length) : (s.filter fun q => kX q s[i]).length = i := by
  have e : s = s.take i ++ s[i] :: s.drop (i + 1) := by rw [← List.drop_eq_getElem_cons hi, List.take_append_drop]
  have h1 : (s.take i).filter (fun q => kX q s[i]) = s.take i := by
    refine List.filter_eq_self.2 fun q hq => ?_
    obtain ⟨j, hj, rfl⟩ := List.getElem_of_mem hq
    simp only [List.length_take] at hj
    rw [List.getElem_take]
    exact (aDy (List.pairwise_iff_getElem.1 hs j i (by omega) hi (by omega)) (hid j i (by omega) hi (by omega))).1
  have h2 : (s.drop (i + 1)).filter (fun q => kX q s[i]) = [] := by
    refine List.filter_eq_nil_iff.2 fun q hq => ?_
    obtain ⟨j, hj, rfl⟩ := List.getElem_of_mem hq
    simp only [List.length_drop] at hj
    rw [List.getElem_drop]
    have := (aDy (List.pairwise_iff_getElem.1 hs i (i + 1 + j) hi (by omega) (by omega)) (hid i (i + 1 + j) hi (by omega) (by omega))).2
    rw [this]; simp
  have h3 : (s.filter fun q => kX q s[i]) = s.take i :=
    calc (s.filter fun q => kX q s[i]) = (s.take i ++ s[i] :: s.drop (i + 1)).filter (fun q => kX q s[i]) := congrArg (fun l => List.filter (fun q => kX q s[i]) l) e
      _ = s.take i := by
        rw [List.filter_append, List.filter_cons, h1, h2, aDr]
        simp
  rw [h3, List.length_take]; omega
theorem tO (all : List aC) (r : aC) : (r.Must = false → (all.filter fun q => kX q r).length = dQ all + lD all r) ∧ (r.Must = true → (all.filter fun q => kX q r).length ≤ dQ (all.filter fun q => kX q r)) := by
  constructor
  · intro hr
    unfold dQ lD
    rw [← yW]
    · congr 1
      refine List.filter_congr fun q _ => ?_
      unfold kX
      rw [hr]
      cases q.Must <;> simp
    · rintro q _ ⟨h1, h2⟩
      simp [h1] at h2
  · intro hr
    unfold dQ
    rw [List.filter_filter]
    refine Nat.le_of_eq ?_
    congr 1
    refine List.filter_congr fun q _ => ?_
    unfold kX
    rw [hr]
    cases q.Must <;> simp
theorem oT {p : aC → Bool} {a b : List aC} (h : a.Perm b) : (a.filter p).length = (b.filter p).length := (h.filter p).length_eq
theorem aEu {z : List aC} (h : z.Pairwise fun x y => x.Id < y.Id) : ∀ x ∈ z, ∀ y ∈ z, x.Id = y.Id → x = y := by
  intro x hx y hy hxy
  obtain ⟨i, hi, rfl⟩ := List.getElem_of_mem hx
  obtain ⟨j, hj, rfl⟩ := List.getElem_of_mem hy
  have h1 := List.pairwise_iff_getElem.1 h
  rcases Nat.lt_trichotomy i j with h2 | h2 | h2
  · have := h1 i j hi hj h2; omega
  · subst h2; rfl
  · have := h1 j i hj hi h2; omega
theorem lB {z : List aC} (h : z.Pairwise fun x y => x.Id < y.Id) : z.Nodup := h.imp fun h he => by rw [he] at h; omega
theorem aAe {C : Int} {all s : List aC} (hall : all.Pairwise fun x y => x.Id < y.Id) (hp : s.Perm all) (hs : s.Pairwise leT) {N : Nat} (hN : (N : Int) = min (s.length : Int) (max (dQ s : Int) C)) (hNl : N ≤ s.length) : (s.take N).Perm (jW C all) := by
  have hsl : s.length = all.length := hp.length_eq
  have hnd : s.Nodup := hp.nodup_iff.2 (lB hall)
  have hml : dQ s ≤ s.length := List.length_filter_le _ _
  have hids : ∀ i j (hi : i < s.length) (hj : j < s.length), i ≠ j → (s[i]).Id ≠ (s[j]).Id := fun i j hi hj hij he => by
    have := aEu hall _ (hp.mem_iff.1 (List.getElem_mem hi)) _ (hp.mem_iff.1 (List.getElem_mem hj)) he
    have hn := List.pairwise_iff_getElem.1 hnd
    rcases Nat.lt_or_gt_of_ne hij with h | h
    · exact hn i j hi hj h this
    · exact hn j i hj hi h this.symm
  refine (List.perm_ext_iff_of_nodup (hnd.sublist (List.take_sublist N s)) ((lB hall).sublist List.filter_sublist)).2 fun r => ?_
  have hmust : dQ s = dQ all := oT hp
  rw [List.mem_filter]
  constructor
  · intro h
    obtain ⟨i, hi, rfl⟩ := List.getElem_of_mem h
    simp only [List.length_take] at hi
    have hil : i < s.length := by omega
    have e : (s.take N)[i]'(by simp; omega) = s[i] := List.getElem_take
    rw [e]
    have h1 := aDw hs hids hil
    rw [oT (p := fun q => kX q s[i]) hp] at h1
    refine ⟨hp.mem_iff.1 (List.getElem_mem hil), ?_⟩
    cases hmu : s[i].Must with
    | true => rfl
    | false =>
      have h2 := (tO all s[i]).1 hmu
      simp only [Bool.false_or, decide_eq_true_eq]
      omega
  · rintro ⟨h1, h2⟩
    obtain ⟨i, hi, rfl⟩ := List.getElem_of_mem (hp.mem_iff.2 h1)
    have h3 := aDw hs hids hi
    have hiN : i < N := by
      cases hmu : s[i].Must with
      | true =>
        have h4 := (tO s s[i]).2 hmu
        rw [h3] at h4
        -- the one itself is a must too
        have h5 : dQ (s.filter fun q => kX q s[i]) < dQ s := by
          unfold dQ
          rw [List.filter_filter]
          have h6 := yW s (fun q => q.Must && kX q s[i]) (fun q => q.Must && !kX q s[i]) (fun q _ h => by simp only [Bool.and_eq_true, Bool.not_eq_true'] at h; rw [h.1.2] at h; exact absurd h.2.2 (by simp))
          have h7 : (s.filter fun q => (q.Must && kX q s[i]) || (q.Must && !kX q s[i])) = s.filter fun q => q.Must := List.filter_congr fun q _ => by cases q.Must <;> cases kX q s[i] <;> rfl
          rw [h7] at h6
          have h8 : 0 < (s.filter fun q => q.Must && !kX q s[i]).length := List.length_pos_of_mem (List.mem_filter.2 ⟨List.getElem_mem hi, by rw [hmu, aDr]; rfl⟩)
          omega
        omega
      | false =>
        rw [hmu] at h2
        simp only [Bool.false_or, decide_eq_true_eq] at h2
        rw [oT (p := fun q => kX q s[i]) hp] at h3
        have h4 := (tO all s[i]).1 hmu
        omega
    have : (s.take N)[i]'(by simp; omega) = s[i] := List.getElem_take
    rw [← this]
    exact List.getElem_mem _
theorem aFm (b : bY) (all : List aC) (hall : all.Pairwise fun x y => x.Id < y.Id) (hok : ∀ x ∈ all, okT x) (hb : all.length ≤ 1000) (hC : 0 ≤ b.Ledger.Counts ∧ b.Ledger.Counts ≤ 1000) : ∃ t, lH b all = some t ∧ t.Perm (jW b.Ledger.Counts all) := by
  obtain ⟨s, hp, hs, hr⟩ := vE aGv all hok (by omega)
  have hsl : s.length = all.length := hp.length_eq
  have hcl : eW all = some all := by
    unfold eW
    rw [jL (by simp; omega)]; rfl
  have hm : ∀ (l : List aC) (n : Int), l.foldl (fun n r => bif r.Must then n + 1 else n) n = n + dQ l := by
    intro l
    induction l with
    | nil => intro n; simp [dQ]
    | cons x l ih =>
      intro n
      rw [List.foldl_cons, ih]
      unfold dQ
      rw [List.filter_cons]
      cases x.Must <;> simp <;> omega
  have hml : dQ s ≤ s.length := List.length_filter_le _ _
  have loop : fR b (s.length : Int) s BIG 0 0 = kZ b (dQ s : Nat) s := by
    have main := kD (fun k i n => fR b (s.length : Int) s k n i) s (fun n r => bif r.Must then n + 1 else n) (fun n => kZ b n s) 0 ?_ ?_ BIG (dD (by omega))
    · rw [main, hm]; simp
    · intro k i hi n hn
      have hlt : decide ((i : Int) < (s.length : Int)) = true := decide_eq_true (by omega)
      have hmi : dQ (s.take i) ≤ i := Nat.le_trans (List.length_filter_le _ _) (by simp; omega)
      rw [hm] at hn
      simp only [fR, hlt, cond_true, dK hi, Option.bind_some, cP (show i < 9223372036854775807 by omega)]
      cases s[i].Must
      · rfl
      · simp only [cond_true]; rw [cW (by omega) (by omega)]
    · intro k n
      have hlt : decide ((s.length : Int) < (s.length : Int)) = false := decide_eq_false (by omega)
      simp only [fR, hlt, cond_false]
  obtain ⟨N, hN, hNl⟩ : ∃ N : Nat, (N : Int) = min (s.length : Int) (max (dQ s : Int) b.Ledger.Counts) ∧ N ≤ s.length := ⟨(min (s.length : Int) (max (dQ s : Int) b.Ledger.Counts)).toNat, by omega, by omega⟩
  refine ⟨s.take N, ?_, ?_⟩
  · unfold lH
    rw [hcl, Option.bind_some, hr, Option.bind_some, loop]
    unfold kZ
    rw [← hN, vU hNl]; rfl
  · exact aAe hall hp hs hN hNl
end Go.Am
