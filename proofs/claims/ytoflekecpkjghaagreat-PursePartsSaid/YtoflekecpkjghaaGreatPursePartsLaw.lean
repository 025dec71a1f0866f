/- The plain law PurseParts. -/
import Derived.Test.YtoflekecpkjghaaGreatPpPlain19
import Derived.Test.YtoflekecpkjghaaGreatPpWorks
import Derived.Test.YtoflekecpkjghaaGreatPqSh
namespace Go.Am

/-- What a person has been paid. -/
def nB (l : List aR) (m : Int) : Int := (l.map fun x => bif decide (x.Person = m) then x.Units else 0).sum
theorem aKd (a b : List aR) (m : Int) : nB (a ++ b) m = nB a m + nB b m := by unfold nB; rw [List.map_append, List.sum_append]
theorem xR (x : aR) (l : List aR) (m : Int) : nB (x :: l) m = (bif decide (x.Person = m) then x.Units else 0) + nB l m := by unfold nB; rw [List.map_cons, List.sum_cons]
theorem aOo (n : Int) : ∀ (l : List aR) (s : Int), l.foldl (yG n) s = s - nB l n
  | [], s => by simp [nB]
  | x :: l, s => by
    rw [List.foldl_cons, aOo n l, xR]
    unfold yG
    cases decide (x.Person = n) with
    | true => rw [cond_true, cond_true]; omega
    | false => rw [cond_false, cond_false]; omega
theorem aFp (before : List aR) (b : aY) : iP before b = b.Units - nB before b.Person := aOo _ _ _
theorem aMt (m : Int) : ∀ l : List aR, (∀ x ∈ l, 0 ≤ x.Units ∧ x.Units ≤ 1000000000) → 0 ≤ nB l m ∧ nB l m ≤ 1000000000 * l.length
  | [], _ => by simp [nB]
  | x :: l, h => by
    have ih := aMt m l fun y hy => h y (List.mem_cons_of_mem _ hy)
    have hx := h x List.mem_cons_self
    rw [xR, List.length_cons]
    cases decide (x.Person = m) with
    | true => rw [cond_true]; omega
    | false => rw [cond_false]; omega
/-- What is to be paid where nothing was paid too much. -/
def nP (before : List aR) (B : List aY) : List aR := (B.filter fun b => decide (0 < iP before b)).map fun b => ⟨b.Person, iP before b⟩
theorem aIp (before : List aR) (b : aY) (B : List aY) : nP before (b :: B) = if 0 < iP before b then ⟨b.Person, iP before b⟩ :: nP before B else nP before B := by
  unfold nP
  by_cases h : 0 < iP before b
  · rw [if_pos h, List.filter_cons_of_pos (p := fun b => decide (0 < iP before b)) (decide_eq_true h), List.map_cons]
  · rw [if_neg h, List.filter_cons_of_neg (p := fun b => decide (0 < iP before b)) (by simp [h])]
theorem aLf (before : List aR) : ∀ (B : List aY) (s : List aR × List aR), (∀ b ∈ B, 0 ≤ iP before b) → B.foldl (aCl before) s = (s.1 ++ nP before B, s.2)
  | [], s, _ => by simp [nP]
  | b :: B, s, h => by
    have hb := h b List.mem_cons_self
    rw [List.foldl_cons, aLf before B _ fun c hc => h c (List.mem_cons_of_mem _ hc), aIp]
    unfold aCl
    by_cases h0 : 0 < iP before b
    · rw [decide_eq_true h0, cond_true, if_pos h0, List.append_assoc]; rfl
    · rw [decide_eq_false h0, cond_false, if_neg h0, decide_eq_false (show ¬ iP before b < 0 by omega), cond_false]
theorem aOv (before : List aR) (m : Int) : ∀ B : List aY, (∀ b ∈ B, b.Person ≠ m) → nB (nP before B) m = 0
  | [], _ => rfl
  | b :: B, h => by
    have ih := aOv before m B fun c hc => h c (List.mem_cons_of_mem _ hc)
    have hb := h b List.mem_cons_self
    rw [aIp]
    split
    · rw [xR, decide_eq_false hb, cond_false, ih]; rfl
    · exact ih
theorem aRe (before : List aR) : ∀ B : List aY, (B.Pairwise fun a b => a.Person < b.Person) → (∀ b ∈ B, 0 ≤ iP before b) → ∀ b ∈ B, nB (nP before B) b.Person = iP before b
  | [], _, _, b, hb => by cases hb
  | c :: B, hp, h, b, hb => by
    obtain ⟨h1, h2⟩ := List.pairwise_cons.1 hp
    have hc := h c List.mem_cons_self
    rw [aIp]
    rcases List.mem_cons.1 hb with rfl | hb
    · have hn := aOv before b.Person B fun x hx => by have := h1 x hx; omega
      split
      · rw [xR, decide_eq_true rfl, cond_true, hn]; show iP before b + 0 = _; omega
      · rw [hn]; omega
    · have ih := aRe before B h2 (fun x hx => h x (List.mem_cons_of_mem _ hx)) b hb
      have hlt := h1 b hb
      split
      · rw [xR, ih]
        show (bif decide (c.Person = b.Person) then _ else 0) + _ = _
        rw [decide_eq_false (by omega), cond_false]; omega
      · exact ih
theorem aZg (before : List aR) (B : List aY) (h : ∀ b ∈ B, iP before b = 0) : nP before B = [] := by
  unfold nP
  have : B.filter (fun b => decide (0 < iP before b)) = [] := List.filter_eq_nil_iff.2 fun b hb => by rw [h b hb]; decide
  rw [this]; rfl
/-- The purse when some of the results have come. -/
def bAj (p : aK) (s : List aE) : aK := ⟨p.Tree, s, p.Prizes, p.Daily, p.Teams, p.Levies, p.Rates, p.Items⟩
section
variable {p : aK} (hn : NearP p) {d : List Int} (hg : GP p d) {lucky others : List aE}
structure aVq (p : aK) (lucky others : List aE) : Prop where
  l1 : ∀ x ∈ lucky, x ∈ p.Slips ∧ x.Kind = 5
  o1 : ∀ x ∈ others, x ∈ p.Slips ∧ x.Kind ≠ 5
  l2 : ∀ x ∈ p.Slips, x.Kind = 5 → x ∈ lucky
  o2 : ∀ x ∈ p.Slips, x.Kind ≠ 5 → x ∈ others
  len : lucky.length + others.length ≤ 6
variable (hpt : aVq p lucky others)
/-- The purse when n of the results have come. -/
def oN (p : aK) (lucky others : List aE) (n : Nat) : aK := bAj p (lucky ++ others.take n)
structure PI (p : aK) (d : List Int) (lucky others : List aE) (n : Nat) (before : List aR) : Prop where
  all : ∀ x ∈ before, aDz p x = true
  len : before.length ≤ 20 * n
  good : 0 < n → GP (oN p lucky others (n - 1)) d
  sums : ∀ m, jI p m = true → nB before m = if n = 0 then 0 else (qW (oN p lucky others (n - 1)) d m).Units
include hpt
theorem aZd {n m : Nat} (h : n ≤ m) : aJg (oN p lucky others n) (oN p lucky others m) := by
  refine ⟨rfl, rfl, rfl, fun x hx => ?_, fun x hx hk => ?_⟩
  · rcases List.mem_append.1 (show x ∈ lucky ++ others.take n from hx) with hx | hx
    · exact List.mem_append.2 (.inl hx)
    · refine List.mem_append.2 (.inr ?_)
      have : others.take n = (others.take m).take n := by rw [List.take_take, Nat.min_eq_left h]
      rw [this] at hx
      exact List.mem_of_mem_take hx
  · rcases List.mem_append.1 (show x ∈ lucky ++ others.take m from hx) with hx | hx
    · exact List.mem_append.2 (.inl hx)
    · exact absurd hk (hpt.o1 x (List.mem_of_mem_take hx)).2
theorem aMo (n : Nat) : aJg (oN p lucky others n) p := by
  refine ⟨rfl, rfl, rfl, fun x hx => ?_, fun x hx hk => List.mem_append.2 (.inl (hpt.l2 x hx hk))⟩
  rcases List.mem_append.1 (show x ∈ lucky ++ others.take n from hx) with hx | hx
  · exact (hpt.l1 x hx).1
  · exact (hpt.o1 x (List.mem_of_mem_take hx)).1
include hn
omit hpt in
theorem bAg (hl : lucky.length + others.length ≤ 6) (n : Nat) : Sz (oN p lucky others n) := by
  obtain ⟨n1, n2, n3, n4, n5, n6, n7⟩ := hn
  have : (lucky ++ others.take n).length ≤ 6 := by rw [List.length_append, List.length_take]; omega
  exact ⟨by show p.Tree.Slots.length ≤ 1000; omega, by show (lucky ++ others.take n).length ≤ 1000; omega, by show p.Prizes.length ≤ 1000; omega, by show p.Teams.length ≤ 1000; omega, by show p.Levies.length ≤ 1000; omega, by show p.Rates.length ≤ 1000; omega, by show p.Items.length ≤ 1000; omega⟩
omit hn in
/-- Nothing was paid too much. -/
theorem aQv {n : Nat} {before : List aR} (hI : PI p d lucky others n before) (hgn : GP (oN p lucky others n) d) : ∀ b ∈ dS (oN p lucky others n) d, 0 ≤ iP before b := fun b hb => by
  obtain ⟨m, hm, rfl, hm2⟩ := aJk hgn b hb
  have hm' : jI p m = true := hm
  rw [aFp, hm2, hI.sums m hm']
  have hu := (aSd hgn _ hb).1
  by_cases h0 : n = 0
  · rw [if_pos h0]; omega
  · rw [if_neg h0]
    have hprev := hI.good (by omega)
    have hf := aZd hpt (n := n - 1) (m := n) (by omega)
    have hgm := aFn hf hgn hprev (person := m) rfl
    have := aVt hgn hprev (person := m) hgm.1 rfl rfl rfl rfl
    omega
omit hn in
theorem bCp {n : Nat} {before : List aR} (hI : PI p d lucky others n before) (hgn : GP (oN p lucky others n) d) (hlen : (nP before (dS (oN p lucky others n) d)).length ≤ 20) (hu : ∀ x ∈ nP before (dS (oN p lucky others n) d), x.Units ≤ 1000000000) :
    PI p d lucky others (n + 1) (before ++ nP before (dS (oN p lucky others n) d)) ∧ ∀ b ∈ dS (oN p lucky others n) d, iP (before ++ nP before (dS (oN p lucky others n) d)) b = 0 := by
  have hpos := aQv hpt hI hgn
  have hso := aQd (oN p lucky others n) d
  have hpp := aRe before _ hso hpos
  have hz : ∀ b ∈ dS (oN p lucky others n) d, iP (before ++ nP before (dS (oN p lucky others n) d)) b = 0 := fun b hb => by
    rw [aFp, aKd, hpp b hb, aFp]; omega
  refine ⟨⟨fun x hx => ?_, by rw [List.length_append]; have := hI.len; omega, fun _ => by rw [Nat.add_sub_cancel]; exact hgn, fun m hm => ?_⟩, hz⟩
  · rcases List.mem_append.1 hx with hx | hx
    · exact hI.all x hx
    · have hxu := hu x hx
      unfold nP at hx
      obtain ⟨b, hb, rfl⟩ := List.mem_map.1 hx
      obtain ⟨hb1, hb2⟩ := List.mem_filter.1 hb
      have hb2 := of_decide_eq_true hb2
      obtain ⟨m, hm, _, hm2⟩ := aJk hgn b hb1
      unfold aDz
      rw [Bool.and_eq_true, sU]
      exact ⟨by show jI p b.Person = true; rw [hm2]; exact hm, by show 0 ≤ iP before b; omega, hxu⟩
  · have hb : qW (oN p lucky others n) d m ∈ dS (oN p lucky others n) d := by
      unfold dS
      exact List.mem_map.2 ⟨m, (aEa (tP hgn.teams) m).2 hm, rfl⟩
    have := hz _ hb
    rw [aFp] at this
    have e : (qW (oN p lucky others n) d m).Person = m := rfl
    rw [e] at this
    rw [if_neg (by omega), Nat.add_sub_cancel]
    omega
include hg
/-- In the end all is paid. -/
theorem aXb {before : List aR} (hI : PI p d lucky others (others.length + 1) before) (hlen : others.length ≤ 6) : mJ p before = some true := by
  have hz := hn.sz
  have hall : ∀ x ∈ before, 0 ≤ x.Units ∧ x.Units ≤ 1000000000 := fun x hx => by
    have := hI.all x hx
    unfold aDz at this
    rw [Bool.and_eq_true, sU] at this
    exact this.2
  have hbl := hI.len
  have hs : bBw (oN p lucky others others.length) p := by
    refine ⟨rfl, rfl, rfl, fun x => ⟨(aMo hpt _).sub x, fun hx => ?_⟩, ?_, fun _ => Iff.rfl, (rW hg).2.2, .refl _, .refl _, .refl _⟩
    · show x ∈ lucky ++ others.take others.length
      rw [List.take_length]
      by_cases hk : x.Kind = 5
      · exact List.mem_append.2 (.inl (hpt.l2 x hx hk))
      · exact List.mem_append.2 (.inr (hpt.o2 x hx hk))
    · show (lucky ++ others.take others.length).length ≤ 60
      rw [List.length_append, List.length_take]
      have := hpt.len
      omega
  have hsum : ∀ b ∈ dS p d, nB before b.Person = b.Units := fun b hb => by
    obtain ⟨m, hm, rfl, hm2⟩ := aJk hg b hb
    rw [hm2, hI.sums m hm, if_neg (by omega), Nat.add_sub_cancel, aXp hg hs]
  have hB : (dS p d).length ≤ 1000 := by unfold dS; rw [List.length_map]; exact wM p
  unfold mJ
  rw [aRc hz hg, Option.bind_some]
  dsimp only
  rw [decide_eq_true rfl, Bool.not_true, cond_false]
  revert hsum hB
  generalize dS p d = B
  intro hsum hB
  refine sW (S := Unit) (fun k i _ => fB B before k i) B.length (fun o => o = some true) (fun _ _ => True) ?_ ?_ BIG 0 () (cH (by omega)) trivial
  · rintro k i _ hi _ ih
    have hnext := ih () trivial
    have hlt : decide ((i : Int) < (B.length : Int)) = true := decide_eq_true (by omega)
    simp only [fB, hlt, cond_true]
    have main := mR (S := Int) (fun q j s => fR (fB B before k) B i before q s j) before.length (fun _ _ => some true) (fun j s => s = nB (before.take j) B[i].Person) ?_ ?_ BIG 0 (cH (by omega)) (by simp [nB])
    · exact main
    · rintro q j s hj rfl ih2
      have hlt2 : decide ((j : Int) < (before.length : Int)) = true := decide_eq_true (by omega)
      have hr := aMt B[i].Person (before.take j) fun x hx => hall x (List.mem_of_mem_take hx)
      have htl := List.length_take_le j before
      have hx := hall _ (List.getElem_mem hj)
      have et : before.take (j + 1) = before.take j ++ [before[j]] := List.take_succ_eq_append_getElem hj
      have ep : nB (before.take (j + 1)) B[i].Person = nB (before.take j) B[i].Person + bif decide (before[j].Person = B[i].Person) then before[j].Units else 0 := by
        rw [et, aKd, xR]; show _ + (_ + 0) = _; omega
      simp only [fR, hlt2, cond_true, bN hj, bN hi, Option.bind_some, bK (show j < 9223372036854775807 by omega)]
      cases hd : decide (before[j].Person = B[i].Person) with
      | true =>
        rw [hd, cond_true] at ep
        rw [cond_true, bY (by omega) (by omega)]
        exact ih2 _ ep.symm
      | false =>
        rw [hd, cond_false] at ep
        rw [cond_false]
        exact ih2 _ (by omega)
    · rintro q s rfl
      have hlt2 : decide ((before.length : Int) < (before.length : Int)) = false := decide_eq_false (by omega)
      have hu := hsum _ (List.getElem_mem hi)
      simp only [fR, hlt2, cond_false, qL, bN hi, Option.bind_some, List.take_length, hu, decide_true, Bool.not_true, qK, bK (show i < 9223372036854775807 by omega)]
      exact hnext
  · rintro k i _ hi _
    have hlt : decide ((i : Int) < (B.length : Int)) = false := decide_eq_false (by omega)
    simp only [fB, hlt, cond_false, qJ, sV, Option.bind_some]
/-- One more result, and what is paid for it. -/
theorem aXc {n : Nat} {before : List aR} (hI : PI p d lucky others n before) (hle : n ≤ others.length) (hgn : GP (oN p lucky others n) d) (again : Int → aK → List aR → Option Bool) (hlen : (nP before (dS (oN p lucky others n) d)).length ≤ 20)
    (hnext : PI p d lucky others (n + 1) (before ++ nP before (dS (oN p lucky others n) d)) → again ((n + 1 : Nat) : Int) (oN p lucky others n) (before ++ nP before (dS (oN p lucky others n) d)) = some true) :
    fA again lucky others n p (oN p lucky others n) before (nP before (dS (oN p lucky others n) d)) BIG 0 = some true := by
  have hz := bAg hn hpt.len n
  have hol := hpt.len
  have ht := tP hg.teams
  have hbl := hI.len
  have hkey := bCp hpt hI hgn hlen
  have hpe : ∀ x ∈ nP before (dS (oN p lucky others n) d), jI p x.Person = true ∧ 1 ≤ x.Units := fun x hx => by
    unfold nP at hx
    obtain ⟨b, hb, rfl⟩ := List.mem_map.1 hx
    obtain ⟨hb1, hb2⟩ := List.mem_filter.1 hb
    have hb2 := of_decide_eq_true hb2
    obtain ⟨m, hm, _, hm2⟩ := aJk hgn b hb1
    exact ⟨by show jI p b.Person = true; rw [hm2]; exact hm, hb2⟩
  have hpay2 : ∀ x, (∀ y ∈ x, aDz p y = true) → x.length ≤ 200 → (∀ b ∈ dS (oN p lucky others n) d, iP x b = 0) → sZ (oN p lucky others n) x = some ([], [], 0) := fun x h1 h2 h3 => by
    rw [bCt hz hgn x h2 (List.all_eq_true.2 fun y hy => h1 y hy)]
    have : aIo x (dS (oN p lucky others n) d) = ([], []) := by
      unfold aIo
      rw [aLf x _ _ fun b hb => by rw [h3 b hb]; omega, aZg x _ h3]; rfl
    rw [this]
  revert hkey hnext hpe
  generalize nP before (dS (oN p lucky others n) d) = pay at hlen
  intro hnext hkey hpe
  refine sW (S := Unit) (fun k i _ => fA again lucky others n p (oN p lucky others n) before pay k i) pay.length (fun o => o = some true) (fun i _ => ∀ j (hj : j < pay.length), j < i → pay[j].Units ≤ 1000000000) ?_ ?_ BIG 0 () (cH (by omega)) (by omega)
  · rintro k i _ hi hI2 ih
    have hlt : decide ((i : Int) < (pay.length : Int)) = true := decide_eq_true (by omega)
    obtain ⟨x1, x2⟩ := hpe _ (List.getElem_mem hi)
    simp only [fA, hlt, cond_true, bN hi, Option.bind_some]
    rw [aCy ht _ hn.sz.teams, Option.bind_some, x1, Bool.not_true, cond_false, decide_eq_false (by omega), Option.bind_some, cond_false]
    by_cases hu : 1000000000 < pay[i].Units
    · rw [decide_eq_true hu, Option.bind_some, cond_true, cond_true, sV]; rfl
    · rw [decide_eq_false hu, Option.bind_some, cond_false, bK (show i < 9223372036854775807 by omega)]
      refine ih () fun j hj hji => ?_
      by_cases e : j = i
      · subst e; omega
      · exact hI2 j hj (by omega)
  · rintro k i _ hi hI2
    have hlt : decide ((i : Int) < (pay.length : Int)) = false := decide_eq_false (by omega)
    have hu : ∀ x ∈ pay, x.Units ≤ 1000000000 := fun x hx => by
      obtain ⟨j, hj, rfl⟩ := List.getElem_of_mem hx
      exact hI2 j hj (by omega)
    obtain ⟨k1, k2⟩ := hkey hu
    have hbl2 := k1.len
    simp only [fA, hlt, cond_false]
    unfold qI
    rw [fP (by rw [List.length_append] at hbl2; omega), Option.bind_some, hpay2 _ k1.all (by omega) k2, Option.bind_some]
    have hres := hnext k1
    unfold qH
    rw [bK (show n < 9223372036854775807 by omega)]
    exact hres
theorem aUx : dK lucky others p BIG 0 p [] = some true := by
  have hol := hpt.len
  refine sW (S := aK × List aR) (fun k n s => dK lucky others p k n s.1 s.2) (others.length + 1) (fun o => o = some true)
    (fun n s => n ≤ others.length + 1 ∧ (∃ x, s.1 = bAj p x) ∧ PI p d lucky others n s.2) ?_ ?_ BIG 0 (p, []) (cH (by omega)) ⟨by omega, ⟨p.Slips, rfl⟩, ⟨by simp, by simp, by omega, by simp [nB]⟩⟩
  · rintro k n ⟨o, before⟩ hi ⟨hle, ⟨x, hx⟩, hI⟩ ih
    simp only at hx hI
    subst hx
    have hz := bAg hn hpt.len n
    have hbl := hI.len
    have hlt : decide ((n : Int) ≤ (others.length : Int)) = true := decide_eq_true (by omega)
    simp only [dK, hlt, cond_true]
    have htl := List.length_take_le n others
    rw [fP (by simp; omega), Option.bind_some, List.nil_append, bBr (by omega), Option.bind_some, fP (by simp only [List.length_take]; omega), Option.bind_some]
    show ((lK (oN p lucky others n)).bind fun r23 => _) = _
    rw [aWb hz, Option.bind_some]
    by_cases hc : uV (oN p lucky others n) = 0
    · obtain ⟨d', hgn⟩ := aUn hc
      have hd := aMa (aMo hpt n) hg hgn
      subst hd
      have hpos := aQv hpt hI hgn
      have hpL : aIo before (dS (oN p lucky others n) d') = (nP before (dS (oN p lucky others n) d'), []) := by
        unfold aIo
        rw [aLf before _ _ hpos]
        exact congrArg (fun z => (z, ([] : List aR))) (List.nil_append _)
      have hpl : (nP before (dS (oN p lucky others n) d')).length ≤ 2 * p.Teams.length := by
        have h1 : (nP before (dS (oN p lucky others n) d')).length ≤ (dS (oN p lucky others n) d').length := by
          unfold nP; rw [List.length_map]; exact List.length_filter_le _ _
        have h2 : (dS (oN p lucky others n) d').length = (sJ (oN p lucky others n)).length := by unfold dS; rw [List.length_map]
        have h3 : (sJ (oN p lucky others n)).length ≤ 2 * p.Teams.length := aSu hgn
        omega
      have hmain := fun hlen => aXc hn hg hpt hI (by omega) hgn (dK lucky others p k) hlen fun hI' => ih (oN p lucky others n, _) ⟨by omega, ⟨_, rfl⟩, hI'⟩
      obtain ⟨pay, hpL, hpl, hmain⟩ : ∃ pay, aIo before (dS (oN p lucky others n) d') = (pay, []) ∧ pay.length ≤ 2 * p.Teams.length ∧ (pay.length ≤ 20 → fA (dK lucky others p k) lucky others n p (oN p lucky others n) before pay BIG 0 = some true) := ⟨_, hpL, hpl, hmain⟩
      rw [decide_eq_true hc, Bool.not_true, cond_false]
      show ((sZ (oN p lucky others n) before).bind fun r25 => _) = _
      rw [bCt hz hgn before (by omega) (List.all_eq_true.2 fun y hy => hI.all y hy), hpL, Option.bind_some]
      dsimp only
      rw [decide_eq_true (rfl : (0 : Int) = 0), Bool.not_true, cond_false]
      rw [decide_eq_false (show ¬ (0 : Int) < (([] : List aR).length : Int) by simp), Option.bind_some, cond_false]
      by_cases hlen : 20 < (pay.length : Int)
      · rw [decide_eq_true hlen, Option.bind_some, cond_true, cond_true, decide_eq_true (by omega), Option.bind_some, cond_true, sV]; rfl
      · rw [decide_eq_false hlen, Option.bind_some, cond_false]
        exact hmain (by omega)
    · rw [decide_eq_false hc, Bool.not_false, cond_true, sV]; rfl
  · rintro k n ⟨o, before⟩ hi ⟨hle, ⟨x, hx⟩, hI⟩
    have hlt : decide ((n : Int) ≤ (others.length : Int)) = false := decide_eq_false (by omega)
    simp only [dK, hlt, cond_false]
    obtain rfl : n = others.length + 1 := by omega
    exact aXb hn hg hpt hI (by omega)
end
theorem aAn (p : aK) (_ : aMp p) : oM p = some true := by
  unfold oM
  rcases aZz p with h | ⟨h, hn, d, hg⟩
  · rw [h, Option.bind_some, Bool.not_false, cond_true, Option.bind_some, cond_true, sV, Option.bind_some]
  · have hz := hn.sz
    rw [h, Option.bind_some, Bool.not_true, cond_false, Option.bind_some]
    by_cases h6 : 6 < (p.Slips.length : Int)
    · rw [decide_eq_true h6, cond_true, sV, Option.bind_some]
    · rw [decide_eq_false h6, cond_false]
      refine sW (S := List aE × List aE) (fun k i s => fQ p k i s.1 s.2) p.Slips.length (fun o => o = some true)
        (fun i s => (∀ x ∈ s.1, x ∈ p.Slips ∧ x.Kind = 5) ∧ (∀ x ∈ s.2, x ∈ p.Slips ∧ x.Kind ≠ 5) ∧ (∀ j (hj : j < p.Slips.length), j < i → (p.Slips[j].Kind = 5 → p.Slips[j] ∈ s.1) ∧ (p.Slips[j].Kind ≠ 5 → p.Slips[j] ∈ s.2)) ∧ s.1.length + s.2.length ≤ min i p.Slips.length) ?_ ?_ BIG 0 ([], []) (cH (by omega)) ⟨by simp, by simp, by simp, by simp⟩
      · rintro k i ⟨a, b⟩ hi ⟨h1, h2, h3, h4⟩ ih
        simp only at h1 h2 h3 h4
        have hlt : decide ((i : Int) < (p.Slips.length : Int)) = true := decide_eq_true (by omega)
        simp only [fQ, hlt, cond_true, bN hi, Option.bind_some, bK (show i < 9223372036854775807 by omega)]
        rw [fP (by simp; omega), fP (by simp; omega)]
        by_cases hk : p.Slips[i].Kind = 5
        · rw [decide_eq_true hk, cond_true, Option.bind_some]
          refine ih (a ++ [p.Slips[i]], b) ⟨fun x hx => ?_, h2, fun j hj hji => ?_, by simp; omega⟩
          · rcases List.mem_append.1 hx with hx | hx
            · exact h1 x hx
            · rw [List.mem_singleton.1 hx]; exact ⟨List.getElem_mem hi, hk⟩
          · by_cases e : j = i
            · subst e; exact ⟨fun _ => List.mem_append.2 (.inr (List.mem_singleton.2 rfl)), fun hk' => absurd hk hk'⟩
            · obtain ⟨q1, q2⟩ := h3 j hj (by omega)
              exact ⟨fun hk => List.mem_append.2 (.inl (q1 hk)), q2⟩
        · rw [decide_eq_false hk, cond_false, Option.bind_some]
          refine ih (a, b ++ [p.Slips[i]]) ⟨h1, fun x hx => ?_, fun j hj hji => ?_, by simp; omega⟩
          · rcases List.mem_append.1 hx with hx | hx
            · exact h2 x hx
            · rw [List.mem_singleton.1 hx]; exact ⟨List.getElem_mem hi, hk⟩
          · by_cases e : j = i
            · subst e; exact ⟨fun hk' => absurd hk' hk, fun _ => List.mem_append.2 (.inr (List.mem_singleton.2 rfl))⟩
            · obtain ⟨q1, q2⟩ := h3 j hj (by omega)
              exact ⟨q1, fun hk => List.mem_append.2 (.inl (q2 hk))⟩
      · rintro k i ⟨a, b⟩ hi ⟨h1, h2, h3, h4⟩
        simp only at h1 h2 h3 h4
        have hlt : decide ((i : Int) < (p.Slips.length : Int)) = false := decide_eq_false (by omega)
        simp only [fQ, hlt, cond_false]
        have hpt : aVq p a b := by
          refine ⟨h1, h2, fun x hx hk => ?_, fun x hx hk => ?_, by omega⟩
          · obtain ⟨j, hj, rfl⟩ := List.getElem_of_mem hx
            exact (h3 j hj (by omega)).1 hk
          · obtain ⟨j, hj, rfl⟩ := List.getElem_of_mem hx
            exact (h3 j hj (by omega)).2 hk
        unfold qG
        rw [bDf hz, Option.bind_some]
        exact aUx hn hg hpt
end Go.Am
