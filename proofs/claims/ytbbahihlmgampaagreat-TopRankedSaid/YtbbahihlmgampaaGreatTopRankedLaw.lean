/- The theorem of the cut, plainly. -/
import Derived.Test.YtbbahihlmgampaaGreatTrPlain2
import Derived.Test.YtbbahihlmgampaaGreatTrPlain4
namespace Go.Am
open Rk (dG GL dY rJ aTf aKz aJb aJt aCe aDx aDa)
theorem aLl {l : aU} {z : List aG} {w : Int} {S : List Int} (h : Rk.IsList l z w S) (hP : l.Players ≤ 16) : S.Nodup ∧ (S.length : Int) ≤ l.Players ∨ l.Players < 0 := by
 by_cases h0 : l.Players < 0
 ·exact .inr h0
 refine .inl ?_
 have hnd : S.Nodup := h.st.imp fun {a b} hb he => by subst he; exact Rk.bef_irr _ _ _ _ hb
 refine ⟨hnd, ?_⟩
 have hsub : S ⊆ (List.range l.Players.toNat).map fun n : Nat => (n : Int) := fun x hx => by
  have := (h.mem x).1 hx
  exact List.mem_map.2 ⟨x.toNat, List.mem_range.2 (by omega), by omega⟩
 have hnr : ((List.range l.Players.toNat).map fun n : Nat => (n : Int)).Nodup := List.Pairwise.map _ (fun a b h => by omega) (List.nodup_range (n := l.Players.toNat))
 have hp : S.Perm (((List.range l.Players.toNat).map fun n : Nat => (n : Int)).filter fun x => decide (x ∈ S)) := (List.perm_ext_iff_of_nodup hnd (hnr.sublist List.filter_sublist)).2 fun x => by
  rw [List.mem_filter, decide_eq_true_eq]
  exact ⟨fun hx => ⟨hsub hx, hx⟩, fun hx => hx.2⟩
 have := List.length_filter_le (fun x => decide (x ∈ S)) ((List.range l.Players.toNat).map fun n : Nat => (n : Int))
 rw [hp.length_eq]
 simp only [List.length_map, List.length_range] at this
 omega
section top
variable {l : aU} {f : bE} {x : eJ} {z : List aG} (hz : GL l z) (hP : l.Players ≤ 5) (hw : 0 ≤ x.Week ∧ x.Week ≤ 250) (hf : pI f = true) (hl : x.Players.length ≤ 10)
include hz hP hw hf hl
theorem aWe (hn : x.Players.Nodup) (hr : ∀ p ∈ x.Players, 0 ≤ p ∧ p < l.Players) {o : Int} (hv : VL f (ntL (dG (dY l z x.Week)) 0 x.Players)) (hS : (dY l z x.Week).Nodup) (hSl : (dY l z x.Week).length ≤ 16) (wl ou : List Int) :
  nU (ntL (dG (dY l z x.Week)) 0 x.Players) l f x (eR.mk ((jY (dY l z x.Week) x.Players).take f.Places.toNat) wl ou o) = some true := by
 have hf2 := hf
 unfold pI at hf2
 simp only [Bool.and_eq_true] at hf2
 have hcl := hf2.1.2
 unfold nU
 rw [aRo hv hcl, Option.bind_some, aSu hv hS hSl hn hl]
 simp only
 generalize hM : (jY (dY l z x.Week) x.Players).take f.Places.toNat = M
 have hmem : ∀ m ∈ M, m ∈ x.Players := fun m hm => (aCo _ _ m).1 (List.mem_of_mem_take (by rw [hM]; exact hm))
 have hMl : M.length ≤ 1000 := by
  have h1 : (jY (dY l z x.Week) x.Players).length ≤ 26 := by
   unfold jY
   rw [List.length_append]
   have a := List.length_filter_le (fun m => decide (m ∈ x.Players)) (dY l z x.Week)
   have b := List.length_filter_le (fun m => !decide (m ∈ dY l z x.Week)) x.Players
   omega
  rw [← hM, List.length_take]; omega
 by_cases h0 : M = []
 ·subst h0
  simp only [List.length_nil, List.getLast?_nil, sH]
  rfl
 ·have hpos : 0 < M.length := List.length_pos_iff.2 h0
  rw [List.getLast?_eq_some_getLast h0, show aTg (dG (dY l z x.Week)) (some (M.getLast h0)) = (dG (dY l z x.Week) (M.getLast h0), 0) from rfl]
  have e1 : decide ((M.length : Int) = 0) = false := decide_eq_false (by omega)
  have e2 : w64 ((M.length : Int) - 1) = ((M.length - 1 : Nat) : Int) := by rw [cF (by omega) (by omega)]; omega
  have e3 : idx M ((M.length - 1 : Nat) : Int) = some (M.getLast h0) := by rw [cT (by omega), List.getLast_eq_getElem]
  have hm := hr _ (hmem _ (List.getLast_mem h0))
  have hpl := aCe hz (show l.Players ≤ 12 by omega) (p := M.getLast h0) (w := x.Week) (by unfold aDa Rk.inB; simp; omega)
  rw [e1, cond_false, e2, e3, Option.bind_some, hpl, Option.bind_some, sH]
  unfold aDx
  generalize dG (dY l z x.Week) (M.getLast h0) = n
  by_cases hn0 : n = 0
  ·subst hn0; rfl
  ·rw [decide_eq_false hn0]
   simp
theorem aWd (hn : x.Players.Nodup) (hr : ∀ p ∈ x.Players, 0 ≤ p ∧ p < l.Players) (hv : VL f (ntL (dG (dY l z x.Week)) 0 x.Players)) (hS : (dY l z x.Week).Nodup) (hSl : (dY l z x.Week).length ≤ 16) :
  nT (ntL (dG (dY l z x.Week)) 0 x.Players) l f x (aCa f (ntL (dG (dY l z x.Week)) 0 x.Players) f.Close) (jY (dY l z x.Week) x.Players) = some true := by
 have hf2 := hf
 unfold pI at hf2
 simp only [Bool.and_eq_true, tS] at hf2
 rw [aRg hv hS hSl hn hl]
 have k6 := aWe hz hP hw hf hl hn hr (o := f.Places - (((jY (dY l z x.Week) x.Players).take f.Places.toNat).length : Int)) hv hS hSl [] ((jY (dY l z x.Week) x.Players).drop f.Places.toNat)
 have h1 : (jY (dY l z x.Week) x.Players).length ≤ 26 := by
  unfold jY
  rw [List.length_append]
  have a := List.length_filter_le (fun m => decide (m ∈ x.Players)) (dY l z x.Week)
  have b := List.length_filter_le (fun m => !decide (m ∈ dY l z x.Week)) x.Players
  omega
 revert k6
 generalize jY (dY l z x.Week) x.Players = W at h1
 intro k6
 have lt := List.length_take (i := f.Places.toNat) (l := W)
 have ld := List.length_drop (i := f.Places.toNat) (l := W)
 unfold nT
 simp only
 rw [nI (by simp; omega), Option.bind_some, List.nil_append, nI (by omega), Option.bind_some, List.take_append_drop]
 have e1 : (!decide ((W.length : Int) = (W.length : Int))) = false := by simp
 have e2 : (!decide (((W.take f.Places.toNat).length : Int) = min f.Places (W.length : Int))) = false := by
  rw [lt, Bool.not_eq_false', decide_eq_true_eq]; omega
 have e3 : decide ((0 : Int) < (([] : List Int).length : Int)) = false := rfl
 have e4 : (!decide (f.Places - ((W.take f.Places.toNat).length : Int) = w64 (f.Places - ((W.take f.Places.toNat).length : Int)))) = false := by
  rw [cF (by omega) (by omega)]; simp
 rw [e1, e2, e3, e4]
 simp only [cond_false, Option.bind_some]
 refine (rR (S := Unit) (fun k i _ => iQ (ntL (dG (dY l z x.Week)) 0 x.Players) W l f x (eR.mk (W.take f.Places.toNat) [] (W.drop f.Places.toNat) (f.Places - ((W.take f.Places.toNat).length : Int))) W k i) W.length (fun _ _ => some true) (fun _ _ => True) (fun k i _ hi _ ih => ?_) (fun k _ _ => ?_) BIG () (cR (by omega)) trivial)
 ·simp only [iQ, show decide ((i : Int) < (W.length : Int)) = true by simpa using hi, cond_true, cT hi, Option.bind_some, decide_true, Bool.not_true, cond_false, cA (show i < 9223372036854775807 by omega)]
  exact ih () trivial
 ·simp only [iQ, Int.lt_irrefl, decide_false, cond_false]
  exact k6
theorem aWc (hn : x.Players.Nodup) (hr : ∀ p ∈ x.Players, 0 ≤ p ∧ p < l.Players) : nR l f x (ntL (dG (dY l z x.Week)) 0 x.Players) = some true := by
 have hf2 := hf
 unfold pI at hf2
 simp only [Bool.and_eq_true] at hf2
 have hcl := hf2.1.2
 have hI := (hz.list hw.1 (by omega) (show l.Players ≤ 12 by omega)).2
 have hpl := hz.players
 obtain ⟨hS, hSl⟩ : (dY l z x.Week).Nodup ∧ ((dY l z x.Week).length : Int) ≤ l.Players := (aLl hI (by omega)).resolve_right (by omega)
 have hv : VL f (ntL (dG (dY l z x.Week)) 0 x.Players) := aVo hf hl (fun p hp => by have := hr p hp; omega) fun p => by have := Rk.placeI_range (dY l z x.Week) p; omega
 have k4 := aWd hz hP hw hf hl hn hr hv hS (by omega)
 unfold nR
 rw [aJt hz (show l.Players ≤ 12 by omega) (w := x.Week) (by omega), Option.bind_some, aNn hv hcl, Option.bind_some]
 simp only [decide_true, Bool.not_true, cond_false, Option.bind_some]
 revert k4
 generalize aCa f (ntL (dG (dY l z x.Week)) 0 x.Players) f.Close = y
 generalize ntL (dG (dY l z x.Week)) 0 x.Players = N
 revert hS hSl
 generalize dY l z x.Week = S
 intro hS hSl k4
 have l2 := Rk.filter_loop (fun k i s => gN N S l f x y k i s) S (fun m => decide (m ∈ x.Players)) (fun s => nS N S l f x y s) (fun k i hi s hs => by
  have hsl : s.length ≤ i := by rw [hs]; exact Nat.le_trans (List.length_filter_le _ _) (by simp; omega)
  simp only [gN, show decide ((i : Int) < (S.length : Int)) = true by simpa using hi, cond_true, cT hi, Option.bind_some, dIn _ _ (show x.Players.length ≤ 1000 by omega), cA (show i < 9223372036854775807 by omega), nI (show (s.length + [S[i]].length) * 8 ≤ 140737488355328 by simp; omega)]
  cases decide (S[i] ∈ x.Players) <;> rfl) (fun k s => by
  simp only [gN, Int.lt_irrefl, decide_false, cond_false]) BIG (cR (by omega))
 refine l2.trans ?_
 unfold nS
 have l4 := rR (fun k i s => gO N S l f x y k i s) x.Players.length (fun _ _ => some true) (fun i s => s = (S.filter fun m => decide (m ∈ x.Players)) ++ (x.Players.take i).filter fun m => !decide (m ∈ S)) (fun k i s hi hI ih => by
  have hsl : s.length ≤ 100 := by
   rw [hI, List.length_append]
   have a := List.length_filter_le (fun m => decide (m ∈ x.Players)) S
   have b := List.length_filter_le (fun m => !decide (m ∈ S)) (x.Players.take i)
   have c := List.length_take (i := i) (l := x.Players)
   omega
  simp only [gO, show decide ((i : Int) < (x.Players.length : Int)) = true by simpa using hi, cond_true, cT hi, Option.bind_some, dIn _ _ (show S.length ≤ 1000 by omega), cA (show i < 9223372036854775807 by omega), nI (show (s.length + [x.Players[i]].length) * 8 ≤ 140737488355328 by simp; omega)]
  have ht : x.Players.take (i + 1) = x.Players.take i ++ [x.Players[i]] := by rw [List.take_append_getElem hi]
  by_cases hm : x.Players[i] ∈ S
  ·rw [decide_eq_true hm, Bool.not_true, cond_false]
   exact ih _ (by rw [ht, List.filter_append, hI]; simp [hm])
  ·rw [decide_eq_false hm, Bool.not_false, cond_true]
   exact ih _ (by rw [ht, List.filter_append, hI]; simp [hm])) (fun k s hI => by
  simp only [gO, Int.lt_irrefl, decide_false, cond_false]
  rw [List.take_length] at hI
  rw [hI]; exact k4) BIG (S.filter fun m => decide (m ∈ x.Players)) (cR (by omega)) (by simp)
 exact l4
theorem aWf : fG l f x BIG 0 [] = some true := by
 have hpl := hz.players
 have hI := (hz.list hw.1 (by omega) (show l.Players ≤ 12 by omega)).2
 obtain ⟨hS, hSl⟩ : (dY l z x.Week).Nodup ∧ ((dY l z x.Week).length : Int) ≤ l.Players := (aLl hI (by omega)).resolve_right (by omega)
 refine rR (fun k i s => fG l f x k i s) x.Players.length (fun _ _ => some true) (fun i s => s = ntL (dG (dY l z x.Week)) 0 (x.Players.take i) ∧ (x.Players.take i).Nodup ∧ ∀ p ∈ x.Players.take i, 0 ≤ p ∧ p < l.Players) (fun k i s hi hI2 ih => ?_) (fun k s hI2 => ?_) BIG [] (cR (by omega)) ⟨rfl, by simp, by simp⟩
 ·obtain ⟨h1, h2, h3⟩ := hI2
  have ht : x.Players.take (i + 1) = x.Players.take i ++ [x.Players[i]] := by rw [List.take_append_getElem hi]
  have hsub : sub x.Players 0 (i : Int) = some (x.Players.take i) := by
   unfold sub
   rw [if_pos ⟨Int.le_refl _, by omega, by omega⟩]; simp
  have htl : (x.Players.take i).length ≤ 1000 := by rw [List.length_take]; omega
  simp only [fG, show decide ((i : Int) < (x.Players.length : Int)) = true by simpa using hi, cond_true, cT hi, Option.bind_some, hG, hsub, dIn _ _ htl, sH, cA (show i < 9223372036854775807 by omega)]
  cases hb : (decide (x.Players[i] < 0) || decide (l.Players ≤ x.Players[i]) || decide (x.Players[i] ∈ x.Players.take i)) with
  | true => rfl
  | false =>
   simp only [Bool.or_eq_false_iff, decide_eq_false_iff_not] at hb
   rw [cond_false, aCe hz (show l.Players ≤ 12 by omega) (p := x.Players[i]) (w := x.Week) (by unfold aDa Rk.inB; simp; omega), Option.bind_some]
   have hr := Rk.placeI_range (dY l z x.Week) x.Players[i]
   have hI' : ∀ s', s' = s ++ [⟨(i : Int), 0, 1, x.Players[i], dG (dY l z x.Week) x.Players[i]⟩] → s' = ntL (dG (dY l z x.Week)) 0 (x.Players.take (i + 1)) ∧ (x.Players.take (i + 1)).Nodup ∧ ∀ p ∈ x.Players.take (i + 1), 0 ≤ p ∧ p < l.Players := fun s' hs' => by
    rw [ht]
    refine ⟨?_, ?_, fun p hp => ?_⟩
    ·rw [hs', aLt, h1, List.length_take, Nat.min_eq_left (Nat.le_of_lt hi), Nat.zero_add]
    ·exact List.nodup_append.2 ⟨h2, by simp, fun a ha b hb2 e => hb.2 (by rw [List.mem_singleton] at hb2; rw [← hb2, ← e]; exact ha)⟩
    ·rcases List.mem_append.1 hp with hp | hp
     ·exact h3 p hp
     ·rw [List.mem_singleton] at hp; subst hp; omega
   have hsl : s.length ≤ i := by rw [h1, aIr, List.length_take]; omega
   have happ : ∀ n : Int, app 40 s [(⟨(i : Int), 0, 1, x.Players[i], n⟩ : aN)] = some (s ++ [⟨(i : Int), 0, 1, x.Players[i], n⟩]) := fun n => nI (by simp; omega)
   unfold aDx
   by_cases h0 : dG (dY l z x.Week) x.Players[i] = 0
   ·rw [decide_eq_true h0, cond_true]
    simp only [decide_true, cond_true, happ, Option.bind_some]
    exact ih _ (hI' _ (by rw [h0]))
   ·rw [decide_eq_false h0, cond_false]
    have e1 : decide ((0 : Int) = 3) = false := rfl
    have e2 : decide (dG (dY l z x.Week) x.Players[i] < 1) = false := decide_eq_false (by omega)
    have e3 : decide (l.Players < dG (dY l z x.Week) x.Players[i]) = false := decide_eq_false (by omega)
    simp only [e1, e2, e3, decide_true, Bool.not_true, Bool.or_self, cond_false, happ, Option.bind_some]
    exact ih _ (hI' _ rfl)
 ·simp only [fG, Int.lt_irrefl, decide_false, cond_false]
  rw [List.take_length] at hI2
  rw [hI2.1]
  exact aWc hz hP hw hf hl hI2.2.1 hI2.2.2
end top
theorem zL (l : aU) (f : bE) (x : eJ) (okl : aFd l) (_ : aHk f) (_ : wZ x) : pM l f x = some true := by
 obtain ⟨_, _, ⟨b1, _⟩, ⟨b2, _⟩, ⟨b3, _⟩⟩ := okl
 unfold maxLen at b1 b2 b3
 obtain ⟨b, hb⟩ : ∃ b, kJ l = some b := by
  by_cases h : l.Reports.length ≤ 140737488355328 ∧ l.Bans.length ≤ 140737488355328 ∧ l.Frozen.length ≤ 140737488355328
  ·exact aKz l h
  ·unfold kJ
   rw [hG, Option.bind_some, hG, Option.bind_some]
   have : (decide (60 < (l.Reports.length : Int)) || decide (20 < (l.Bans.length : Int)) || decide (20 < (l.Frozen.length : Int))) = true := by simp only [Bool.or_eq_true, decide_eq_true_eq]; omega
   rw [this]; exact ⟨true, rfl⟩
 unfold pM
 rw [hb, Option.bind_some]
 cases b with
 | true => simp only [cond_true, Option.bind_some, sH]
 | false =>
  obtain ⟨h1, h2⟩ := aJb hb
  rw [cond_false, Rk.dCheck l (by omega) (by omega) (by omega), Option.bind_some, Option.bind_some]
  simp only [hG, Option.bind_some, aQf, sH]
  cases hc : (!decide (rJ l = 0) || decide (x.Week < 0) || decide (250 < x.Week) || decide (10 < (x.Players.length : Int)) || !decide (wK f [] = 0)) with
  | true => rfl
  | false =>
   rw [cond_false]
   simp only [Bool.or_eq_false_iff, Bool.not_eq_false', decide_eq_true_eq, decide_eq_false_iff_not] at hc
   obtain ⟨⟨⟨⟨h3, h4⟩, h5⟩, h6⟩, h7⟩ := hc
   obtain ⟨z, hz⟩ := aTf h3
   exact aWf hz (h2 h3).1 ⟨by omega, by omega⟩ (uP.1 h7).fd (by omega)
end Go.Am
