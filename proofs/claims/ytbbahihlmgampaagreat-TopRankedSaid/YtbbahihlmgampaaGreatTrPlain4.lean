/- TopRanked: who is in by a list, and who is not; the places in a list. -/
import Derived.Test.YtbbahihlmgampaaGreatTrPlain3
import Derived.Test.YtbbahihlmgampaaGreatRkPlain14
namespace Go.Am
open Rk (dG)
theorem aQv (p : Int) : dG [] p = 0 := rfl
theorem uY (a : Int) (t : List Int) (p : Int) : dG (a :: t) p = if p = a then 1 else if dG t p = 0 then 0 else dG t p + 1 := by
 unfold dG Rk.findI
 rw [List.findIdx_cons]
 by_cases h : p = a
 ·rw [decide_eq_true h, if_pos h]
  simp
 ·rw [decide_eq_false h, if_neg h, cond_false]
  by_cases h2 : t.findIdx (fun x => decide (p = x)) < t.length
  ·rw [if_pos h2, if_pos (by simp only [List.length_cons]; omega), if_neg (by omega)]
   omega
  ·rw [if_neg h2, if_neg (by simp only [List.length_cons]; omega), if_pos (by omega)]
   omega
theorem xZ (p : Int) : ∀ S : List Int, dG S p = 0 ↔ p ∉ S
 | [] => by simp [aQv]
 | a :: t => by
  have := Rk.placeI_range t p
  rw [uY, List.mem_cons, not_or, ← xZ p t]
  by_cases h : p = a
  ·rw [if_pos h]; simp [h]
  ·rw [if_neg h]
   by_cases h2 : dG t p = 0
   ·rw [if_pos h2]; simp [h, h2]
   ·rw [if_neg h2]; constructor
    ·intro h3; omega
    ·intro h3; exact absurd h3.2 h2
theorem aMb : ∀ {S : List Int}, S.Nodup → S.Pairwise fun x y => dG S x < dG S y
 | [], _ => .nil
 | a :: t, h => by
  have h1 := List.nodup_cons.1 h
  have hne : ∀ y ∈ t, y ≠ a := fun y hy e => h1.1 (by rw [← e]; exact hy)
  have hpos : ∀ y ∈ t, dG t y ≠ 0 := fun y hy e => (xZ y t).1 e hy
  refine List.pairwise_cons.2 ⟨fun y hy => ?_, (aMb h1.2).imp_of_mem fun {x y} hx hy hxy => ?_⟩
  ·have := Rk.placeI_range t y
   have := hpos y hy
   rw [uY, uY, if_pos rfl, if_neg (hne y hy), if_neg (hpos y hy)]
   omega
  ·rw [uY, uY, if_neg (hne x hx), if_neg (hne y hy), if_neg (hpos x hx), if_neg (hpos y hy)]
   omega
def jY (S ps : List Int) : List Int := (S.filter fun m => decide (m ∈ ps)) ++ ps.filter fun m => !decide (m ∈ S)
theorem aCo (S ps : List Int) (m : Int) : m ∈ jY S ps ↔ m ∈ ps := by
 unfold jY
 simp only [List.mem_append, List.mem_filter, decide_eq_true_eq, Bool.not_eq_true', decide_eq_false_iff_not]
 by_cases h : m ∈ S <;> simp [h]
theorem vP {f : bE} {rk : Int → Int} {ps : List Int} {L : aO} (h : xJ f rk ps L) {m : Int} (hm : m ∈ ps) : pl L m = ⟨true, false, rk m, (pl L m).turn, false, false, false, false⟩ ∧ 1 ≤ (pl L m).turn ∧ (pl L m).turn ≤ (ps.length : Int) := by
 obtain ⟨j, hj, rfl⟩ := List.getElem_of_mem hm
 rw [h.yes j hj]
 refine ⟨rfl, ?_, ?_⟩ <;> simp only <;> omega
theorem aTv {f : bE} {rk : Int → Int} {ps : List Int} {L : aO} (h : xJ f rk ps L) (m : Int) : isE L.players m = true ↔ m ∈ ps := by
 rw [aLh]
 by_cases hm : m ∈ ps
 ·rw [(vP h hm).1]; simp [hm]
 ·rw [h.no m hm]; simp [hm]
theorem aRu {f : bE} {rk : Int → Int} {ps : List Int} {L : aO} (h : xJ f rk ps L) : ps.Pairwise fun a b => (pl L a).turn < (pl L b).turn := by
 refine List.pairwise_iff_getElem.2 fun i j hi hj hij => ?_
 rw [h.yes i hi, h.yes j hj]
 simp only; omega
theorem aNs {f : bE} {rk : Int → Int} {ps : List Int} {L : aO} (h : xJ f rk ps L) {m : Int} (hm : m ∈ ps) : lK L m = (if rk m = 0 then 10000 else rk m) * 100 + (pl L m).turn := by
 have e := (vP h hm).1
 have e2 : (pl L m).rank = rk m := by rw [e]
 unfold lK
 rw [e2]
theorem aRr {f : bE} {S ps : List Int} {L : aO} (hS : S.Nodup) (hSl : S.length ≤ 16) (hl : ps.length ≤ 10) (h : xJ f (dG S) ps L) (hw : WF L) : gJ L = jY S ps := by
 refine oE (aEw hw) ?_ fun m => by rw [aFs, aTv h, aCo]
 have k1 : ∀ m ∈ S, m ∈ ps → lK L m = dG S m * 100 + (pl L m).turn ∧ 1 ≤ dG S m ∧ dG S m ≤ 16 ∧ 1 ≤ (pl L m).turn ∧ (pl L m).turn ≤ 10 := fun m hm hp => by
  have h0 : dG S m ≠ 0 := fun e => (xZ m S).1 e hm
  have r := Rk.placeI_range S m
  obtain ⟨_, t1, t2⟩ := vP h hp
  rw [aNs h hp, if_neg h0]
  refine ⟨rfl, ?_, ?_, t1, ?_⟩ <;> omega
 have k2 : ∀ m, m ∉ S → m ∈ ps → lK L m = 1000000 + (pl L m).turn ∧ 1 ≤ (pl L m).turn ∧ (pl L m).turn ≤ 10 := fun m hm hp => by
  obtain ⟨_, t1, t2⟩ := vP h hp
  rw [aNs h hp, if_pos ((xZ m S).2 hm)]
  refine ⟨by omega, t1, ?_⟩; omega
 unfold jY
 refine List.pairwise_append.2 ⟨?_, ?_, fun a ha b hb => ?_⟩
 ·refine ((aMb hS).filter _).imp_of_mem fun {a b} ha hb hab => ?_
  have ha := List.mem_filter.1 ha
  have hb := List.mem_filter.1 hb
  obtain ⟨e1, _⟩ := k1 a ha.1 (by simpa using ha.2)
  obtain ⟨e2, _⟩ := k1 b hb.1 (by simpa using hb.2)
  have := k1 a ha.1 (by simpa using ha.2)
  have := k1 b hb.1 (by simpa using hb.2)
  omega
 ·refine ((aRu h).filter _).imp_of_mem fun {a b} ha hb hab => ?_
  have ha := List.mem_filter.1 ha
  have hb := List.mem_filter.1 hb
  have := k2 a (by simpa using ha.2) ha.1
  have := k2 b (by simpa using hb.2) hb.1
  omega
 ·have ha := List.mem_filter.1 ha
  have hb := List.mem_filter.1 hb
  have := k1 a ha.1 (by simpa using ha.2)
  have := k2 b (by simpa using hb.2) hb.1
  omega
theorem aIe {S ps : List Int} (hS : S.Nodup) (hp : ps.Nodup) : (jY S ps).Nodup := by
 unfold jY
 refine List.nodup_append.2 ⟨hS.sublist List.filter_sublist, hp.sublist List.filter_sublist, fun a ha b hb e => ?_⟩
 have ha := List.mem_filter.1 ha
 have hb := List.mem_filter.1 hb
 subst e
 have := hb.2
 simp [ha.1] at this
theorem aGd {L : aO} : ∀ (t acc : List Int), (∀ n ∈ t, (pl L n).guard = false) → zA L acc t = acc ++ t.take ((plc L).toNat - acc.length)
 | [], acc, _ => by simp [zA]
 | n :: t, acc, h => by
  rw [zA, h n List.mem_cons_self, Bool.not_false, Bool.true_or, Bool.and_true]
  by_cases hc : (acc.length : Int) < plc L
  ·rw [decide_eq_true hc, cond_true, aGd t _ fun m hm => h m (List.mem_cons_of_mem _ hm)]
   have e : (plc L).toNat - acc.length = ((plc L).toNat - (acc ++ [n]).length) + 1 := by simp; omega
   rw [e, List.take_succ_cons, List.append_assoc]; rfl
  ·rw [decide_eq_false hc, cond_false, aGd t _ fun m hm => h m (List.mem_cons_of_mem _ hm)]
   have e : (plc L).toNat - acc.length = 0 := by omega
   rw [e]; simp
theorem aMx {l : List Int} (h : l.Nodup) (k : Nat) : (l.filter fun n => !decide (n ∈ l.take k)) = l.drop k := by
 have hd : (l.take k ++ l.drop k).Nodup := by rw [List.take_append_drop]; exact h
 have hdis := (List.nodup_append.1 hd).2.2
 have e : (l.filter fun n => !decide (n ∈ l.take k)) = (l.take k ++ l.drop k).filter fun n => !decide (n ∈ l.take k) := by rw [List.take_append_drop]
 rw [e, List.filter_append, List.filter_eq_nil_iff.2 fun a ha => by simp [ha], List.nil_append]
 exact List.filter_eq_self.2 fun a ha => by
  rw [Bool.not_eq_true', decide_eq_false_iff_not]
  exact fun hm => hdis a hm a ha rfl
theorem aQk {M D : List Int} (hd : ∀ x ∈ D, x ∉ M) (q : Int → Bool) (hq : ∀ x, q x = decide (x ∈ M)) : (M ++ D).reverse.find? q = M.getLast? := by
 rw [List.reverse_append, List.find?_append]
 have : D.reverse.find? q = none := List.find?_eq_none.2 fun x hx => by rw [hq]; simpa using hd x (by simpa using hx)
 rw [this, Option.none_or, List.getLast?_eq_head?_reverse]
 cases hM : M.reverse with
 | nil => rfl
 | cons a t =>
  have : a ∈ M := by rw [← List.mem_reverse, hM]; exact List.mem_cons_self
  rw [List.find?_cons_of_pos (by rw [hq]; simpa using this)]; rfl
def aTg (g : Int → Int) : Option Int → Int × Int
 | some n => (g n, 0)
 | none => (0, 3)
section after
variable {f : bE} {S ps : List Int} (h : VL f (ntL (dG S) 0 ps)) (hS : S.Nodup) (hSl : S.length ≤ 16) (hn : ps.Nodup) (hl : ps.length ≤ 10)
include h hS hSl hn hl
theorem aGk : gJ (cZ f (ntL (dG S) 0 ps) f.Close) = jY S ps := by
 obtain ⟨j, _, g⟩ := xR h f.Close
 exact aRr hS hSl hl (zN h hn (by omega)) g.wf
theorem aEh : lF (cZ f (ntL (dG S) 0 ps) f.Close) = (jY S ps).take f.Places.toNat := by
 have e := zN h hn (by omega)
 unfold lF qP
 rw [e.fz, cond_false, aGk h hS hSl hn hl, aGd _ _ fun m hm => by rw [(vP e ((aCo S ps m).1 hm)).1]]
 unfold plc
 rw [e.fd, e.mr]
 simp
theorem aSv : aGf (cZ f (ntL (dG S) 0 ps) f.Close) = (jY S ps).drop f.Places.toNat := by
 unfold aGf
 rw [aGk h hS hSl hn hl, aEh h hS hSl hn hl]
 exact aMx (aIe hS hn) _
theorem aRg : aCa f (ntL (dG S) 0 ps) f.Close = eR.mk ((jY S ps).take f.Places.toNat) [] ((jY S ps).drop f.Places.toNat) (f.Places - (((jY S ps).take f.Places.toNat).length : Int)) := by
 have e := zN h hn (by omega)
 unfold aCa
 rw [aEh h hS hSl hn hl, aSv h hS hSl hn hl, e.wl]
 unfold plc
 rw [e.fd, e.mr, Int.add_zero]
theorem aSu : aOt (cZ f (ntL (dG S) 0 ps) f.Close) = aTg (dG S) ((jY S ps).take f.Places.toNat).getLast? := by
 have e := zN h hn (by omega)
 have hd : ((jY S ps).take f.Places.toNat ++ (jY S ps).drop f.Places.toNat).Nodup := by rw [List.take_append_drop]; exact aIe hS hn
 have hdis := (List.nodup_append.1 hd).2.2
 have hg : ∀ m, (pl (cZ f (ntL (dG S) 0 ps) f.Close) m).guard = false := fun m => by
  by_cases hm : m ∈ ps
  ·rw [(vP e hm).1]
  ·rw [e.no m hm]
 unfold aOt
 rw [aGk h hS hSl hn hl, aEh h hS hSl hn hl]
 have k := aQk (M := (jY S ps).take f.Places.toNat) (D := (jY S ps).drop f.Places.toNat) (fun x hx hm => hdis x hm x hx rfl) (fun n => !(pl (cZ f (ntL (dG S) 0 ps) f.Close) n).guard && decide (n ∈ (jY S ps).take f.Places.toNat)) fun x => by rw [hg, Bool.not_false, Bool.true_and]
 rw [List.take_append_drop] at k
 rw [k]
 cases hx : ((jY S ps).take f.Places.toNat).getLast? with
 | none => rfl
 | some n =>
  have hm : n ∈ ps := (aCo S ps n).1 (List.mem_of_mem_take (List.mem_of_getLast? hx))
  show ((pl _ n).rank, (0 : Int)) = _
  rw [(vP e hm).1]; rfl
end after
end Go.Am
