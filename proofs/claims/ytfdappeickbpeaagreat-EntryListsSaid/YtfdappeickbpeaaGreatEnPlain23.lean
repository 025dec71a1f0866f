/- Plain laws, one behind the other. -/
import Derived.Test.YtfdappeickbpeaaGreatEntryStaysLaw
section
namespace Go.Am
end Go.Am
end
section
namespace Go.Am
end Go.Am
end
section
namespace Go.Am
theorem aRy {l : aO} {x : aM} (h : (pl l x.Player).entered = true) : (upP l x).entered = true ∧ (upP l x).guard = (pl l x.Player).guard ∧ (upP l x).rank = (pl l x.Player).rank := by
 unfold upP
 simp only [h, Bool.not_true, Bool.and_false, cond_false]
 cases decide (x.Kind = 1) || decide (x.Kind = 2) with
 | true => first | exact ⟨h, rfl, rfl⟩ | exact ⟨rfl, rfl, rfl⟩
 | false =>
  simp only [cond_false]
  cases decide (x.Kind = 3) with
  | true => simp only [cond_true]; cases ((decide (x.Hour ≤ l.Field.Freeze) && !(pl l x.Player).wild) && !(pl l x.Player).quit) && decide ((l.wilds.length : Int) < l.Field.Wilds) <;> first | exact ⟨h, rfl, rfl⟩ | exact ⟨rfl, rfl, rfl⟩
  | false =>
   simp only [cond_false]
   cases decide (x.Kind = 4) with
   | true => first | exact ⟨h, rfl, rfl⟩ | exact ⟨rfl, rfl, rfl⟩
   | false => simp only [cond_false]; cases decide (x.Kind = 5) <;> first | exact ⟨h, rfl, rfl⟩ | exact ⟨rfl, rfl, rfl⟩
theorem aQs (l : aO) (x : aM) (n : Int) : pl (dM l x) n = bif decide (n = x.Player) then upP l x else pl l n := by
 have e : pl (dM l x) n = pl (bH l x) n := by unfold pl; rw [rN]
 rw [e, mE]
theorem aLr (l : aO) (x : aM) : (dM l x).Field = l.Field := by
 have e : ∀ l1 : aO, (bif (bH l1 x).frozen then lT (bH l1 x) else bH l1 x).Field = l1.Field := fun l1 => by
  cases (bH l1 x).frozen <;> exact (kR l1 x).1
 unfold dM
 simp only
 rw [e]
 cases decide (l.Field.Freeze < x.Hour) with
 | false => rfl
 | true => exact (gZ l).2.1
end Go.Am
end
section
namespace Go.Am
end Go.Am
end
section
namespace Go.Am
structure Pk (l : aO) (xs : List Int) : Prop where
 nd : xs.Nodup
 len : (xs.length : Int) ≤ plc l
 gd : ((gd l xs : Nat) : Int) ≤ l.Field.Guards
theorem aFc (l : aO) : ∀ (t acc : List Int), Pk l acc → (acc ++ t).Nodup → Pk l (rU l acc t)
 | [], acc, h, _ => h
 | n :: t, acc, h, hn => by
  rw [xR]
  cases hc : psn l acc n with
  | true =>
   rw [cond_true]
   have c := yQ.1 hc
   refine aFc l t _ ⟨?_, ?_, ?_⟩ (by rw [List.append_assoc]; exact hn)
   ·have := List.nodup_append.1 hn
    refine List.nodup_append.2 ⟨this.1, by simp, fun a ha b hb => ?_⟩
    rw [List.mem_singleton.1 hb]
    exact this.2.2 a ha n (by simp)
   ·rw [List.length_append]; simp; omega
   ·rw [wV]
    have := h.gd
    cases hg : (pl l n).guard with
    | true => have := c.2 hg; simp; omega
    | false => simp; exact h.gd
  | false =>
   rw [cond_false]
   refine aFc l t acc h ?_
   exact hn.sublist (List.Sublist.append (List.Sublist.refl _) (List.sublist_cons_self n t))
theorem aRo {l : aO} (h : WF l) : 0 ≤ l.Field.Guards := by
 have hf := h.fd
 unfold rI at hf
 simp only [Bool.and_eq_true, xI] at hf
 omega
theorem aGj {l : aO} (h : WF l) : Pk l (kB l) := by
 have hp := vI h
 exact aFc l _ _ ⟨by simp, by simp; omega, by have := aRo h; simpa [gd] using this⟩ (by simpa using yW h)
theorem aMj (l : aO) (p : Int → Bool) (xs : List Int) : gd l (xs.filter p) ≤ gd l xs :=
 (List.filter_sublist.filter _).length_le
theorem aHy {l : aO} (first : List Int) : ∀ (k : Nat) (late : List Int), Pk l (first ++ late) → Pk l (first ++ jQ l first k late)
 | 0, _, h => h
 | k + 1, late, h => by
  rw [jQ]
  cases hp : decide (((first ++ late).length : Int) < plc l) with
  | false => exact h
  | true =>
   rw [cond_true]
   split
   ·exact h
   ·rename_i m hm
    have hm2 := List.find?_some hm
    unfold lW at hm2
    simp only [Bool.and_eq_true, Bool.not_eq_true', decide_eq_false_iff_not, Bool.or_eq_true, decide_eq_true_eq] at hm2 hp
    refine aHy first k _ ⟨?_, ?_, ?_⟩
    ·rw [← List.append_assoc]
     refine List.nodup_append.2 ⟨h.nd, by simp, fun a ha b hb => ?_⟩
     rw [List.mem_singleton.1 hb]
     intro e
     exact hm2.1.2 (e ▸ ha)
    ·rw [← List.append_assoc, List.length_append]; simp; simp at hp; omega
    ·rw [← List.append_assoc, wV]
     have := h.gd
     cases hg : (pl l m).guard with
     | true =>
      have h2 := hm2.2
      rw [hg] at h2
      simp at h2
      simp only [if_true]
      omega
     | false => simp only [Bool.false_eq_true, if_false, Nat.add_zero]; exact this
end Go.Am
end
section
namespace Go.Am
theorem zF {l l2 : aO} {xs : List Int} (h : ∀ n ∈ xs, (pl l2 n).guard = (pl l n).guard) : gd l2 xs = gd l xs := by
 unfold gd
 rw [List.filter_congr h]
theorem aNi {l : aO} {x : aM} {n : Int} (h : (pl l n).entered = true) : (pl (bH l x) n).guard = (pl l n).guard := by
 rw [mE]
 by_cases e : n = x.Player
 ·subst e; rw [decide_eq_true rfl, cond_true]; exact (aRy h).2.1
 ·rw [decide_eq_false e, cond_false]
theorem aKj {l : aO} {n : Int} (h : isE l.players n = true) : (pl l n).entered = true := by
 rw [wY] at h
 simp only [Bool.and_eq_true] at h
 exact h.1.1
theorem aQr {f : aY} {l : aO} {x : aM} {i : Nat} (h : iH f l i) (hi : i < 60) (hx : iJ x = true) (hm : MS l) (hp : Pk l (dD l)) : Pk (dM l x) (dD (dM l x)) := by
 obtain ⟨l1, h1, hm1, hp1, e1⟩ : ∃ l1, iH f l1 i ∧ MS l1 ∧ Pk l1 (dD l1) ∧ (bif decide (l.Field.Freeze < x.Hour) then dY l else l) = l1 := by
  refine ⟨_, ?_, ?_, ?_, rfl⟩ <;> cases decide (l.Field.Freeze < x.Hour)
  ·exact h
  ·exact mV h
  ·exact hm
  ·intro n hn
   rw [cond_true] at hn ⊢
   rw [kD h] at hn
   rw [(gZ l).1]; exact hm n hn
  ·exact hp
  ·rw [cond_true, kD h]
   have e := gZ l
   refine ⟨hp.nd, ?_, ?_⟩
   ·unfold plc; rw [e.2.1, e.2.2.2]; exact hp.len
   ·rw [zF (l := l) fun n _ => by unfold pl; rw [e.1], e.2.1]; exact hp.gd
 unfold dM
 rw [e1]
 have h2 := sV h1 hi hx
 have ht := kR l1 x
 have hr := (aBl l1 x).1.1
 simp only
 cases hz : (bH l1 x).frozen with
 | false =>
  rw [cond_false]
  unfold dD
  rw [hz, cond_false]
  exact aGj h2.wf
 | true =>
  rw [cond_true]
  have hz1 : l1.frozen = true := by rw [← ht.2.1]; exact hz
  unfold dD at hp1
  rw [hz1, cond_true] at hp1
  have hmm : ∀ n ∈ l1.first ++ l1.late, (pl l1 n).entered = true := fun n hn => by
   refine aKj (hm1 n ?_)
   unfold dD
   rw [hz1, cond_true]; exact hn
  have hF : Pk (bH l1 x) ((l1.first ++ l1.late).filter fun n => isE (bH l1 x).players n) := by
   refine ⟨hp1.nd.sublist List.filter_sublist, ?_, ?_⟩
   ·have a := List.length_filter_le (fun n => isE (bH l1 x).players n) (l1.first ++ l1.late)
    have b := hp1.len
    unfold plc at b ⊢
    rw [ht.1]
    omega
   ·have a := aMj (bH l1 x) (fun n => isE (bH l1 x).players n) (l1.first ++ l1.late)
    have b := zF (l := l1) (l2 := bH l1 x) (xs := l1.first ++ l1.late) fun n hn => aNi (hmm n hn)
    have c := hp1.gd
    rw [ht.1]
    omega
  rw [List.filter_append] at hF
  have k := aHy ((bH l1 x).first.filter fun n => isE (bH l1 x).players n) 100 ((bH l1 x).late.filter fun n => isE (bH l1 x).players n) (by rw [ht.2.2.1, ht.2.2.2]; exact hF)
  have e : dD (lT (bH l1 x)) = ((bH l1 x).first.filter fun n => isE (bH l1 x).players n) ++ jQ (bH l1 x) ((bH l1 x).first.filter fun n => isE (bH l1 x).players n) 100 ((bH l1 x).late.filter fun n => isE (bH l1 x).players n) := by
   unfold dD
   rw [show (lT (bH l1 x)).frozen = true from hz, cond_true]
   rfl
  rw [e]
  exact ⟨k.nd, k.len, k.gd⟩
end Go.Am
end
section
namespace Go.Am
structure Wd (l : aO) : Prop where
 nd : l.wilds.Nodup
 len : (l.wilds.length : Int) ≤ l.Field.Wilds
 fl : ∀ n, n ∈ l.wilds ↔ (pl l n).wild = true
theorem aCr {l l2 : aO} (h : Wd l) (hp : l2.players = l.players) (hw : l2.wilds = l.wilds) (hf : l2.Field = l.Field) : Wd l2 :=
 ⟨by rw [hw]; exact h.nd, by rw [hw, hf]; exact h.len, fun n => by rw [hw, h.fl n]; unfold pl; rw [hp]⟩
theorem aPr {f : aY} (h : rI f = true) : Wd (gO f) := by
 refine ⟨by simp [gO], ?_, fun n => ⟨fun h => by simp [gO] at h, fun h => by simp [pl, gO, aK, zP] at h⟩⟩
 unfold rI at h
 simp only [Bool.and_eq_true, xI] at h
 show (([] : List Int).length : Int) ≤ f.Wilds
 simp; omega
theorem tR (l : aO) (x : aM) : (bH l x).wilds = (bif decide (x.Kind = 3) && (((decide (x.Hour ≤ l.Field.Freeze) && !(pl l x.Player).wild) && !(pl l x.Player).quit) && decide ((l.wilds.length : Int) < l.Field.Wilds)) then l.wilds ++ [x.Player] else bif decide (x.Kind = 4) then l.wilds.filter fun m => !decide (m = x.Player) else l.wilds) ∧
  (bH l x).more = (bif decide (x.Kind = 4) && ((pl l x.Player).wild && decide (l.Field.Freeze < x.Hour)) then l.more + 1 else l.more) ∧
  (upP l x).wild = (bif decide (x.Kind = 3) && (((decide (x.Hour ≤ l.Field.Freeze) && !(pl l x.Player).wild) && !(pl l x.Player).quit) && decide ((l.wilds.length : Int) < l.Field.Wilds)) then true else bif decide (x.Kind = 4) then false else (pl l x.Player).wild) := by
 unfold bH upP
 simp only
 by_cases h1 : x.Kind = 1 ∨ x.Kind = 2
 ·have e : (decide (x.Kind = 1) || decide (x.Kind = 2)) = true := by simpa using h1
  have e3 : decide (x.Kind = 3) = false := decide_eq_false (by omega)
  have e4 : decide (x.Kind = 4) = false := decide_eq_false (by omega)
  rw [e, e3, e4]
  simp only [cond_true, cond_false, Bool.false_and]
  cases decide (x.Hour ≤ l.Field.Close) && !(pl l x.Player).entered <;> simp
 ·have e : (decide (x.Kind = 1) || decide (x.Kind = 2)) = false := by
   rw [Bool.eq_false_iff]; simpa using h1
  rw [e]
  simp only [cond_false]
  by_cases h3 : x.Kind = 3
  ·have e4 : decide (x.Kind = 4) = false := decide_eq_false (by omega)
   rw [e4, decide_eq_true h3]
   simp only [cond_true, cond_false, Bool.false_and, Bool.true_and]
   cases ((decide (x.Hour ≤ l.Field.Freeze) && !(pl l x.Player).wild) && !(pl l x.Player).quit) && decide ((l.wilds.length : Int) < l.Field.Wilds) <;> exact ⟨rfl, rfl, rfl⟩
  ·rw [decide_eq_false h3]
   simp only [cond_false, Bool.false_and]
   cases decide (x.Kind = 4) with
   | true => simp only [cond_true, Bool.true_and]; simp
   | false => simp only [cond_false, Bool.false_and]; cases decide (x.Kind = 5) <;> exact ⟨rfl, rfl, rfl⟩
theorem aPt {l : aO} {x : aM} (h : Wd l) : Wd (bH l x) := by
 have hw := tR l x
 cases hc : decide (x.Kind = 3) && (((decide (x.Hour ≤ l.Field.Freeze) && !(pl l x.Player).wild) && !(pl l x.Player).quit) && decide ((l.wilds.length : Int) < l.Field.Wilds)) with
 | true =>
  rw [hc] at hw
  simp only [cond_true] at hw
  simp only [Bool.and_eq_true, Bool.not_eq_true', decide_eq_true_eq] at hc
  have hnw : x.Player ∉ l.wilds := fun hm => by rw [(h.fl _).1 hm] at hc; exact absurd hc.2.1.1.2 (by simp)
  refine ⟨?_, ?_, fun n => ?_⟩
  ·rw [hw.1]
   refine List.nodup_append.2 ⟨h.nd, by simp, fun a ha b hb => ?_⟩
   rw [List.mem_singleton.1 hb]
   intro e
   exact hnw (e ▸ ha)
  ·rw [hw.1, (kR l x).1, List.length_append]
   simp
   omega
  ·rw [hw.1, mE, List.mem_append, List.mem_singleton]
   by_cases e : n = x.Player
   ·subst e; rw [decide_eq_true rfl, cond_true, hw.2.2]; simp
   ·rw [decide_eq_false e, cond_false, ← h.fl n]; simp [e]
 | false =>
  rw [hc] at hw
  simp only [cond_false] at hw
  cases h4 : decide (x.Kind = 4) with
  | true =>
   rw [h4] at hw
   simp only [cond_true] at hw
   refine ⟨?_, ?_, fun n => ?_⟩
   ·rw [hw.1]; exact h.nd.sublist List.filter_sublist
   ·rw [hw.1, (kR l x).1]
    have := List.length_filter_le (fun m => !decide (m = x.Player)) l.wilds
    have := h.len
    omega
   ·rw [hw.1, mE, List.mem_filter]
    by_cases e : n = x.Player
    ·subst e; rw [decide_eq_true rfl, cond_true, hw.2.2]; simp
    ·rw [decide_eq_false e, cond_false, ← h.fl n]; simp
  | false =>
   rw [h4] at hw
   simp only [cond_false] at hw
   refine ⟨by rw [hw.1]; exact h.nd, by rw [hw.1, (kR l x).1]; exact h.len, fun n => ?_⟩
   rw [hw.1, mE]
   by_cases e : n = x.Player
   ·subst e; rw [decide_eq_true rfl, cond_true, hw.2.2]; exact h.fl _
   ·rw [decide_eq_false e, cond_false]; exact h.fl n
theorem aEq (l : aO) (x : aM) : (dM l x).wilds = (bH l x).wilds ∧ (dM l x).more = (bH l x).more := by
 have e : ∀ l1 : aO, (bif (bH l1 x).frozen then lT (bH l1 x) else bH l1 x).wilds = (bH l1 x).wilds ∧ (bif (bH l1 x).frozen then lT (bH l1 x) else bH l1 x).more = (bH l1 x).more := fun l1 => by
  cases (bH l1 x).frozen <;> exact ⟨rfl, rfl⟩
 unfold dM
 simp only
 rw [(e _).1, (e _).2]
 cases decide (l.Field.Freeze < x.Hour) with
 | false => exact ⟨rfl, rfl⟩
 | true =>
  rw [cond_true]
  have hf := gZ l
  have a := tR (dY l) x
  have b := tR l x
  have ep : ∀ n, pl (dY l) n = pl l n := fun n => by unfold pl; rw [hf.1]
  rw [ep, hf.2.1, hf.2.2.1, hf.2.2.2] at a
  exact ⟨a.1.trans b.1.symm, a.2.1.trans b.2.1.symm⟩
theorem aPs {l : aO} {x : aM} (h : Wd l) : Wd (dM l x) :=
 aCr (aPt (x := x) h) (rN l x) (aEq l x).1 ((aLr l x).trans (kR l x).1.symm)
end Go.Am
end
section
namespace Go.Am
theorem aCo (l : aO) (x : aM) : (dM l x).frozen = (l.frozen || decide (l.Field.Freeze < x.Hour)) := by
 have e : ∀ l1 : aO, (bif (bH l1 x).frozen then lT (bH l1 x) else bH l1 x).frozen = l1.frozen := fun l1 => by
  rw [← (kR l1 x).2.1]
  cases h : (bH l1 x).frozen
  ·exact h
  ·exact h
 unfold dM
 simp only
 rw [e]
 cases decide (l.Field.Freeze < x.Hour) with
 | false => simp
 | true =>
  rw [cond_true, Bool.or_true]
  unfold dY
  cases h : l.frozen
  ·rfl
  ·exact h
end Go.Am
end
section
namespace Go.Am
end Go.Am
end
