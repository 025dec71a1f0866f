/- Plain laws, one behind the other. -/
import Derived.Test.YtfdappeickbpeaaGreatEntryStaysLaw
section
namespace Go.Am
end Go.Am
end
section
namespace Go.Am
end Go.Am
end
section
namespace Go.Am
theorem aZd {l : aN} {x : aO} (h : (pl l x.Player).entered = true) : (upP l x).entered = true ∧ (upP l x).guard = (pl l x.Player).guard ∧ (upP l x).rank = (pl l x.Player).rank := by
 unfold upP
 simp only [h, Bool.not_true, Bool.and_false, cond_false]
 cases decide (x.Kind = 1) || decide (x.Kind = 2) with
 | true => first | exact ⟨h, rfl, rfl⟩ | exact ⟨rfl, rfl, rfl⟩
 | false =>
  simp only [cond_false]
  cases decide (x.Kind = 3) with
  | true => simp only [cond_true]; cases ((decide (x.Hour ≤ l.Field.Freeze) && !(pl l x.Player).wild) && !(pl l x.Player).quit) && decide ((l.wilds.length : Int) < l.Field.Wilds) <;> first | exact ⟨h, rfl, rfl⟩ | exact ⟨rfl, rfl, rfl⟩
  | false =>
   simp only [cond_false]
   cases decide (x.Kind = 4) with
   | true => first | exact ⟨h, rfl, rfl⟩ | exact ⟨rfl, rfl, rfl⟩
   | false => simp only [cond_false]; cases decide (x.Kind = 5) <;> first | exact ⟨h, rfl, rfl⟩ | exact ⟨rfl, rfl, rfl⟩
theorem aBs (l : aN) (x : aO) (n : Int) : pl (cA l x) n = bif decide (n = x.Player) then upP l x else pl l n := by
 have e : pl (cA l x) n = pl (bK l x) n := by unfold pl; rw [tY]
 rw [e, nV]
theorem aCw (l : aN) (x : aO) : (cA l x).Field = l.Field := by
 have e : ∀ l1 : aN, (bif (bK l1 x).frozen then kW (bK l1 x) else bK l1 x).Field = l1.Field := fun l1 => by
  cases (bK l1 x).frozen <;> exact (kY l1 x).1
 unfold cA
 simp only
 rw [e]
 cases decide (l.Field.Freeze < x.Hour) with
 | false => rfl
 | true => exact (gA l).2.1
end Go.Am
end
section
namespace Go.Am
theorem aYx {f : aT} {l : aN} {i : Nat} (h : gE f l i) (hour n : Int) : pl (pK hour l) n = pl l n := by
 unfold pl; rw [(aBy h hour).2.2]
end Go.Am
end
section
namespace Go.Am
structure Pk (l : aN) (xs : List Int) : Prop where
 nd : xs.Nodup
 len : (xs.length : Int) ≤ plc l
 gd : ((gd l xs : Nat) : Int) ≤ l.Field.Guards
theorem aIx (l : aN) : ∀ (t acc : List Int), Pk l acc → (acc ++ t).Nodup → Pk l (tA l acc t)
 | [], acc, h, _ => h
 | n :: t, acc, h, hn => by
  rw [aAp]
  cases hc : psn l acc n with
  | true =>
   rw [cond_true]
   have c := aBp.1 hc
   refine aIx l t _ ⟨?_, ?_, ?_⟩ (by rw [List.append_assoc]; exact hn)
   ·have := List.nodup_append.1 hn
    refine List.nodup_append.2 ⟨this.1, by simp, fun a ha b hb => ?_⟩
    rw [List.mem_singleton.1 hb]
    exact this.2.2 a ha n (by simp)
   ·rw [List.length_append]; simp; omega
   ·rw [zM]
    have := h.gd
    cases hg : (pl l n).guard with
    | true => have := c.2 hg; simp; omega
    | false => simp; exact h.gd
  | false =>
   rw [cond_false]
   refine aIx l t acc h ?_
   exact hn.sublist (List.Sublist.append (List.Sublist.refl _) (List.sublist_cons_self n t))
theorem aMc {l : aN} (h : WF l) : 0 ≤ l.Field.Guards := by
 have hf := h.fd
 unfold tB at hf
 simp only [Bool.and_eq_true, yA] at hf
 omega
theorem aEj {l : aN} (h : WF l) : Pk l (lL l) := by
 have hp := qA h
 exact aIx l _ _ ⟨by simp, by simp; omega, by have := aMc h; simpa [gd] using this⟩ (by simpa using pT h)
theorem aSh (l : aN) (p : Int → Bool) (xs : List Int) : gd l (xs.filter p) ≤ gd l xs :=
 (List.filter_sublist.filter _).length_le
theorem aMe {l : aN} (first : List Int) : ∀ (k : Nat) (late : List Int), Pk l (first ++ late) → Pk l (first ++ iH l first k late)
 | 0, _, h => h
 | k + 1, late, h => by
  rw [iH]
  cases hp : decide (((first ++ late).length : Int) < plc l) with
  | false => exact h
  | true =>
   rw [cond_true]
   split
   ·exact h
   ·rename_i m hm
    have hm2 := List.find?_some hm
    unfold jO at hm2
    simp only [Bool.and_eq_true, Bool.not_eq_true', decide_eq_false_iff_not, Bool.or_eq_true, decide_eq_true_eq] at hm2 hp
    refine aMe first k _ ⟨?_, ?_, ?_⟩
    ·rw [← List.append_assoc]
     refine List.nodup_append.2 ⟨h.nd, by simp, fun a ha b hb => ?_⟩
     rw [List.mem_singleton.1 hb]
     intro e
     exact hm2.1.2 (e ▸ ha)
    ·rw [← List.append_assoc, List.length_append]; simp; simp at hp; omega
    ·rw [← List.append_assoc, zM]
     have := h.gd
     cases hg : (pl l m).guard with
     | true =>
      have h2 := hm2.2
      rw [hg] at h2
      simp at h2
      simp only [if_true]
      omega
     | false => simp only [Bool.false_eq_true, if_false, Nat.add_zero]; exact this
end Go.Am
end
section
namespace Go.Am
theorem zN {l l2 : aN} {xs : List Int} (h : ∀ n ∈ xs, (pl l2 n).guard = (pl l n).guard) : gd l2 xs = gd l xs := by
 unfold gd
 rw [List.filter_congr h]
theorem aTo {l : aN} {x : aO} {n : Int} (h : (pl l n).entered = true) : (pl (bK l x) n).guard = (pl l n).guard := by
 rw [nV]
 by_cases e : n = x.Player
 ·subst e; rw [decide_eq_true rfl, cond_true]; exact (aZd h).2.1
 ·rw [decide_eq_false e, cond_false]
theorem aIv {l : aN} {n : Int} (h : isE l.players n = true) : (pl l n).entered = true := by
 rw [tS] at h
 simp only [Bool.and_eq_true] at h
 exact h.1.1
theorem aPt {f : aT} {l : aN} {x : aO} {i : Nat} (h : gE f l i) (hi : i < 60) (hx : gQ x = true) (hm : MS l) (hp : Pk l (bD l)) : Pk (cA l x) (bD (cA l x)) := by
 obtain ⟨l1, h1, hm1, hp1, e1⟩ : ∃ l1, gE f l1 i ∧ MS l1 ∧ Pk l1 (bD l1) ∧ (bif decide (l.Field.Freeze < x.Hour) then dT l else l) = l1 := by
  refine ⟨_, ?_, ?_, ?_, rfl⟩ <;> cases decide (l.Field.Freeze < x.Hour)
  ·exact h
  ·exact nK h
  ·exact hm
  ·intro n hn
   rw [cond_true] at hn ⊢
   rw [lR h] at hn
   rw [(gA l).1]; exact hm n hn
  ·exact hp
  ·rw [cond_true, lR h]
   have e := gA l
   refine ⟨hp.nd, ?_, ?_⟩
   ·unfold plc; rw [e.2.1, e.2.2.2]; exact hp.len
   ·rw [zN (l := l) fun n _ => by unfold pl; rw [e.1], e.2.1]; exact hp.gd
 unfold cA
 rw [e1]
 have h2 := tZ h1 hi hx
 have ht := kY l1 x
 have hr := (aEz l1 x).1.1
 simp only
 cases hz : (bK l1 x).frozen with
 | false =>
  rw [cond_false]
  unfold bD
  rw [hz, cond_false]
  exact aEj h2.wf
 | true =>
  rw [cond_true]
  have hz1 : l1.frozen = true := by rw [← ht.2.1]; exact hz
  unfold bD at hp1
  rw [hz1, cond_true] at hp1
  have hmm : ∀ n ∈ l1.first ++ l1.late, (pl l1 n).entered = true := fun n hn => by
   refine aIv (hm1 n ?_)
   unfold bD
   rw [hz1, cond_true]; exact hn
  have hF : Pk (bK l1 x) ((l1.first ++ l1.late).filter fun n => isE (bK l1 x).players n) := by
   refine ⟨hp1.nd.sublist List.filter_sublist, ?_, ?_⟩
   ·have a := List.length_filter_le (fun n => isE (bK l1 x).players n) (l1.first ++ l1.late)
    have b := hp1.len
    unfold plc at b ⊢
    rw [ht.1]
    omega
   ·have a := aSh (bK l1 x) (fun n => isE (bK l1 x).players n) (l1.first ++ l1.late)
    have b := zN (l := l1) (l2 := bK l1 x) (xs := l1.first ++ l1.late) fun n hn => aTo (hmm n hn)
    have c := hp1.gd
    rw [ht.1]
    omega
  rw [List.filter_append] at hF
  have k := aMe ((bK l1 x).first.filter fun n => isE (bK l1 x).players n) 100 ((bK l1 x).late.filter fun n => isE (bK l1 x).players n) (by rw [ht.2.2.1, ht.2.2.2]; exact hF)
  have e : bD (kW (bK l1 x)) = ((bK l1 x).first.filter fun n => isE (bK l1 x).players n) ++ iH (bK l1 x) ((bK l1 x).first.filter fun n => isE (bK l1 x).players n) 100 ((bK l1 x).late.filter fun n => isE (bK l1 x).players n) := by
   unfold bD
   rw [show (kW (bK l1 x)).frozen = true from hz, cond_true]
   rfl
  rw [e]
  exact ⟨k.nd, k.len, k.gd⟩
end Go.Am
end
section
namespace Go.Am
structure Wd (l : aN) : Prop where
 nd : l.wilds.Nodup
 len : (l.wilds.length : Int) ≤ l.Field.Wilds
 fl : ∀ n, n ∈ l.wilds ↔ (pl l n).wild = true
theorem aBt {l l2 : aN} (h : Wd l) (hp : l2.players = l.players) (hw : l2.wilds = l.wilds) (hf : l2.Field = l.Field) : Wd l2 :=
 ⟨by rw [hw]; exact h.nd, by rw [hw, hf]; exact h.len, fun n => by rw [hw, h.fl n]; unfold pl; rw [hp]⟩
theorem aOz {f : aT} (h : tB f = true) : Wd (eI f) := by
 refine ⟨by simp [eI], ?_, fun n => ⟨fun h => by simp [eI] at h, fun h => by simp [pl, eI, aL, zP] at h⟩⟩
 unfold tB at h
 simp only [Bool.and_eq_true, yA] at h
 show (([] : List Int).length : Int) ≤ f.Wilds
 simp; omega
theorem rU (l : aN) (x : aO) : (bK l x).wilds = (bif decide (x.Kind = 3) && (((decide (x.Hour ≤ l.Field.Freeze) && !(pl l x.Player).wild) && !(pl l x.Player).quit) && decide ((l.wilds.length : Int) < l.Field.Wilds)) then l.wilds ++ [x.Player] else bif decide (x.Kind = 4) then l.wilds.filter fun m => !decide (m = x.Player) else l.wilds) ∧
  (bK l x).more = (bif decide (x.Kind = 4) && ((pl l x.Player).wild && decide (l.Field.Freeze < x.Hour)) then l.more + 1 else l.more) ∧
  (upP l x).wild = (bif decide (x.Kind = 3) && (((decide (x.Hour ≤ l.Field.Freeze) && !(pl l x.Player).wild) && !(pl l x.Player).quit) && decide ((l.wilds.length : Int) < l.Field.Wilds)) then true else bif decide (x.Kind = 4) then false else (pl l x.Player).wild) := by
 unfold bK upP
 simp only
 by_cases h1 : x.Kind = 1 ∨ x.Kind = 2
 ·have e : (decide (x.Kind = 1) || decide (x.Kind = 2)) = true := by simpa using h1
  have e3 : decide (x.Kind = 3) = false := decide_eq_false (by omega)
  have e4 : decide (x.Kind = 4) = false := decide_eq_false (by omega)
  rw [e, e3, e4]
  simp only [cond_true, cond_false, Bool.false_and]
  cases decide (x.Hour ≤ l.Field.Close) && !(pl l x.Player).entered <;> simp
 ·have e : (decide (x.Kind = 1) || decide (x.Kind = 2)) = false := by
   rw [Bool.eq_false_iff]; simpa using h1
  rw [e]
  simp only [cond_false]
  by_cases h3 : x.Kind = 3
  ·have e4 : decide (x.Kind = 4) = false := decide_eq_false (by omega)
   rw [e4, decide_eq_true h3]
   simp only [cond_true, cond_false, Bool.false_and, Bool.true_and]
   cases ((decide (x.Hour ≤ l.Field.Freeze) && !(pl l x.Player).wild) && !(pl l x.Player).quit) && decide ((l.wilds.length : Int) < l.Field.Wilds) <;> exact ⟨rfl, rfl, rfl⟩
  ·rw [decide_eq_false h3]
   simp only [cond_false, Bool.false_and]
   cases decide (x.Kind = 4) with
   | true => simp only [cond_true, Bool.true_and]; simp
   | false => simp only [cond_false, Bool.false_and]; cases decide (x.Kind = 5) <;> exact ⟨rfl, rfl, rfl⟩
theorem aWs {l : aN} {x : aO} (h : Wd l) : Wd (bK l x) := by
 have hw := rU l x
 cases hc : decide (x.Kind = 3) && (((decide (x.Hour ≤ l.Field.Freeze) && !(pl l x.Player).wild) && !(pl l x.Player).quit) && decide ((l.wilds.length : Int) < l.Field.Wilds)) with
 | true =>
  rw [hc] at hw
  simp only [cond_true] at hw
  simp only [Bool.and_eq_true, Bool.not_eq_true', decide_eq_true_eq] at hc
  have hnw : x.Player ∉ l.wilds := fun hm => by rw [(h.fl _).1 hm] at hc; exact absurd hc.2.1.1.2 (by simp)
  refine ⟨?_, ?_, fun n => ?_⟩
  ·rw [hw.1]
   refine List.nodup_append.2 ⟨h.nd, by simp, fun a ha b hb => ?_⟩
   rw [List.mem_singleton.1 hb]
   intro e
   exact hnw (e ▸ ha)
  ·rw [hw.1, (kY l x).1, List.length_append]
   simp
   omega
  ·rw [hw.1, nV, List.mem_append, List.mem_singleton]
   by_cases e : n = x.Player
   ·subst e; rw [decide_eq_true rfl, cond_true, hw.2.2]; simp
   ·rw [decide_eq_false e, cond_false, ← h.fl n]; simp [e]
 | false =>
  rw [hc] at hw
  simp only [cond_false] at hw
  cases h4 : decide (x.Kind = 4) with
  | true =>
   rw [h4] at hw
   simp only [cond_true] at hw
   refine ⟨?_, ?_, fun n => ?_⟩
   ·rw [hw.1]; exact h.nd.sublist List.filter_sublist
   ·rw [hw.1, (kY l x).1]
    have := List.length_filter_le (fun m => !decide (m = x.Player)) l.wilds
    have := h.len
    omega
   ·rw [hw.1, nV, List.mem_filter]
    by_cases e : n = x.Player
    ·subst e; rw [decide_eq_true rfl, cond_true, hw.2.2]; simp
    ·rw [decide_eq_false e, cond_false, ← h.fl n]; simp
  | false =>
   rw [h4] at hw
   simp only [cond_false] at hw
   refine ⟨by rw [hw.1]; exact h.nd, by rw [hw.1, (kY l x).1]; exact h.len, fun n => ?_⟩
   rw [hw.1, nV]
   by_cases e : n = x.Player
   ·subst e; rw [decide_eq_true rfl, cond_true, hw.2.2]; exact h.fl _
   ·rw [decide_eq_false e, cond_false]; exact h.fl n
theorem aCx (l : aN) (x : aO) : (cA l x).wilds = (bK l x).wilds ∧ (cA l x).more = (bK l x).more := by
 have e : ∀ l1 : aN, (bif (bK l1 x).frozen then kW (bK l1 x) else bK l1 x).wilds = (bK l1 x).wilds ∧ (bif (bK l1 x).frozen then kW (bK l1 x) else bK l1 x).more = (bK l1 x).more := fun l1 => by
  cases (bK l1 x).frozen <;> exact ⟨rfl, rfl⟩
 unfold cA
 simp only
 rw [(e _).1, (e _).2]
 cases decide (l.Field.Freeze < x.Hour) with
 | false => exact ⟨rfl, rfl⟩
 | true =>
  rw [cond_true]
  have hf := gA l
  have a := rU (dT l) x
  have b := rU l x
  have ep : ∀ n, pl (dT l) n = pl l n := fun n => by unfold pl; rw [hf.1]
  rw [ep, hf.2.1, hf.2.2.1, hf.2.2.2] at a
  exact ⟨a.1.trans b.1.symm, a.2.1.trans b.2.1.symm⟩
theorem aPa {l : aN} {x : aO} (h : Wd l) : Wd (cA l x) :=
 aBt (aWs (x := x) h) (tY l x) (aCx l x).1 ((aCw l x).trans (kY l x).1.symm)
theorem aOy : ∀ (t : List aO) {l : aN}, Wd l → Wd (t.foldl cA l)
 | [], _, h => h
 | _ :: t, _, h => aOy t (aPa h)
theorem aAl {xs : List Int} (h : xs.Nodup) {n : Int} (hn : n ∈ xs) : (xs.filter fun m => !decide (m = n)).length + 1 = xs.length := by
 induction xs with
 | nil => simp at hn
 | cons a t ih =>
  have h1 := List.nodup_cons.1 h
  by_cases e : a = n
  ·subst e
   rw [List.filter_cons_of_neg (by simp), List.filter_eq_self.2 fun m hm => by simp; rintro rfl; exact h1.1 hm]
   rfl
  ·rw [List.filter_cons_of_pos (by simp [e])]
   have := ih h1.2 ((List.mem_cons.1 hn).resolve_left fun h => e h.symm)
   simp only [List.length_cons]
   omega
end Go.Am
end
section
namespace Go.Am
def WQ (l : aN) : Prop := ∀ n, (pl l n).wild = true → (pl l n).quit = false
theorem aWr {l : aN} {x : aO} (h : WQ l) : WQ (cA l x) := by
 intro n
 rw [aBs]
 by_cases e : n = x.Player
 ·subst e
  rw [decide_eq_true rfl, cond_true, (rU l x).2.2]
  intro hw
  cases hq : (upP l x).quit with
  | false => rfl
  | true =>
   rcases (aPo l x).1 hq with h2 | h4
   ·cases hc : decide (x.Kind = 3) && (((decide (x.Hour ≤ l.Field.Freeze) && !(pl l x.Player).wild) && !(pl l x.Player).quit) && decide ((l.wilds.length : Int) < l.Field.Wilds)) with
    | true => rw [h2] at hc; simp at hc
    | false =>
     rw [hc, cond_false] at hw
     cases h4 : decide (x.Kind = 4) with
     | true => rw [h4] at hw; cases hw
     | false =>
      rw [h4, cond_false] at hw
      rw [h _ hw] at h2; cases h2
   ·rw [decide_eq_false (show ¬ x.Kind = 3 by omega), decide_eq_true h4] at hw
    cases hw
 ·rw [decide_eq_false e, cond_false]; exact h n
theorem aOx : ∀ (t : List aO) {l : aN}, WQ l → WQ (t.foldl cA l)
 | [], _, h => h
 | _ :: t, _, h => aOx t (aWr h)
theorem aWq (f : aT) : WQ (eI f) := fun n h => by simp [pl, eI, aL, zP] at h
theorem aXt (l : aN) (x : aO) : (upP l x).signed = true ↔ (pl l x.Player).signed = true ∨ x.Kind = 5 := by
 unfold upP
 simp only
 by_cases h5 : x.Kind = 5
 ·simp [h5]
 ·simp only [h5, decide_false, cond_false, or_false]
  cases decide (x.Kind = 1) || decide (x.Kind = 2) with
  | true => simp only [cond_true]; cases decide (x.Hour ≤ l.Field.Close) && !(pl l x.Player).entered <;> exact Iff.rfl
  | false =>
   simp only [cond_false]
   cases decide (x.Kind = 3) with
   | true => simp only [cond_true]; cases ((decide (x.Hour ≤ l.Field.Freeze) && !(pl l x.Player).wild) && !(pl l x.Player).quit) && decide ((l.wilds.length : Int) < l.Field.Wilds) <;> exact Iff.rfl
   | false => simp only [cond_false]; cases decide (x.Kind = 4) <;> exact Iff.rfl
theorem aTh (l : aN) (x : aO) (n : Int) : (pl (cA l x) n).signed = true ↔ (pl l n).signed = true ∨ (x.Kind = 5 ∧ x.Player = n) := by
 rw [aBs]
 by_cases h : n = x.Player
 ·subst h; rw [decide_eq_true rfl, cond_true, aXt]; simp
 ·rw [decide_eq_false h, cond_false]
  exact ⟨.inl, fun hh => hh.elim id fun hh => absurd hh.2.symm h⟩
theorem aKp : ∀ (t : List aO) (l : aN) (n : Int), (pl (t.foldl cA l) n).signed = true ↔ (pl l n).signed = true ∨ ∃ x ∈ t, x.Kind = 5 ∧ x.Player = n
 | [], _, _ => by simp
 | x :: t, l, n => by
  rw [List.foldl_cons, aKp t, aTh]
  simp only [List.mem_cons, exists_eq_or_imp, or_assoc]
theorem uQ (l : aN) (x : aO) : (cA l x).frozen = (l.frozen || decide (l.Field.Freeze < x.Hour)) := by
 have e : ∀ l1 : aN, (bif (bK l1 x).frozen then kW (bK l1 x) else bK l1 x).frozen = l1.frozen := fun l1 => by
  rw [← (kY l1 x).2.1]
  cases h : (bK l1 x).frozen
  ·exact h
  ·exact h
 unfold cA
 simp only
 rw [e]
 cases decide (l.Field.Freeze < x.Hour) with
 | false => simp
 | true =>
  rw [cond_true, Bool.or_true]
  unfold dT
  cases h : l.frozen
  ·rfl
  ·exact h
theorem aGb : ∀ (t : List aO) (l : aN), (t.foldl cA l).frozen = (l.frozen || t.any fun x => decide (l.Field.Freeze < x.Hour))
 | [], l => by simp
 | x :: t, l => by
  rw [List.foldl_cons, aGb t, uQ, aCw, List.any_cons, Bool.or_assoc]
def FL (l : aN) : Prop := l.frozen = true → plc l ≤ ((bD l).length : Int) ∨ (bF l).find? (jO l (bD l)) = none
theorem aJp (l : aN) (first : List Int) : ∀ (k : Nat) (late : List Int), plc l - ((first ++ late).length : Int) ≤ k →
  plc l ≤ ((first ++ iH l first k late).length : Int) ∨ (bF l).find? (jO l (first ++ iH l first k late)) = none
 | 0, late, h => .inl (by rw [iH]; omega)
 | k + 1, late, h => by
  rw [iH]
  cases hp : decide (((first ++ late).length : Int) < plc l) with
  | false =>
   rw [cond_false]
   rw [decide_eq_false_iff_not] at hp
   exact .inl (by omega)
  | true =>
   rw [cond_true]
   cases hm : (bF l).find? (jO l (first ++ late)) with
   | none => exact .inr hm
   | some n =>
    refine aJp l first k (late ++ [n]) ?_
    rw [← List.append_assoc, List.length_append]
    simp only [List.length_singleton]
    omega
theorem aWh {f : aT} {l : aN} {x : aO} {i : Nat} (h : gE f l i) (hi : i < 60) (hx : gQ x = true) : FL (cA l x) := by
 have h1 : gE f (bif decide (l.Field.Freeze < x.Hour) then dT l else l) i := by
  cases decide (l.Field.Freeze < x.Hour)
  ·exact h
  ·exact nK h
 have h2 := tZ h1 hi hx
 unfold cA
 simp only
 generalize bK (bif decide (l.Field.Freeze < x.Hour) then dT l else l) x = l2 at h2
 cases hz : l2.frozen with
 | false => rw [cond_false]; intro hh; rw [hz] at hh; cases hh
 | true =>
  rw [cond_true]
  intro _
  have e : bD (kW l2) = (l2.first.filter fun n => isE l2.players n) ++ iH l2 (l2.first.filter fun n => isE l2.players n) 100 (l2.late.filter fun n => isE l2.players n) := by
   unfold bD
   rw [show (kW l2).frozen = true from hz, cond_true]
   rfl
  rw [e]
  have hp := qA h2.wf
  exact aJp l2 _ 100 _ (by omega)
theorem aOt {f : aT} : ∀ (t : List aO) {l : aN} {i : Nat}, gE f l i → i + t.length ≤ 60 → (∀ x ∈ t, gQ x = true) → FL l → FL (t.foldl cA l)
 | [], _, _, _, _, _, h => h
 | x :: t, l, i, hg, hl, ht, _ => by
  simp only [List.length_cons] at hl
  exact aOt t (qD hg (by omega) (ht x (by simp))) (by omega) (fun y hy => ht y (by simp [hy])) (aWh hg (by omega) (ht x (by simp)))
theorem aPn {f : aT} : ∀ (t : List aO) {l : aN} {i : Nat}, gE f l i → i + t.length ≤ 60 → (∀ x ∈ t, gQ x = true) → MS l → Pk l (bD l) → Pk (t.foldl cA l) (bD (t.foldl cA l))
 | [], _, _, _, _, _, _, h => h
 | x :: t, l, i, hg, hl, ht, hm, hp => by
  simp only [List.length_cons] at hl
  exact aPn t (qD hg (by omega) (ht x (by simp))) (by omega) (fun y hy => ht y (by simp [hy])) (aIo l x) (aPt hg (by omega) (ht x (by simp)) hm hp)
structure AF (f : aT) (l : List aO) (hour : Int) (L : aN) : Prop where
 good : ∃ j, j ≤ 60 ∧ gE f L j
 ms : MS L
 pk : Pk L (bD L)
 wd : Wd L
 wh : WH L
 wq : WQ L
 quit : ∀ n, (pl L n).quit = true ↔ ∃ x ∈ l, x.Kind = 4 ∧ x.Player = n ∧ x.Hour ≤ hour
 sign : ∀ n, (pl L n).signed = true ↔ ∃ x ∈ l, x.Kind = 5 ∧ x.Player = n ∧ x.Hour ≤ hour
 fz : hour ≤ f.Freeze → L.frozen = false
 fl : (∃ x ∈ l, f.Freeze < x.Hour ∧ x.Hour ≤ hour) → plc L ≤ ((bD L).length : Int) ∨ (bF L).find? (jO L (bD L)) = none
theorem aQh {L : aN} {hour : Int} (h : L.frozen = true) : pK hour L = L := by
 unfold pK dT
 rw [h]
 cases decide (L.Field.Freeze < hour) <;> rfl
theorem aft {f : aT} {l : List aO} (h : VL f l) (hour : Int) : AF f l hour (bV f l hour) := by
 have hb : ∀ x ∈ l, bN x := fun x hx => yM (h.nt x hx)
 have hT := qE l
 have hlen := h.len
 have hs := oA hb h.id
 have hbT : ∀ x ∈ dC l, bN x := fun x hx => hb x ((fK x).1 hx)
 have ok : ∀ x ∈ dC l, gQ x = true := fun x hx => h.nt x ((fK x).1 hx)
 have hgood := vN h hour
 unfold bV at hgood ⊢
 rw [zY hour _ _ hs hbT] at hgood ⊢
 have mem : ∀ x, x ∈ ((dC l).filter fun x => decide (x.Hour ≤ hour)) ↔ x ∈ l ∧ x.Hour ≤ hour := fun x => by
  rw [List.mem_filter, fK, decide_eq_true_eq]
 have hl : ((dC l).filter fun x => decide (x.Hour ≤ hour)).length ≤ 60 := by
  have := List.length_filter_le (fun x : aO => decide (x.Hour ≤ hour)) (dC l)
  omega
 have ok2 : ∀ x ∈ ((dC l).filter fun x => decide (x.Hour ≤ hour)), gQ x = true := fun x hx => h.nt x ((mem x).1 hx).1
 generalize ((dC l).filter fun x => decide (x.Hour ≤ hour)) = M at hgood mem hl ok2 ⊢
 have g := aEd M (jX h.fd) (by omega) ok2
 have m := aFd M (aFe f)
 have p0 : Pk (eI f) (bD (eI f)) := aEj (jX h.fd).wf
 have p := aPn M (jX h.fd) (by omega) ok2 (aFe f) p0
 have wd := aOy M (aOz h.fd)
 have wh := aFf M (aOv f)
 have wq := aOx M (aWq f)
 have q := aEq M (eI f)
 have sg := aKp M (eI f)
 have fr := aGb M (eI f)
 have fl := aOt M (jX h.fd) (by omega) ok2 (fun hh => by cases hh)
 have fd : (M.foldl cA (eI f)).Field = f := g.fd
 generalize M.foldl cA (eI f) = L at hgood g m p wd wh wq q sg fr fl fd ⊢
 have ee := aBy g hour
 have ep : ∀ n, pl (pK hour L) n = pl L n := fun n => by unfold pl; rw [ee.2.2]
 have efd : (pK hour L).Field = L.Field ∧ (pK hour L).more = L.more := by
  unfold pK
  cases decide (L.Field.Freeze < hour) with
  | false => exact ⟨rfl, rfl⟩
  | true => exact ⟨(gA L).2.1, (gA L).2.2.2⟩
 have i0 : ∀ n, (pl (eI f) n).quit = false := fun n => rfl
 have i1 : ∀ n, (pl (eI f) n).signed = false := fun n => rfl
 refine ⟨hgood, ?_, ?_, aBt wd ee.2.2 ee.2.1 efd.1, aGn wh ee.2.2 ee.2.1, fun n => by rw [ep]; exact wq n, fun n => ?_, fun n => ?_, fun hz => ?_, fun hx => ?_⟩
 ·intro n hn
  rw [ee.1] at hn
  rw [ee.2.2]; exact m n hn
 ·rw [ee.1]
  refine ⟨p.nd, ?_, ?_⟩
  ·unfold plc; rw [efd.1, efd.2]; exact p.len
  ·rw [zN (l := L) fun n _ => by rw [ep], efd.1]; exact p.gd
 ·rw [ep, q n, i0]
  constructor
  ·rintro (hh | ⟨x, hx, h4, hp⟩)
   ·cases hh
   ·exact ⟨x, ((mem x).1 hx).1, h4, hp, ((mem x).1 hx).2⟩
  ·rintro ⟨x, hx, h4, hp, hh⟩
   exact .inr ⟨x, (mem x).2 ⟨hx, hh⟩, h4, hp⟩
 ·rw [ep, sg n, i1]
  constructor
  ·rintro (hh | ⟨x, hx, h4, hp⟩)
   ·cases hh
   ·exact ⟨x, ((mem x).1 hx).1, h4, hp, ((mem x).1 hx).2⟩
  ·rintro ⟨x, hx, h4, hp, hh⟩
   exact .inr ⟨x, (mem x).2 ⟨hx, hh⟩, h4, hp⟩
 ·unfold pK
  rw [fd, decide_eq_false (by omega), cond_false, fr]
  rw [Bool.or_eq_false_iff]
  refine ⟨rfl, ?_⟩
  rw [List.any_eq_false]
  intro x hx
  have := ((mem x).1 hx).2
  show ¬ decide (f.Freeze < x.Hour) = true
  rw [decide_eq_true_eq]; omega
 ·obtain ⟨x, hx, h1, h2⟩ := hx
  have hfr : L.frozen = true := by
   rw [fr, Bool.or_eq_true]
   exact .inr (List.any_eq_true.2 ⟨x, (mem x).2 ⟨hx, h2⟩, by show decide (f.Freeze < x.Hour) = true; rw [decide_eq_true_eq]; exact h1⟩)
  rw [aQh hfr]
  exact fl hfr
end Go.Am
end
section
namespace Go.Am
end Go.Am
end
