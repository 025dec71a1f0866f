/- Plain laws, one behind the other. -/
import Derived.Test.YtfdappeickbpeaaGreatEntryStaysLaw
section
namespace Go.Am
end Go.Am
end
section
namespace Go.Am
end Go.Am
end
section
namespace Go.Am
theorem aUu {l : aH} {x : aG} (h : (pl l x.Player).entered = true) : (upP l x).entered = true ∧ (upP l x).guard = (pl l x.Player).guard ∧ (upP l x).rank = (pl l x.Player).rank := by
 unfold upP
 simp only [h, Bool.not_true, Bool.and_false, cond_false]
 cases decide (x.Kind = 1) || decide (x.Kind = 2) with
 | true => first | exact ⟨h, rfl, rfl⟩ | exact ⟨rfl, rfl, rfl⟩
 | false =>
  simp only [cond_false]
  cases decide (x.Kind = 3) with
  | true => simp only [cond_true]; cases ((decide (x.Hour ≤ l.Field.Freeze) && !(pl l x.Player).wild) && !(pl l x.Player).quit) && decide ((l.wilds.length : Int) < l.Field.Wilds) <;> first | exact ⟨h, rfl, rfl⟩ | exact ⟨rfl, rfl, rfl⟩
  | false =>
   simp only [cond_false]
   cases decide (x.Kind = 4) with
   | true => first | exact ⟨h, rfl, rfl⟩ | exact ⟨rfl, rfl, rfl⟩
   | false => simp only [cond_false]; cases decide (x.Kind = 5) <;> first | exact ⟨h, rfl, rfl⟩ | exact ⟨rfl, rfl, rfl⟩
theorem yS (l : aH) (x : aG) (n : Int) : pl (bJ l x) n = bif decide (n = x.Player) then upP l x else pl l n := by
 have e : pl (bJ l x) n = pl (bC l x) n := by unfold pl; rw [rD]
 rw [e, lX]
theorem nU (l : aH) (x : aG) : (bJ l x).Field = l.Field := by
 have e : ∀ l1 : aH, (bif (bC l1 x).frozen then jL (bC l1 x) else bC l1 x).Field = l1.Field := fun l1 => by
  cases (bC l1 x).frozen <;> exact (jO l1 x).1
 unfold bJ
 simp only
 rw [e]
 cases decide (l.Field.Freeze < x.Hour) with
 | false => rfl
 | true => exact (eJ l).2.1
end Go.Am
end
section
namespace Go.Am
theorem aUr {f : aP} {l : aH} {i : Nat} (h : eQ f l i) (hour n : Int) : pl (kU hour l) n = pl l n := by
 unfold pl; rw [(yX h hour).2.2]
end Go.Am
end
section
namespace Go.Am
structure Pk (l : aH) (xs : List Int) : Prop where
 nd : xs.Nodup
 len : (xs.length : Int) ≤ plc l
 gd : ((gd l xs : Nat) : Int) ≤ l.Field.Guards
theorem aFp (l : aH) : ∀ (t acc : List Int), Pk l acc → (acc ++ t).Nodup → Pk l (qF l acc t)
 | [], acc, h, _ => h
 | n :: t, acc, h, hn => by
  rw [xS]
  cases hc : psn l acc n with
  | true =>
   rw [cond_true]
   have c := yQ.1 hc
   refine aFp l t _ ⟨?_, ?_, ?_⟩ (by rw [List.append_assoc]; exact hn)
   ·have := List.nodup_append.1 hn
    refine List.nodup_append.2 ⟨this.1, by simp, fun a ha b hb => ?_⟩
    rw [List.mem_singleton.1 hb]
    exact this.2.2 a ha n (by simp)
   ·rw [List.length_append]; simp; omega
   ·rw [wV]
    have := h.gd
    cases hg : (pl l n).guard with
    | true => have := c.2 hg; simp; omega
    | false => simp; exact h.gd
  | false =>
   rw [cond_false]
   refine aFp l t acc h ?_
   exact hn.sublist (List.Sublist.append (List.Sublist.refl _) (List.sublist_cons_self n t))
theorem aAo {l : aH} (h : WF l) : 0 ≤ l.Field.Guards := by
 have hf := h.fd
 unfold qG at hf
 simp only [Bool.and_eq_true, rZ] at hf
 omega
theorem aBa {l : aH} (h : WF l) : Pk l (kA l) := by
 have hp := oH h
 exact aFp l _ _ ⟨by simp, by simp; omega, by have := aAo h; simpa [gd] using this⟩ (by simpa using jK h)
theorem aOo (l : aH) (p : Int → Bool) (xs : List Int) : gd l (xs.filter p) ≤ gd l xs :=
 (List.filter_sublist.filter _).length_le
theorem aIp {l : aH} (first : List Int) : ∀ (k : Nat) (late : List Int), Pk l (first ++ late) → Pk l (first ++ fT l first k late)
 | 0, _, h => h
 | k + 1, late, h => by
  rw [fT]
  cases hp : decide (((first ++ late).length : Int) < plc l) with
  | false => exact h
  | true =>
   rw [cond_true]
   split
   ·exact h
   ·rename_i m hm
    have hm2 := List.find?_some hm
    unfold iC at hm2
    simp only [Bool.and_eq_true, Bool.not_eq_true', decide_eq_false_iff_not, Bool.or_eq_true, decide_eq_true_eq] at hm2 hp
    refine aIp first k _ ⟨?_, ?_, ?_⟩
    ·rw [← List.append_assoc]
     refine List.nodup_append.2 ⟨h.nd, by simp, fun a ha b hb => ?_⟩
     rw [List.mem_singleton.1 hb]
     intro e
     exact hm2.1.2 (e ▸ ha)
    ·rw [← List.append_assoc, List.length_append]; simp; simp at hp; omega
    ·rw [← List.append_assoc, wV]
     have := h.gd
     cases hg : (pl l m).guard with
     | true =>
      have h2 := hm2.2
      rw [hg] at h2
      simp at h2
      simp only [if_true]
      omega
     | false => simp only [Bool.false_eq_true, if_false, Nat.add_zero]; exact this
end Go.Am
end
section
namespace Go.Am
theorem wW {l l2 : aH} {xs : List Int} (h : ∀ n ∈ xs, (pl l2 n).guard = (pl l n).guard) : gd l2 xs = gd l xs := by
 unfold gd
 rw [List.filter_congr h]
theorem aPt {l : aH} {x : aG} {n : Int} (h : (pl l n).entered = true) : (pl (bC l x) n).guard = (pl l n).guard := by
 rw [lX]
 by_cases e : n = x.Player
 ·subst e; rw [decide_eq_true rfl, cond_true]; exact (aUu h).2.1
 ·rw [decide_eq_false e, cond_false]
theorem aBz {l : aH} {n : Int} (h : isE l.players n = true) : (pl l n).entered = true := by
 rw [qU] at h
 simp only [Bool.and_eq_true] at h
 exact h.1.1
theorem aMb {f : aP} {l : aH} {x : aG} {i : Nat} (h : eQ f l i) (hi : i < 60) (hx : eZ x = true) (hm : MS l) (hp : Pk l (aW l)) : Pk (bJ l x) (aW (bJ l x)) := by
 obtain ⟨l1, h1, hm1, hp1, e1⟩ : ∃ l1, eQ f l1 i ∧ MS l1 ∧ Pk l1 (aW l1) ∧ (bif decide (l.Field.Freeze < x.Hour) then cC l else l) = l1 := by
  refine ⟨_, ?_, ?_, ?_, rfl⟩ <;> cases decide (l.Field.Freeze < x.Hour)
  ·exact h
  ·exact lK h
  ·exact hm
  ·intro n hn
   rw [cond_true] at hn ⊢
   rw [kD h] at hn
   rw [(eJ l).1]; exact hm n hn
  ·exact hp
  ·rw [cond_true, kD h]
   have e := eJ l
   refine ⟨hp.nd, ?_, ?_⟩
   ·unfold plc; rw [e.2.1, e.2.2.2]; exact hp.len
   ·rw [wW (l := l) fun n _ => by unfold pl; rw [e.1], e.2.1]; exact hp.gd
 unfold bJ
 rw [e1]
 have h2 := rE h1 hi hx
 have ht := jO l1 x
 have hr := (aBr l1 x).1.1
 simp only
 cases hz : (bC l1 x).frozen with
 | false =>
  rw [cond_false]
  unfold aW
  rw [hz, cond_false]
  exact aBa h2.wf
 | true =>
  rw [cond_true]
  have hz1 : l1.frozen = true := by rw [← ht.2.1]; exact hz
  unfold aW at hp1
  rw [hz1, cond_true] at hp1
  have hmm : ∀ n ∈ l1.first ++ l1.late, (pl l1 n).entered = true := fun n hn => by
   refine aBz (hm1 n ?_)
   unfold aW
   rw [hz1, cond_true]; exact hn
  have hF : Pk (bC l1 x) ((l1.first ++ l1.late).filter fun n => isE (bC l1 x).players n) := by
   refine ⟨hp1.nd.sublist List.filter_sublist, ?_, ?_⟩
   ·have a := List.length_filter_le (fun n => isE (bC l1 x).players n) (l1.first ++ l1.late)
    have b := hp1.len
    unfold plc at b ⊢
    rw [ht.1]
    omega
   ·have a := aOo (bC l1 x) (fun n => isE (bC l1 x).players n) (l1.first ++ l1.late)
    have b := wW (l := l1) (l2 := bC l1 x) (xs := l1.first ++ l1.late) fun n hn => aPt (hmm n hn)
    have c := hp1.gd
    rw [ht.1]
    omega
  rw [List.filter_append] at hF
  have k := aIp ((bC l1 x).first.filter fun n => isE (bC l1 x).players n) 100 ((bC l1 x).late.filter fun n => isE (bC l1 x).players n) (by rw [ht.2.2.1, ht.2.2.2]; exact hF)
  have e : aW (jL (bC l1 x)) = ((bC l1 x).first.filter fun n => isE (bC l1 x).players n) ++ fT (bC l1 x) ((bC l1 x).first.filter fun n => isE (bC l1 x).players n) 100 ((bC l1 x).late.filter fun n => isE (bC l1 x).players n) := by
   unfold aW
   rw [show (jL (bC l1 x)).frozen = true from hz, cond_true]
   rfl
  rw [e]
  exact ⟨k.nd, k.len, k.gd⟩
end Go.Am
end
section
namespace Go.Am
structure Wd (l : aH) : Prop where
 nd : l.wilds.Nodup
 len : (l.wilds.length : Int) ≤ l.Field.Wilds
 fl : ∀ n, n ∈ l.wilds ↔ (pl l n).wild = true
theorem yT {l l2 : aH} (h : Wd l) (hp : l2.players = l.players) (hw : l2.wilds = l.wilds) (hf : l2.Field = l.Field) : Wd l2 :=
 ⟨by rw [hw]; exact h.nd, by rw [hw, hf]; exact h.len, fun n => by rw [hw, h.fl n]; unfold pl; rw [hp]⟩
theorem aLg {f : aP} (h : qG f = true) : Wd (dB f) := by
 refine ⟨by simp [dB], ?_, fun n => ⟨fun h => by simp [dB] at h, fun h => by simp [pl, dB, aE, zP] at h⟩⟩
 unfold qG at h
 simp only [Bool.and_eq_true, rZ] at h
 show (([] : List Int).length : Int) ≤ f.Wilds
 simp; omega
theorem pH (l : aH) (x : aG) : (bC l x).wilds = (bif decide (x.Kind = 3) && (((decide (x.Hour ≤ l.Field.Freeze) && !(pl l x.Player).wild) && !(pl l x.Player).quit) && decide ((l.wilds.length : Int) < l.Field.Wilds)) then l.wilds ++ [x.Player] else bif decide (x.Kind = 4) then l.wilds.filter fun m => !decide (m = x.Player) else l.wilds) ∧
  (bC l x).more = (bif decide (x.Kind = 4) && ((pl l x.Player).wild && decide (l.Field.Freeze < x.Hour)) then l.more + 1 else l.more) ∧
  (upP l x).wild = (bif decide (x.Kind = 3) && (((decide (x.Hour ≤ l.Field.Freeze) && !(pl l x.Player).wild) && !(pl l x.Player).quit) && decide ((l.wilds.length : Int) < l.Field.Wilds)) then true else bif decide (x.Kind = 4) then false else (pl l x.Player).wild) := by
 unfold bC upP
 simp only
 by_cases h1 : x.Kind = 1 ∨ x.Kind = 2
 ·have e : (decide (x.Kind = 1) || decide (x.Kind = 2)) = true := by simpa using h1
  have e3 : decide (x.Kind = 3) = false := decide_eq_false (by omega)
  have e4 : decide (x.Kind = 4) = false := decide_eq_false (by omega)
  rw [e, e3, e4]
  simp only [cond_true, cond_false, Bool.false_and]
  cases decide (x.Hour ≤ l.Field.Close) && !(pl l x.Player).entered <;> simp
 ·have e : (decide (x.Kind = 1) || decide (x.Kind = 2)) = false := by
   rw [Bool.eq_false_iff]; simpa using h1
  rw [e]
  simp only [cond_false]
  by_cases h3 : x.Kind = 3
  ·have e4 : decide (x.Kind = 4) = false := decide_eq_false (by omega)
   rw [e4, decide_eq_true h3]
   simp only [cond_true, cond_false, Bool.false_and, Bool.true_and]
   cases ((decide (x.Hour ≤ l.Field.Freeze) && !(pl l x.Player).wild) && !(pl l x.Player).quit) && decide ((l.wilds.length : Int) < l.Field.Wilds) <;> exact ⟨rfl, rfl, rfl⟩
  ·rw [decide_eq_false h3]
   simp only [cond_false, Bool.false_and]
   cases decide (x.Kind = 4) with
   | true => simp only [cond_true, Bool.true_and]; simp
   | false => simp only [cond_false, Bool.false_and]; cases decide (x.Kind = 5) <;> exact ⟨rfl, rfl, rfl⟩
theorem aSm {l : aH} {x : aG} (h : Wd l) : Wd (bC l x) := by
 have hw := pH l x
 cases hc : decide (x.Kind = 3) && (((decide (x.Hour ≤ l.Field.Freeze) && !(pl l x.Player).wild) && !(pl l x.Player).quit) && decide ((l.wilds.length : Int) < l.Field.Wilds)) with
 | true =>
  rw [hc] at hw
  simp only [cond_true] at hw
  simp only [Bool.and_eq_true, Bool.not_eq_true', decide_eq_true_eq] at hc
  have hnw : x.Player ∉ l.wilds := fun hm => by rw [(h.fl _).1 hm] at hc; exact absurd hc.2.1.1.2 (by simp)
  refine ⟨?_, ?_, fun n => ?_⟩
  ·rw [hw.1]
   refine List.nodup_append.2 ⟨h.nd, by simp, fun a ha b hb => ?_⟩
   rw [List.mem_singleton.1 hb]
   intro e
   exact hnw (e ▸ ha)
  ·rw [hw.1, (jO l x).1, List.length_append]
   simp
   omega
  ·rw [hw.1, lX, List.mem_append, List.mem_singleton]
   by_cases e : n = x.Player
   ·subst e; rw [decide_eq_true rfl, cond_true, hw.2.2]; simp
   ·rw [decide_eq_false e, cond_false, ← h.fl n]; simp [e]
 | false =>
  rw [hc] at hw
  simp only [cond_false] at hw
  cases h4 : decide (x.Kind = 4) with
  | true =>
   rw [h4] at hw
   simp only [cond_true] at hw
   refine ⟨?_, ?_, fun n => ?_⟩
   ·rw [hw.1]; exact h.nd.sublist List.filter_sublist
   ·rw [hw.1, (jO l x).1]
    have := List.length_filter_le (fun m => !decide (m = x.Player)) l.wilds
    have := h.len
    omega
   ·rw [hw.1, lX, List.mem_filter]
    by_cases e : n = x.Player
    ·subst e; rw [decide_eq_true rfl, cond_true, hw.2.2]; simp
    ·rw [decide_eq_false e, cond_false, ← h.fl n]; simp
  | false =>
   rw [h4] at hw
   simp only [cond_false] at hw
   refine ⟨by rw [hw.1]; exact h.nd, by rw [hw.1, (jO l x).1]; exact h.len, fun n => ?_⟩
   rw [hw.1, lX]
   by_cases e : n = x.Player
   ·subst e; rw [decide_eq_true rfl, cond_true, hw.2.2]; exact h.fl _
   ·rw [decide_eq_false e, cond_false]; exact h.fl n
theorem zT (l : aH) (x : aG) : (bJ l x).wilds = (bC l x).wilds ∧ (bJ l x).more = (bC l x).more := by
 have e : ∀ l1 : aH, (bif (bC l1 x).frozen then jL (bC l1 x) else bC l1 x).wilds = (bC l1 x).wilds ∧ (bif (bC l1 x).frozen then jL (bC l1 x) else bC l1 x).more = (bC l1 x).more := fun l1 => by
  cases (bC l1 x).frozen <;> exact ⟨rfl, rfl⟩
 unfold bJ
 simp only
 rw [(e _).1, (e _).2]
 cases decide (l.Field.Freeze < x.Hour) with
 | false => exact ⟨rfl, rfl⟩
 | true =>
  rw [cond_true]
  have hf := eJ l
  have a := pH (cC l) x
  have b := pH l x
  have ep : ∀ n, pl (cC l) n = pl l n := fun n => by unfold pl; rw [hf.1]
  rw [ep, hf.2.1, hf.2.2.1, hf.2.2.2] at a
  exact ⟨a.1.trans b.1.symm, a.2.1.trans b.2.1.symm⟩
theorem aLh {l : aH} {x : aG} (h : Wd l) : Wd (bJ l x) :=
 yT (aSm (x := x) h) (rD l x) (zT l x).1 ((nU l x).trans (jO l x).1.symm)
theorem aLf : ∀ (t : List aG) {l : aH}, Wd l → Wd (t.foldl bJ l)
 | [], _, h => h
 | _ :: t, _, h => aLf t (aLh h)
theorem aGs {xs : List Int} (h : xs.Nodup) {n : Int} (hn : n ∈ xs) : (xs.filter fun m => !decide (m = n)).length + 1 = xs.length := by
 induction xs with
 | nil => simp at hn
 | cons a t ih =>
  have h1 := List.nodup_cons.1 h
  by_cases e : a = n
  ·subst e
   rw [List.filter_cons_of_neg (by simp), List.filter_eq_self.2 fun m hm => by simp; rintro rfl; exact h1.1 hm]
   rfl
  ·rw [List.filter_cons_of_pos (by simp [e])]
   have := ih h1.2 ((List.mem_cons.1 hn).resolve_left fun h => e h.symm)
   simp only [List.length_cons]
   omega
end Go.Am
end
section
namespace Go.Am
def WQ (l : aH) : Prop := ∀ n, (pl l n).wild = true → (pl l n).quit = false
theorem aSl {l : aH} {x : aG} (h : WQ l) : WQ (bJ l x) := by
 intro n
 rw [yS]
 by_cases e : n = x.Player
 ·subst e
  rw [decide_eq_true rfl, cond_true, (pH l x).2.2]
  intro hw
  cases hq : (upP l x).quit with
  | false => rfl
  | true =>
   rcases (aLw l x).1 hq with h2 | h4
   ·cases hc : decide (x.Kind = 3) && (((decide (x.Hour ≤ l.Field.Freeze) && !(pl l x.Player).wild) && !(pl l x.Player).quit) && decide ((l.wilds.length : Int) < l.Field.Wilds)) with
    | true => rw [h2] at hc; simp at hc
    | false =>
     rw [hc, cond_false] at hw
     cases h4 : decide (x.Kind = 4) with
     | true => rw [h4] at hw; cases hw
     | false =>
      rw [h4, cond_false] at hw
      rw [h _ hw] at h2; cases h2
   ·rw [decide_eq_false (show ¬ x.Kind = 3 by omega), decide_eq_true h4] at hw
    cases hw
 ·rw [decide_eq_false e, cond_false]; exact h n
theorem aLe : ∀ (t : List aG) {l : aH}, WQ l → WQ (t.foldl bJ l)
 | [], _, h => h
 | _ :: t, _, h => aLe t (aSl h)
theorem aSk (f : aP) : WQ (dB f) := fun n h => by simp [pl, dB, aE, zP] at h
theorem aTn (l : aH) (x : aG) : (upP l x).signed = true ↔ (pl l x.Player).signed = true ∨ x.Kind = 5 := by
 unfold upP
 simp only
 by_cases h5 : x.Kind = 5
 ·simp [h5]
 ·simp only [h5, decide_false, cond_false, or_false]
  cases decide (x.Kind = 1) || decide (x.Kind = 2) with
  | true => simp only [cond_true]; cases decide (x.Hour ≤ l.Field.Close) && !(pl l x.Player).entered <;> exact Iff.rfl
  | false =>
   simp only [cond_false]
   cases decide (x.Kind = 3) with
   | true => simp only [cond_true]; cases ((decide (x.Hour ≤ l.Field.Freeze) && !(pl l x.Player).wild) && !(pl l x.Player).quit) && decide ((l.wilds.length : Int) < l.Field.Wilds) <;> exact Iff.rfl
   | false => simp only [cond_false]; cases decide (x.Kind = 4) <;> exact Iff.rfl
theorem aPm (l : aH) (x : aG) (n : Int) : (pl (bJ l x) n).signed = true ↔ (pl l n).signed = true ∨ (x.Kind = 5 ∧ x.Player = n) := by
 rw [yS]
 by_cases h : n = x.Player
 ·subst h; rw [decide_eq_true rfl, cond_true, aTn]; simp
 ·rw [decide_eq_false h, cond_false]
  exact ⟨.inl, fun hh => hh.elim id fun hh => absurd hh.2.symm h⟩
theorem aHg : ∀ (t : List aG) (l : aH) (n : Int), (pl (t.foldl bJ l) n).signed = true ↔ (pl l n).signed = true ∨ ∃ x ∈ t, x.Kind = 5 ∧ x.Player = n
 | [], _, _ => by simp
 | x :: t, l, n => by
  rw [List.foldl_cons, aHg t, aPm]
  simp only [List.mem_cons, exists_eq_or_imp, or_assoc]
theorem pT (l : aH) (x : aG) : (bJ l x).frozen = (l.frozen || decide (l.Field.Freeze < x.Hour)) := by
 have e : ∀ l1 : aH, (bif (bC l1 x).frozen then jL (bC l1 x) else bC l1 x).frozen = l1.frozen := fun l1 => by
  rw [← (jO l1 x).2.1]
  cases h : (bC l1 x).frozen
  ·exact h
  ·exact h
 unfold bJ
 simp only
 rw [e]
 cases decide (l.Field.Freeze < x.Hour) with
 | false => simp
 | true =>
  rw [cond_true, Bool.or_true]
  unfold cC
  cases h : l.frozen
  ·rfl
  ·exact h
theorem aCp : ∀ (t : List aG) (l : aH), (t.foldl bJ l).frozen = (l.frozen || t.any fun x => decide (l.Field.Freeze < x.Hour))
 | [], l => by simp
 | x :: t, l => by
  rw [List.foldl_cons, aCp t, pT, nU, List.any_cons, Bool.or_assoc]
def FL (l : aH) : Prop := l.frozen = true → plc l ≤ ((aW l).length : Int) ∨ (bF l).find? (iC l (aW l)) = none
theorem aGm (l : aH) (first : List Int) : ∀ (k : Nat) (late : List Int), plc l - ((first ++ late).length : Int) ≤ k →
  plc l ≤ ((first ++ fT l first k late).length : Int) ∨ (bF l).find? (iC l (first ++ fT l first k late)) = none
 | 0, late, h => .inl (by rw [fT]; omega)
 | k + 1, late, h => by
  rw [fT]
  cases hp : decide (((first ++ late).length : Int) < plc l) with
  | false =>
   rw [cond_false]
   rw [decide_eq_false_iff_not] at hp
   exact .inl (by omega)
  | true =>
   rw [cond_true]
   cases hm : (bF l).find? (iC l (first ++ late)) with
   | none => exact .inr hm
   | some n =>
    refine aGm l first k (late ++ [n]) ?_
    rw [← List.append_assoc, List.length_append]
    simp only [List.length_singleton]
    omega
theorem aSc {f : aP} {l : aH} {x : aG} {i : Nat} (h : eQ f l i) (hi : i < 60) (hx : eZ x = true) : FL (bJ l x) := by
 have h1 : eQ f (bif decide (l.Field.Freeze < x.Hour) then cC l else l) i := by
  cases decide (l.Field.Freeze < x.Hour)
  ·exact h
  ·exact lK h
 have h2 := rE h1 hi hx
 unfold bJ
 simp only
 generalize bC (bif decide (l.Field.Freeze < x.Hour) then cC l else l) x = l2 at h2
 cases hz : l2.frozen with
 | false => rw [cond_false]; intro hh; rw [hz] at hh; cases hh
 | true =>
  rw [cond_true]
  intro _
  have e : aW (jL l2) = (l2.first.filter fun n => isE l2.players n) ++ fT l2 (l2.first.filter fun n => isE l2.players n) 100 (l2.late.filter fun n => isE l2.players n) := by
   unfold aW
   rw [show (jL l2).frozen = true from hz, cond_true]
   rfl
  rw [e]
  have hp := oH h2.wf
  exact aGm l2 _ 100 _ (by omega)
theorem aKz {f : aP} : ∀ (t : List aG) {l : aH} {i : Nat}, eQ f l i → i + t.length ≤ 60 → (∀ x ∈ t, eZ x = true) → FL l → FL (t.foldl bJ l)
 | [], _, _, _, _, _, h => h
 | x :: t, l, i, hg, hl, ht, _ => by
  simp only [List.length_cons] at hl
  exact aKz t (kT hg (by omega) (ht x (by simp))) (by omega) (fun y hy => ht y (by simp [hy])) (aSc hg (by omega) (ht x (by simp)))
theorem aLu {f : aP} : ∀ (t : List aG) {l : aH} {i : Nat}, eQ f l i → i + t.length ≤ 60 → (∀ x ∈ t, eZ x = true) → MS l → Pk l (aW l) → Pk (t.foldl bJ l) (aW (t.foldl bJ l))
 | [], _, _, _, _, _, _, h => h
 | x :: t, l, i, hg, hl, ht, hm, hp => by
  simp only [List.length_cons] at hl
  exact aLu t (kT hg (by omega) (ht x (by simp))) (by omega) (fun y hy => ht y (by simp [hy])) (aFg l x) (aMb hg (by omega) (ht x (by simp)) hm hp)
structure AF (f : aP) (l : List aG) (hour : Int) (L : aH) : Prop where
 good : ∃ j, j ≤ 60 ∧ eQ f L j
 ms : MS L
 pk : Pk L (aW L)
 wd : Wd L
 wh : WH L
 wq : WQ L
 quit : ∀ n, (pl L n).quit = true ↔ ∃ x ∈ l, x.Kind = 4 ∧ x.Player = n ∧ x.Hour ≤ hour
 sign : ∀ n, (pl L n).signed = true ↔ ∃ x ∈ l, x.Kind = 5 ∧ x.Player = n ∧ x.Hour ≤ hour
 fz : hour ≤ f.Freeze → L.frozen = false
 fl : (∃ x ∈ l, f.Freeze < x.Hour ∧ x.Hour ≤ hour) → plc L ≤ ((aW L).length : Int) ∨ (bF L).find? (iC L (aW L)) = none
theorem aEh {L : aH} {hour : Int} (h : L.frozen = true) : kU hour L = L := by
 unfold kU cC
 rw [h]
 cases decide (L.Field.Freeze < hour) <;> rfl
theorem aft {f : aP} {l : List aG} (h : VL f l) (hour : Int) : AF f l hour (aZ f l hour) := by
 have hb : ∀ x ∈ l, bN x := fun x hx => rI (h.nt x hx)
 have hT := nV l
 have hlen := h.len
 have hs := jP hb h.id
 have hbT : ∀ x ∈ cN l, bN x := fun x hx => hb x ((dR x).1 hx)
 have ok : ∀ x ∈ cN l, eZ x = true := fun x hx => h.nt x ((dR x).1 hx)
 have hgood := sW h hour
 unfold aZ at hgood ⊢
 rw [sN hour _ _ hs hbT] at hgood ⊢
 have mem : ∀ x, x ∈ ((cN l).filter fun x => decide (x.Hour ≤ hour)) ↔ x ∈ l ∧ x.Hour ≤ hour := fun x => by
  rw [List.mem_filter, dR, decide_eq_true_eq]
 have hl : ((cN l).filter fun x => decide (x.Hour ≤ hour)).length ≤ 60 := by
  have := List.length_filter_le (fun x : aG => decide (x.Hour ≤ hour)) (cN l)
  omega
 have ok2 : ∀ x ∈ ((cN l).filter fun x => decide (x.Hour ≤ hour)), eZ x = true := fun x hx => h.nt x ((mem x).1 hx).1
 generalize ((cN l).filter fun x => decide (x.Hour ≤ hour)) = M at hgood mem hl ok2 ⊢
 have g := aAu M (gX h.fd) (by omega) ok2
 have m := aBu M (aBv f)
 have p0 : Pk (dB f) (aW (dB f)) := aBa (gX h.fd).wf
 have p := aLu M (gX h.fd) (by omega) ok2 (aBv f) p0
 have wd := aLf M (aLg h.fd)
 have wh := aBw M (aLc f)
 have wq := aLe M (aSk f)
 have q := aBj M (dB f)
 have sg := aHg M (dB f)
 have fr := aCp M (dB f)
 have fl := aKz M (gX h.fd) (by omega) ok2 (fun hh => by cases hh)
 have fd : (M.foldl bJ (dB f)).Field = f := g.fd
 generalize M.foldl bJ (dB f) = L at hgood g m p wd wh wq q sg fr fl fd ⊢
 have ee := yX g hour
 have ep : ∀ n, pl (kU hour L) n = pl L n := fun n => by unfold pl; rw [ee.2.2]
 have efd : (kU hour L).Field = L.Field ∧ (kU hour L).more = L.more := by
  unfold kU
  cases decide (L.Field.Freeze < hour) with
  | false => exact ⟨rfl, rfl⟩
  | true => exact ⟨(eJ L).2.1, (eJ L).2.2.2⟩
 have i0 : ∀ n, (pl (dB f) n).quit = false := fun n => rfl
 have i1 : ∀ n, (pl (dB f) n).signed = false := fun n => rfl
 refine ⟨hgood, ?_, ?_, yT wd ee.2.2 ee.2.1 efd.1, aDa wh ee.2.2 ee.2.1, fun n => by rw [ep]; exact wq n, fun n => ?_, fun n => ?_, fun hz => ?_, fun hx => ?_⟩
 ·intro n hn
  rw [ee.1] at hn
  rw [ee.2.2]; exact m n hn
 ·rw [ee.1]
  refine ⟨p.nd, ?_, ?_⟩
  ·unfold plc; rw [efd.1, efd.2]; exact p.len
  ·rw [wW (l := L) fun n _ => by rw [ep], efd.1]; exact p.gd
 ·rw [ep, q n, i0]
  constructor
  ·rintro (hh | ⟨x, hx, h4, hp⟩)
   ·cases hh
   ·exact ⟨x, ((mem x).1 hx).1, h4, hp, ((mem x).1 hx).2⟩
  ·rintro ⟨x, hx, h4, hp, hh⟩
   exact .inr ⟨x, (mem x).2 ⟨hx, hh⟩, h4, hp⟩
 ·rw [ep, sg n, i1]
  constructor
  ·rintro (hh | ⟨x, hx, h4, hp⟩)
   ·cases hh
   ·exact ⟨x, ((mem x).1 hx).1, h4, hp, ((mem x).1 hx).2⟩
  ·rintro ⟨x, hx, h4, hp, hh⟩
   exact .inr ⟨x, (mem x).2 ⟨hx, hh⟩, h4, hp⟩
 ·unfold kU
  rw [fd, decide_eq_false (by omega), cond_false, fr]
  rw [Bool.or_eq_false_iff]
  refine ⟨rfl, ?_⟩
  rw [List.any_eq_false]
  intro x hx
  have := ((mem x).1 hx).2
  show ¬ decide (f.Freeze < x.Hour) = true
  rw [decide_eq_true_eq]; omega
 ·obtain ⟨x, hx, h1, h2⟩ := hx
  have hfr : L.frozen = true := by
   rw [fr, Bool.or_eq_true]
   exact .inr (List.any_eq_true.2 ⟨x, (mem x).2 ⟨hx, h2⟩, by show decide (f.Freeze < x.Hour) = true; rw [decide_eq_true_eq]; exact h1⟩)
  rw [aEh hfr]
  exact fl hfr
end Go.Am
end
section
namespace Go.Am
end Go.Am
end
