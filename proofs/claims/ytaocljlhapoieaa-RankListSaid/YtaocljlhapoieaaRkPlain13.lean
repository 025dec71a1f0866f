/- The document's list; the places. -/
import Derived.Test.YtaocljlhapoieaaRkPlain12
namespace Go.Am

instance (l : aP) (z : List aC) (w a b : Int) : Decidable (bef l z w a b) := by unfold bef ltL; infer_instance
section list
variable {l : aP} {z : List aC} (h : GD l z) {w : Int} (hw : 0 ≤ w) (hw1 : w ≤ 1000)
include h hw hw1
theorem aHb (a b : Int) : pS l a b w = some (decide (bef l z w a b)) := by
  unfold pS
  rw [h.points hw hw1, Option.bind_some, h.points hw hw1, Option.bind_some, h.count hw hw1, Option.bind_some, h.count hw hw1, Option.bind_some]
  unfold bef ltL lE
  simp only
  by_cases h1 : lR l z a w = lR l z b w
  · by_cases h2 : jT (dZ l z a w) = jT (dZ l z b w)
    · by_cases h3 : (dZ l z a w).length = (dZ l z b w).length
      · simp [h1, h2, h3]
      · have h3' : ¬ (((dZ l z a w).length : Int) = ((dZ l z b w).length : Int)) := by omega
        simp [h1, h2, h3']
    · simp [h1, h2]
  · simp [h1]
theorem aDp (p : Int) : iQ l p w = some (iN l z w p) := by
  have hf := nY h.rest
  unfold iQ iN
  rw [aEg _ _ _ (by omega), Option.bind_some, h.count hw hw1, Option.bind_some, gC, Option.bind_some]
  congr 2
  rw [Bool.eq_iff_iff, decide_eq_true_eq, Bool.not_eq_true', decide_eq_false_iff_not]
  omega
theorem aHd (again : List Int → Int → Option (List Int)) (out : List Int) (p : Nat) (hp : p ≤ 100) (hs : out.Pairwise (bef l z w)) (hne : ∀ x ∈ out, x ≠ (p : Int)) (hb : out.length ≤ 1000) :
    ∃ out', jN again w out (p : Nat) l BIG 0 = again out' ((p + 1 : Nat) : Int) ∧ out'.Pairwise (bef l z w) ∧ out'.Perm ((p : Int) :: out) := by
  have main : ∀ (d a k : Nat), out.length - a = d → d < k → a ≤ out.length → (∀ (j : Nat) (hj : j < out.length), j < a → bef l z w out[j] (p : Nat)) →
      ∃ out', jN again w out (p : Nat) l k (a : Nat) = again out' ((p + 1 : Nat) : Int) ∧ out'.Pairwise (bef l z w) ∧ out'.Perm ((p : Int) :: out) := by
    intro d
    induction d with
    | zero =>
      intro a k hd hk ha hlo
      obtain ⟨k, rfl⟩ : ∃ q, k = q + 1 := ⟨k - 1, by omega⟩
      have : a = out.length := by omega
      subst this
      have hlt : decide ((out.length : Int) < (out.length : Int)) = false := decide_eq_false (by omega)
      refine ⟨out ++ [(p : Int)], ?_, ?_, List.perm_append_singleton _ _⟩
      · simp only [jN, hlt, cond_false, Option.bind_some]
        unfold pA kW
        rw [zF (Nat.le_refl _), Option.bind_some, jL (by simp), Option.bind_some, vU (Nat.le_refl _), Option.bind_some, jL (by simp; omega), Option.bind_some, jL (by simp; omega), Option.bind_some, cP (by omega)]
        simp
      · refine List.pairwise_append.2 ⟨hs, List.pairwise_singleton _ _, fun x hx y hy => ?_⟩
        simp at hy; subst hy
        obtain ⟨j, hj, rfl⟩ := List.getElem_of_mem hx
        exact hlo j hj hj
    | succ d ih =>
      intro a k hd hk ha hlo
      obtain ⟨k, rfl⟩ : ∃ q, k = q + 1 := ⟨k - 1, by omega⟩
      have hal : a < out.length := by omega
      have hlt : decide ((a : Int) < (out.length : Int)) = true := decide_eq_true (by omega)
      simp only [jN, hlt, cond_true, dK hal, Option.bind_some, aHb h hw hw1, cP (show a < 9223372036854775807 by omega)]
      by_cases hb' : bef l z w out[a] (p : Nat)
      · rw [decide_eq_true hb', cond_true]
        refine ih (a + 1) k (by omega) (by omega) (by omega) fun j hj hja => ?_
        rcases Nat.eq_or_lt_of_le (Nat.le_of_lt_succ hja) with rfl | h5
        · exact hb'
        · exact hlo j hj h5
      · rw [decide_eq_false hb', cond_false]
        unfold pA kW
        rw [zF ha, Option.bind_some, jL (by simp; omega), Option.bind_some, vU ha, Option.bind_some, jL (by simp; omega), Option.bind_some, jL (by simp; omega), Option.bind_some, cP (by omega)]
        have hpb : bef l z w (p : Nat) out[a] := (aGy l z w _ _ (hne _ (List.getElem_mem hal))).resolve_left hb'
        refine ⟨[] ++ out.take a ++ ([(p : Int)] ++ out.drop a), rfl, ?_, ?_⟩
        · have e1 : [] ++ out.take a ++ ([(p : Int)] ++ out.drop a) = out.take a ++ (p : Int) :: out.drop a := by simp
          rw [e1]
          have h5 := List.pairwise_append.1 (show (out.take a ++ out.drop a).Pairwise (bef l z w) by rw [List.take_append_drop]; exact hs)
          refine List.pairwise_append.2 ⟨h5.1, List.pairwise_cons.2 ⟨fun y hy => ?_, h5.2.1⟩, fun x hx y hy => ?_⟩
          · obtain ⟨q, hq, rfl⟩ := List.getElem_of_mem hy
            simp only [List.length_drop] at hq
            rw [List.getElem_drop]
            rcases Nat.eq_zero_or_pos q with rfl | hq0
            · exact hpb
            · exact aIe hpb (List.pairwise_iff_getElem.1 hs a (a + q) hal (by omega) (by omega))
          · rcases List.mem_cons.1 hy with rfl | hy
            · obtain ⟨q, hq, rfl⟩ := List.getElem_of_mem hx
              simp only [List.length_take] at hq
              rw [List.getElem_take]
              exact hlo q (by omega) (by omega)
            · exact h5.2.2 x hx y hy
        · have e1 : [] ++ out.take a ++ ([(p : Int)] ++ out.drop a) = out.take a ++ (p : Int) :: out.drop a := by simp
          rw [e1]
          have : (out.take a ++ (p : Int) :: out.drop a).Perm ((p : Int) :: (out.take a ++ out.drop a)) := List.perm_middle
          rwa [List.take_append_drop] at this
  exact main _ 0 BIG rfl (dD (by omega)) (Nat.zero_le _) fun j _ hj => by omega
theorem aIy : ∃ out, oS l w = some out ∧ IsList l z w out := by
  have hf := nY h.rest
  obtain ⟨P, hPe⟩ : ∃ P : Nat, l.Players = P := ⟨l.Players.toNat, by omega⟩
  have main : ∀ (d p k : Nat) (out : List Int), P - p = d → d < k → p ≤ P → out.Pairwise (bef l z w) → (∀ q, q ∈ out ↔ (0 ≤ q ∧ q < p) ∧ iN l z w q = true) → out.length ≤ p →
      ∃ out', iA w l k out (p : Nat) = some out' ∧ IsList l z w out' := by
    intro d
    induction d with
    | zero =>
      intro p k out hd hk hp hs hm hl
      obtain ⟨k, rfl⟩ : ∃ q, k = q + 1 := ⟨k - 1, by omega⟩
      have : p = P := by omega
      subst this
      have hlt : decide ((p : Int) < l.Players) = false := decide_eq_false (by omega)
      refine ⟨out, ?_, hs, fun q => by rw [hm, hPe]⟩
      simp only [iA, hlt, cond_false, sJ]
    | succ d ih =>
      intro p k out hd hk hp hs hm hl
      obtain ⟨k, rfl⟩ : ∃ q, k = q + 1 := ⟨k - 1, by omega⟩
      have hlt : decide ((p : Int) < l.Players) = true := decide_eq_true (by omega)
      simp only [iA, hlt, cond_true, aDp h hw hw1, Option.bind_some]
      cases hb : iN l z w (p : Nat) with
      | false =>
        simp only [Bool.not_false, cond_true]
        unfold kW
        rw [cP (by omega)]
        refine ih (p + 1) k out (by omega) (by omega) (by omega) hs (fun q => ?_) (by omega)
        rw [hm]
        constructor
        · rintro ⟨h1, h2⟩; exact ⟨by omega, h2⟩
        · rintro ⟨h1, h2⟩
          refine ⟨⟨h1.1, ?_⟩, h2⟩
          rcases Int.lt_or_eq_of_le (show q ≤ p by omega) with h3 | h3
          · exact h3
          · rw [h3, hb] at h2; cases h2
      | true =>
        simp only [Bool.not_true, cond_false]
        obtain ⟨out', he, hs', hp'⟩ := aHd h hw hw1 (iA w l k) out p (by omega) hs (fun x hx => by have := (hm x).1 hx; omega) (by omega)
        rw [he]
        refine ih (p + 1) k out' (by omega) (by omega) (by omega) hs' (fun q => ?_) (by rw [hp'.length_eq]; simp; omega)
        rw [hp'.mem_iff, List.mem_cons, hm]
        constructor
        · rintro (h1 | ⟨h1, h2⟩)
          · subst h1; exact ⟨by omega, hb⟩
          · exact ⟨by omega, h2⟩
        · rintro ⟨h1, h2⟩
          rcases Int.lt_or_eq_of_le (show q ≤ p by omega) with h3 | h3
          · exact .inr ⟨⟨h1.1, h3⟩, h2⟩
          · exact .inl h3
  exact main _ 0 BIG [] rfl (dD (by omega)) (Nat.zero_le _) .nil (fun q => by simp; omega) (Nat.le_refl _)
end list
/-- The list of a week. -/
def fY (l : aP) (z : List aC) (w : Int) : List Int := (gE (gK l z) w).getD []
theorem aDt {l : aP} {z : List aC} (hl : sF l = true) (hz : ∀ x ∈ z, rZ l.Players x = true) (hst : z.Pairwise fun x y => x.Id < y.Id) (hlen : z.length ≤ 1000) {w : Int} (hw : 0 ≤ w) (hw1 : w ≤ 1000) (hP : l.Players ≤ 12) : gE (gK l z) w = some (fY l z w) ∧ IsList l z w (fY l z w) := by
  obtain ⟨out, h1, h2⟩ := aJb hl hz hst hlen hw1 hP
  unfold fY
  rw [h1]
  exact ⟨rfl, h2⟩
theorem GD.list {l : aP} {z : List aC} (h : GD l z) {w : Int} (hw : 0 ≤ w) (hw1 : w ≤ 1000) (hP : l.Players ≤ 12) : gE (gK l z) w = some (fY l z w) ∧ IsList l z w (fY l z w) ∧ oS l w = some (fY l z w) := by
  obtain ⟨h1, h2⟩ := aDt h.rest h.reps h.st (Nat.le_trans h.len (by omega)) hw hw1 hP
  obtain ⟨out, h3, h4⟩ := aIy h hw hw1
  exact ⟨h1, h2, by rw [h3, h4.uniq h2]⟩
theorem GL.list {l : aP} {z : List aC} (h : GL l z) {w : Int} (hw : 0 ≤ w) (hw1 : w ≤ 1000) (hP : l.Players ≤ 12) : gE (gK l z) w = some (fY l z w) ∧ IsList l z w (fY l z w) ∧ oS l w = some (fY l z w) := h.gd.list hw hw1 hP
theorem IsList.len {l : aP} {z : List aC} {w : Int} {out : List Int} (h : IsList l z w out) (hP : l.Players ≤ 16) : out.length ≤ 16 := by
  have hnd : out.Nodup := h.st.imp fun {a b} hb he => by subst he; exact vF _ _ _ _ hb
  have hsub : out ⊆ (List.range 16).map fun n : Nat => (n : Int) := fun x hx => by
    have := (h.mem x).1 hx
    exact List.mem_map.2 ⟨x.toNat, List.mem_range.2 (by omega), by omega⟩
  have hnr : ((List.range 16).map fun n : Nat => (n : Int)).Nodup := List.Pairwise.map _ (fun a b h => by omega) (List.nodup_range (n := 16))
  have hp : out.Perm (((List.range 16).map fun n : Nat => (n : Int)).filter fun x => decide (x ∈ out)) := (List.perm_ext_iff_of_nodup hnd (hnr.sublist List.filter_sublist)).2 fun x => by
    rw [List.mem_filter, decide_eq_true_eq]
    exact ⟨fun hx => ⟨hsub hx, hx⟩, fun hx => hx.2⟩
  rw [hp.length_eq]
  exact Nat.le_trans (List.length_filter_le _ _) (by simp)
/-- The place of a player in a list, 0 without one. -/
def jU (out : List Int) (p : Int) : Int := nS (fun x => decide (p = x)) out + 1
theorem aIo (out : List Int) (p : Int) (hb : out.length ≤ 1000000) : mG out p = some (nS (fun x => decide (p = x)) out) := by
  unfold mG
  refine xH (fun k i => gW out p (out.length : Int) k i) out (fun x => decide (p = x)) (fun k i hi => ?_) (fun k => ?_) BIG (dD (by omega))
  · have hlt : decide ((i : Int) < (out.length : Int)) = true := decide_eq_true (by omega)
    simp only [gW, hlt, cond_true, dK hi, Option.bind_some, cP (show i < 9223372036854775807 by omega)]
  · have hlt : decide ((out.length : Int) < (out.length : Int)) = false := decide_eq_false (by omega)
    simp only [gW, hlt, cond_false, oQ]
theorem aCw {α : Type} (p : α → Bool) (l : List α) : -1 ≤ nS p l ∧ nS p l < l.length := by unfold nS; split <;> omega
theorem aHs {l : aP} {z : List aC} (hl : sF l = true) (hz : ∀ x ∈ z, rZ l.Players x = true) (hst : z.Pairwise fun x y => x.Id < y.Id) (hlen : z.length ≤ 1000) {w : Int} (hw : 0 ≤ w) (hw1 : w ≤ 1000) (hP : l.Players ≤ 12) (p : Int) : lG (gK l z) p w = some (jU (fY l z w) p) := by
  obtain ⟨h1, h2⟩ := aDt hl hz hst hlen hw hw1 hP
  have h3 := h2.len (by omega)
  have h4 := aCw (fun x => decide (p = x)) (fY l z w)
  unfold lG
  rw [h1, Option.bind_some, aIo _ _ (by omega), Option.bind_some, cW (by omega) (by omega)]; rfl
theorem aHf (out : List Int) (p : Int) (hb : out.length ≤ 1000) : gT p out BIG 0 = some (jU out p) := by
  have main := xH (fun k i => (gT p out k i).map (· - 1)) out (fun x => decide (p = x)) (fun k i hi => ?_) (fun k => ?_) BIG (dD (by omega))
  · cases hq : gT p out BIG 0 with
    | none => rw [hq] at main; cases main
    | some x =>
      rw [hq] at main
      have : x - 1 = nS (fun x => decide (p = x)) out := Option.some.inj main
      unfold jU
      congr 1; omega
  · have hlt : decide ((i : Int) < (out.length : Int)) = true := decide_eq_true (by omega)
    have hsw : decide (out[i] = p) = decide (p = out[i]) := by rw [decide_eq_decide]; exact eq_comm
    simp only [gT, hlt, cond_true, dK hi, Option.bind_some, cP (show i < 9223372036854775807 by omega), hsw]
    cases decide (p = out[i])
    · rfl
    · simp only [cond_true, Option.map_some]; congr 1; omega
  · have hlt : decide ((out.length : Int) < (out.length : Int)) = false := decide_eq_false (by omega)
    simp only [gT, hlt, cond_false, rN, Option.map_some]; rfl
theorem GD.place {l : aP} {z : List aC} (h : GD l z) {w : Int} (hw : 0 ≤ w) (hw1 : w ≤ 1000) (hP : l.Players ≤ 12) (p : Int) : tT l p w = some (jU (fY l z w) p) := by
  obtain ⟨_, h2, h3⟩ := h.list hw hw1 hP
  have h4 := h2.len (by omega)
  unfold tT
  rw [h3, Option.bind_some]
  exact aHf _ _ (by omega)
end Go.Am
