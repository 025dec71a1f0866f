/- Places and what stands before them; the Ids that are taken. -/
import Derived.Test.YtaocljlhapoieaaRkPlain16
namespace Go.Am

theorem aDl {α : Type} {R : α → α → Prop} [DecidableRel R] (hirr : ∀ x, ¬ R x x) (hasym : ∀ x y, R x y → ¬ R y x) {s : List α} (hs : s.Pairwise R) {i : Nat} (hi : i < s.length) : (s.filter fun q => decide (R q s[i])).length = i := by
  have es : s = s.take i ++ s[i] :: s.drop (i + 1) := by rw [← List.drop_eq_getElem_cons hi, List.take_append_drop]
  have h1 := List.pairwise_append.1 (es ▸ hs)
  have a1 : (s.take i).filter (fun q => decide (R q s[i])) = s.take i := List.filter_eq_self.2 fun q hq => decide_eq_true (h1.2.2 q hq _ List.mem_cons_self)
  have a2 : (s[i] :: s.drop (i + 1)).filter (fun q => decide (R q s[i])) = [] := List.filter_eq_nil_iff.2 fun q hq => by
    rw [decide_eq_true_eq]
    rcases List.mem_cons.1 hq with rfl | hq
    · exact hirr _
    · exact hasym _ _ ((List.pairwise_cons.1 h1.2.1).1 q hq)
  have a3 : s.filter (fun q => decide (R q s[i])) = s.take i := by
    conv => lhs; arg 2; rw [es]
    rw [List.filter_append, a1, a2, List.append_nil]
  rw [a3, List.length_take]; omega
theorem aBg {out : List Int} (hn : out.Nodup) {i : Nat} (hi : i < out.length) : jU out out[i] = i + 1 := by
  have : out.findIdx (fun x => decide (out[i] = x)) = i := by
    rw [List.findIdx_eq hi]
    refine ⟨by simp, fun j hj => ?_⟩
    rw [decide_eq_false_iff_not]
    exact fun he => absurd he.symm (List.pairwise_iff_getElem.1 hn j i (by omega) hi hj)
  unfold jU nS
  rw [this, if_pos hi]
theorem uY {out : List Int} {p : Int} : jU out p = 0 ↔ p ∉ out := by
  unfold jU nS
  constructor
  · intro h hp
    obtain ⟨i, hi, rfl⟩ := List.getElem_of_mem hp
    have : out.findIdx (fun x => decide (out[i] = x)) < out.length := List.findIdx_lt_length_of_exists ⟨out[i], hp, by simp⟩
    rw [if_pos this] at h; omega
  · intro h
    rw [if_neg]; rfl
    intro hlt
    have := List.findIdx_getElem (p := fun x => decide (p = x)) (xs := out) (w := hlt)
    simp only [decide_eq_true_eq] at this
    exact h (by rw [this]; exact List.getElem_mem _)
theorem IsList.nodup {l : aP} {z : List aC} {w : Int} {out : List Int} (h : IsList l z w out) : out.Nodup := h.st.imp fun {a b} hb he => by subst he; exact vF _ _ _ _ hb
theorem aDs {a b : List Int} (ha : a.Nodup) (hb : b.Nodup) (h : ∀ x ∈ a, x ∈ b) : a.length ≤ b.length := by
  have hp : a.Perm (b.filter fun x => decide (x ∈ a)) := (List.perm_ext_iff_of_nodup ha (hb.sublist List.filter_sublist)).2 fun x => by
    rw [List.mem_filter, decide_eq_true_eq]
    exact ⟨fun hx => ⟨h x hx, hx⟩, fun hx => hx.2⟩
  rw [hp.length_eq]
  exact List.length_filter_le _ _
/-- A place is one more than the number of those before. -/
theorem IsList.place {l : aP} {z : List aC} {w : Int} {out : List Int} (h : IsList l z w out) {p : Int} (hp : p ∈ out) : jU out p = (out.filter fun q => decide (bef l z w q p)).length + 1 := by
  obtain ⟨i, hi, rfl⟩ := List.getElem_of_mem hp
  rw [aBg h.nodup hi, aDl (vF l z w) (aBx l z w) h.st hi]
/-- Fewer before: no later place. -/
theorem aGe {l l' : aP} {z z' : List aC} {w : Int} {out out' : List Int} (h : IsList l z w out) (h' : IsList l' z' w out') {p : Int} (hp : p ∈ out) (hp' : p ∈ out') (hb : ∀ q ∈ out', bef l' z' w q p → q ∈ out ∧ bef l z w q p) : jU out' p ≤ jU out p := by
  rw [h.place hp, h'.place hp']
  have hs : (out'.filter fun q => decide (bef l' z' w q p)).length ≤ (out.filter fun q => decide (bef l z w q p)).length := by
    refine aDs (h'.nodup.sublist List.filter_sublist) (h.nodup.sublist List.filter_sublist) fun q hq => ?_
    rw [List.mem_filter, decide_eq_true_eq] at hq ⊢
    exact hb q hq.1 hq.2
  omega

end Go.Am
