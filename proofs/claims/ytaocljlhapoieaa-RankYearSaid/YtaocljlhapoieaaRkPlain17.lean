/- Places and what stands before them; the Ids that are taken. -/
import Derived.Test.YtaocljlhapoieaaRkPlain16
namespace Go.Am

theorem aDh {α : Type} {R : α → α → Prop} [DecidableRel R] (hirr : ∀ x, ¬ R x x) (hasym : ∀ x y, R x y → ¬ R y x) {s : List α} (hs : s.Pairwise R) {i : Nat} (hi : i < s.length) : (s.filter fun q => decide (R q s[i])).length = i := by
  have es : s = s.take i ++ s[i] :: s.drop (i + 1) := by rw [← List.drop_eq_getElem_cons hi, List.take_append_drop]
  have h1 := List.pairwise_append.1 (es ▸ hs)
  have a1 : (s.take i).filter (fun q => decide (R q s[i])) = s.take i := List.filter_eq_self.2 fun q hq => decide_eq_true (h1.2.2 q hq _ List.mem_cons_self)
  have a2 : (s[i] :: s.drop (i + 1)).filter (fun q => decide (R q s[i])) = [] := List.filter_eq_nil_iff.2 fun q hq => by
    rw [decide_eq_true_eq]
    rcases List.mem_cons.1 hq with rfl | hq
    · exact hirr _
    · exact hasym _ _ ((List.pairwise_cons.1 h1.2.1).1 q hq)
  have a3 : s.filter (fun q => decide (R q s[i])) = s.take i := by
    conv => lhs; arg 2; rw [es]
    rw [List.filter_append, a1, a2, List.append_nil]
  rw [a3, List.length_take]; omega
theorem aFb {out : List Int} (hn : out.Nodup) {i : Nat} (hi : i < out.length) : vG out out[i] = i + 1 := by
  have : out.findIdx (fun x => decide (out[i] = x)) = i := by
    rw [List.findIdx_eq hi]
    refine ⟨by simp, fun j hj => ?_⟩
    rw [decide_eq_false_iff_not]
    exact fun he => absurd he.symm (List.pairwise_iff_getElem.1 hn j i (by omega) hi hj)
  unfold vG mI
  rw [this, if_pos hi]
theorem IsList.nodup {l : aM} {z : List aB} {w : Int} {out : List Int} (h : IsList l z w out) : out.Nodup := h.st.imp fun {a b} hb he => by subst he; exact xP _ _ _ _ hb
/-- A place is one more than the number of those before. -/
theorem IsList.place {l : aM} {z : List aB} {w : Int} {out : List Int} (h : IsList l z w out) {p : Int} (hp : p ∈ out) : vG out p = (out.filter fun q => decide (bef l z w q p)).length + 1 := by
  obtain ⟨i, hi, rfl⟩ := List.getElem_of_mem hp
  rw [aFb h.nodup hi, aDh (xP l z w) (aBj l z w) h.st hi]
/-- The Ids of what is taken, in their order. -/
def aBv (l : aM) (z : List aB) (p w : Int) : List Int := (kD l.Counts (dS l z p w)).map fun r => r.Id
theorem aFh {t u : List aB} (hp : t.Perm u) (hu : u.Pairwise fun x y => x.Id < y.Id) : qB (t.map fun r => r.Id) = u.map fun r => r.Id := by
  have h1 : (u.map fun r => r.Id).Pairwise fun x y : Int => x < y := List.Pairwise.map _ (fun _ _ h => h) hu
  have h2 : (qB (t.map fun r => r.Id)).Perm (u.map fun r => r.Id) := (List.mergeSort_perm _ _).trans (hp.map _)
  have h3 : (qB (t.map fun r => r.Id)).Pairwise fun x y : Int => x ≤ y := by
    have := List.pairwise_mergeSort (le := fun x y : Int => decide (x ≤ y)) (by intro a b c; simp only [decide_eq_true_eq]; omega) (by intro a b; simp only [Bool.or_eq_true, decide_eq_true_eq]; omega) (t.map fun r => r.Id)
    exact this.imp fun h => by simpa using h
  have h4 : (qB (t.map fun r => r.Id)).Nodup := h2.nodup_iff.2 (h1.imp fun h he => by omega)
  exact sX (key := fun x : Int => x) (h3.imp₂ (fun _ _ a b => by omega) h4) h1 fun x => h2.mem_iff
theorem aGe {C : Int} {l : aM} {z : List aB} (hst : z.Pairwise fun x y => x.Id < y.Id) {p w : Int} : (kD C (dS l z p w)).Pairwise fun x y => x.Id < y.Id := (tM hst).sublist List.filter_sublist
theorem aHg {l : aM} {z : List aB} (hst : z.Pairwise fun x y => x.Id < y.Id) {p w : Int} {r : aB} (hr : r ∈ z) : ((aBv l z p w).any fun i => decide (i = r.Id)) = decide (r ∈ kD l.Counts (dS l z p w)) := by
  unfold aBv
  rw [Bool.eq_iff_iff, decide_eq_true_eq, List.any_eq_true]
  constructor
  · rintro ⟨i, hi, he⟩
    obtain ⟨q, hq, rfl⟩ := List.mem_map.1 hi
    have := vZ hst q (lG (lG hq)) r hr (by simpa using he)
    rwa [← this]
  · intro h
    exact ⟨r.Id, List.mem_map.2 ⟨r, h, rfl⟩, by simp⟩
end Go.Am
