/- The document's list; the places. -/
import Derived.Test.YtaocljlhapoieaaGreatRzPlain12
namespace Go.Am

instance (l : aS) (z : List aD) (w a b : Int) : Decidable (bef l z w a b) := by unfold bef ltL; infer_instance
section list
variable {l : aS} {z : List aD} (h : GD l z) {w : Int} (hw : 0 ≤ w) (hw1 : w ≤ 1000)
include h hw hw1
end list
theorem IsList.len {l : aS} {z : List aD} {w : Int} {out : List Int} (h : IsList l z w out) (hP : l.Players ≤ 16) : out.length ≤ 16 := by
  have hnd : out.Nodup := h.st.imp fun {a b} hb he => by subst he; exact aGy _ _ _ _ hb
  have hsub : out ⊆ (List.range 16).map fun n : Nat => (n : Int) := fun x hx => by
    have := (h.mem x).1 hx
    exact List.mem_map.2 ⟨x.toNat, List.mem_range.2 (by omega), by omega⟩
  have hnr : ((List.range 16).map fun n : Nat => (n : Int)).Nodup := List.Pairwise.map _ (fun a b h => by omega) (List.nodup_range (n := 16))
  have hp : out.Perm (((List.range 16).map fun n : Nat => (n : Int)).filter fun x => decide (x ∈ out)) := (List.perm_ext_iff_of_nodup hnd (hnr.sublist List.filter_sublist)).2 fun x => by
    rw [List.mem_filter, decide_eq_true_eq]
    exact ⟨fun hx => ⟨hsub hx, hx⟩, fun hx => hx.2⟩
  rw [hp.length_eq]
  exact Nat.le_trans (List.length_filter_le _ _) (by simp)
end Go.Am
