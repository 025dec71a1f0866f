/- Places and what stands before them; the Ids that are taken. -/
import Derived.Test.YtaocljlhapoieaaGreatRzPlain16
namespace Go.Am

/-- The Ids of what is taken, in their order. -/
def aEc (l : aS) (z : List aD) (p w : Int) : List Int := (oF l.Counts (jD l z p w)).map fun r => r.Id
theorem aFn {t u : List aD} (hp : t.Perm u) (hu : u.Pairwise fun x y => x.Id < y.Id) : qG (t.map fun r => r.Id) = u.map fun r => r.Id := by
  have h1 : (u.map fun r => r.Id).Pairwise fun x y : Int => x < y := List.Pairwise.map _ (fun _ _ h => h) hu
  have h2 : (qG (t.map fun r => r.Id)).Perm (u.map fun r => r.Id) := (List.mergeSort_perm _ _).trans (hp.map _)
  have h3 : (qG (t.map fun r => r.Id)).Pairwise fun x y : Int => x ≤ y := by
    have := List.pairwise_mergeSort (le := fun x y : Int => decide (x ≤ y)) (by intro a b c; simp only [decide_eq_true_eq]; omega) (by intro a b; simp only [Bool.or_eq_true, decide_eq_true_eq]; omega) (t.map fun r => r.Id)
    exact this.imp fun h => by simpa using h
  have h4 : (qG (t.map fun r => r.Id)).Nodup := h2.nodup_iff.2 (h1.imp fun h he => by omega)
  exact sX (key := fun x : Int => x) (h3.imp₂ (fun _ _ a b => by omega) h4) h1 fun x => h2.mem_iff
theorem aGm {C : Int} {l : aS} {z : List aD} (hst : z.Pairwise fun x y => x.Id < y.Id) {p w : Int} : (oF C (jD l z p w)).Pairwise fun x y => x.Id < y.Id := (vN hst).sublist List.filter_sublist
end Go.Am
