/- The library's sort of whole numbers, as a function that changes its slice. -/
import Derived.Test.YtbbahihlmgampaaGreatAmFam2
import Derived.Test.YtbbahihlmgampaaGreatAmRange
import Derived.Sort.OwnSortedInts
namespace Go.Am
open Go.Sort
theorem aJj : ∀ zs : List Int, (zs.map aJ).flatten = zs.map fun x => .lit (.int .i64 x)
 | [] => rfl
 | z :: zs => by simp only [List.map_cons, List.flatten_cons, aJj zs]; rfl
theorem aKu {w : World} {X : bO} : ∀ (zs : List Int), DRs w X ((zs.map aJ).flatten) (zs.map (Value.int .i64))
 | [] => trivial
 | z :: zs => ⟨.lit _ rfl, aKu zs⟩
theorem aMv {w : World} {X : bO} {zs : List Int} {xs : List Value} (h : DRs w X ((zs.map aJ).flatten) xs) : xs = zs.map (Value.int .i64) := by
 have hl : ∀ zs : List Int, iS ((zs.map aJ).flatten) = true := by
  intro zs
  induction zs with
  | nil => rfl
  | cons z zs ih => rw [List.map_cons, List.flatten_cons]; exact ih
 rw [aCb (hl zs) h, aJj, List.map_map]
 rfl
theorem aEz {w w' : World} {v : Value} (h : w.grownBy w' v.ownBlock) (hd : w.drawn ≤ w'.drawn) : Keeps (fun b _ => v.ownBlock = some b) w w' := by
 obtain ⟨h1, h2, h3, h4, h5⟩ := h
 have hb : ∀ b, b < w.heap.size → v.ownBlock ≠ some b → w'.heap[b]? = w.heap[b]? := fun b hb hn => h5 b hb (Ne.symm hn)
 refine ⟨h1, h2, h3, h4, fun b hlt hz => hb b hlt (hz 0), fun b o hlt hz => ?_, fun b o hlt hz => ?_, hd⟩
 ·simp only [World.cell?, hb b hlt hz]
 ·simp only [World.frozen?, hb b hlt hz]
end Go.Am
