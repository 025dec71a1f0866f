/- The library's sort of whole numbers, as a function that changes its slice. -/
import Derived.Test.YtiohgpipanopaaaGreatAmFam2
import Derived.Test.YtiohgpipanopaaaGreatAmRange
import Derived.Sort.OwnSortedInts
namespace Go.Am
open Go.Sort
theorem aSp {α : Type} {enc : α → List D} {env : Nat → AV} {objs : List MO} {k : Nat} {o : Option α} {a : α} (hk : env k = .cp (enc a)) (h : o = some a) : Ent ⟨env, objs⟩ ⟨upd env k (cM enc o), objs⟩ :=
 aJz fun j => by
  by_cases hj : k = j
  ·subst hj
   right
   rw [gW, hk, h]
   rfl
  ·right
   rw [nC _ _ hj]
theorem aKv : ∀ zs : List Int, (zs.map aL).flatten = zs.map fun x => .lit (.int .i64 x)
 | [] => rfl
 | z :: zs => by simp only [List.map_cons, List.flatten_cons, aKv zs]; rfl
theorem aHg {w : World} {X : bZ} : ∀ (zs : List Int), DRs w X ((zs.map aL).flatten) (zs.map (Value.int .i64))
 | [] => trivial
 | z :: zs => ⟨.lit _ rfl, aHg zs⟩
theorem aGj {w : World} {X : bZ} {zs : List Int} {xs : List Value} (h : DRs w X ((zs.map aL).flatten) xs) : xs = zs.map (Value.int .i64) := by
 have hl : ∀ zs : List Int, fD ((zs.map aL).flatten) = true := by
  intro zs
  induction zs with
  | nil => rfl
  | cons z zs ih => rw [List.map_cons, List.flatten_cons]; exact ih
 rw [aCr (hl zs) h, aKv, List.map_map]
 rfl
theorem aGn {w w' : World} {v : Value} (h : w.grownBy w' v.ownBlock) (hd : w.drawn ≤ w'.drawn) : Keeps (fun b _ => v.ownBlock = some b) w w' := by
 obtain ⟨h1, h2, h3, h4, h5⟩ := h
 have hb : ∀ b, b < w.heap.size → v.ownBlock ≠ some b → w'.heap[b]? = w.heap[b]? := fun b hb hn => h5 b hb (Ne.symm hn)
 refine ⟨h1, h2, h3, h4, fun b hlt hz => hb b hlt (hz 0), fun b o hlt hz => ?_, fun b o hlt hz => ?_, hd⟩
 ·simp only [World.cell?, hb b hlt hz]
 ·simp only [World.frozen?, hb b hlt hz]
def jR (zs : List Int) : List Int := zs.mergeSort fun x y => decide (x ≤ y)
theorem aRx {P : Program} {N : FuncId}
  (h1 : ∀ (blk off cap : Nat) (zs : List Int) (w : World), Holds (Value.int .i64) w blk off zs.toArray → blk < w.heap.size → zs.length < 4611686018427387904 →
   Calls P N #[.slice (some ⟨blk, off, none⟩) zs.length cap] w fun e w' => e = .returned (.tuple #[]) ∧ ∃ n os, w' = grow (putRow (Value.int .i64) (Sort.ahead w n) blk off (zs.mergeSort fun x y => decide (x ≤ y)).toArray) os)
  (h0 : ∀ (p : Option Addr) (cap : Nat) (w : World), Calls P N #[.slice p 0 cap] w fun e w' => e = .returned (.tuple #[]) ∧ w' = w)
  {v : Value} {e : TypeId} {zs : List Int} (hl : zs.length < 4611686018427387904) :
  dR P N [.d (.lit v)] [.arr v e 1 (zs.map aL)] (fun r o => r = .tup [] ∧ o = [.arr v e 1 ((jR zs).map aL)]) := by
 intro A w vs hI hA hv
 have hvs : vs = [v] := by
  match vs, hv with
  | [u], hv =>
   cases hv.1 with
   | d h => cases h; rfl
 subst hvs
 obtain ⟨xs, hd, hown, hr⟩ := hI.holds _ (List.mem_singleton.2 rfl)
 have hx := aGj hd
 subst hx
 rw [List.length_map] at hown
 have hvr : ∀ w' X, VR w' X (.tup []) (.tuple #[]) := fun w' X => .tup (us := []) rfl fun i hi => by simp at hi
 rcases hown.2 with ⟨hn, hz⟩ | ⟨g, cap, cur, rfl, hb, hg, h2, h3, h4, h5⟩
 ·subst hn
  have hz0 : zs = [] := List.length_eq_zero_iff.1 hz
  subst hz0
  refine (h0 none 0 w).mono ?_
  rintro e' w' ⟨rfl, rfl⟩
  exact ⟨_, .tup [], _, rfl, Keeps.refl _ _, hI, hvr _ _, fun m hm b o hf => .inl ⟨m, hm, hf⟩, rfl, by simp [jR]⟩
 ·rw [Nat.mul_one] at h5
  have hsl : (jR zs).length = zs.length := by simp [jR]
  refine (h1 g 0 cap zs w (holds_of_blockI hg (by simpa using h5)) (Array.getElem?_eq_some_iff.1 hg).1 hl).mono ?_
  rintro e' w' ⟨rfl, n, os, rfl⟩
  have hgb := grownBy_sortedI (w := w) (g := g) (n := n) (os := os) (zs.mergeSort fun x y => decide (x ≤ y)).toArray
  have hk := aGn (v := .slice (some ⟨g, 0, none⟩) zs.length cap) hgb (Nat.le_add_right _ _)
  refine ⟨_, .tup [], [.arr (.slice (some ⟨g, 0, none⟩) zs.length cap) e 1 ((jR zs).map aL)], rfl, hk.mono fun b o h => ⟨_, List.mem_singleton.2 rfl, h⟩, ⟨?_, fun m hm b o hf => ?_, fun m hm => ?_⟩, hvr _ _, fun m hm b o hf => ?_, rfl, rfl⟩
  ·exact List.pairwise_singleton _ _
  ·cases List.mem_singleton.1 hm
   exact hI.apart _ (List.mem_singleton.2 rfl) b o hf
  ·cases List.mem_singleton.1 hm
   refine ⟨_, aHg (jR zs), ?_, fun r hr' => ?_⟩
   ·have := ownsRow_sortedI (base := 0) (n := n) (os := os) (ss := zs) (ts := jR zs) hsl hb hg h2 h3 h4
    rw [List.length_map, hsl]
    exact this
   ·obtain ⟨x, _, rfl⟩ := List.mem_map.1 hr'
    rfl
  ·cases List.mem_singleton.1 hm
   exact .inl ⟨_, List.mem_singleton.2 rfl, hf⟩
end Go.Am
