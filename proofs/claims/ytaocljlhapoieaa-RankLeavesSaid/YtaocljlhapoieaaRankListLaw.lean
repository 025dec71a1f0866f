/- The plain law RankList. -/
import Derived.Test.YtaocljlhapoieaaRankDefendsLaw
import Derived.Test.YtaocljlhapoieaaRkPlain18
namespace Go.Am

theorem IsList.len_le {l : aM} {z : List aB} {w : Int} {out : List Int} (h : IsList l z w out) (hP : 0 ≤ l.Players) : (out.length : Int) ≤ l.Players := by
  have hnr : ((List.range l.Players.toNat).map fun n : Nat => (n : Int)).Nodup := List.Pairwise.map _ (fun a b h => by omega) (List.nodup_range (n := l.Players.toNat))
  have := aHl h.nodup hnr fun x hx => by
    have := (h.mem x).1 hx
    exact List.mem_map.2 ⟨x.toNat, List.mem_range.2 (by omega), by omega⟩
  rw [List.length_map, List.length_range] at this
  omega
end Go.Am
