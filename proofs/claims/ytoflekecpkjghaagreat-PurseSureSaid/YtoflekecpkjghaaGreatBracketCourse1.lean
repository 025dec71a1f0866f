/- Layer 7, plain: players. -/
import Derived.Test.YtoflekecpkjghaaGreatBkPlain5
namespace Go.Am
theorem aOl {t : aR} {l : List aE} {d : List Int} (hg : Good t l d) : gU t l = some (d, true) := by
 have hl := hg.len
 rw [aKk (by omega) hg.ht.len32 (xA hg.ht) (aFz hg.slips)]
 have h := hg.agr.1
 unfold mY at h
 split at h
 ·rename_i d' U hr
  split at h
  ·rename_i hU
   cases h
   rw [hr]
   simp [hU]
  ·cases h
 ·cases h
end Go.Am
