/- Layer 7, plain: players. -/
import Derived.Test.YtenffgkkeafnpaaBkPlain5
namespace Go.Am
theorem Good.le999 {t : aO} {l : List aE} {d : List Int} (hg : Good t l d) {a : Nat} (ha : a < d.length) : d.getD a 0 ≤ 999 := by
  rcases hg.home.home a ha with e | ⟨u, hu, _, e⟩
  · have ha' : a < t.Slots.length := hg.dok.len ▸ ha
    rw [e, bR ha']
    exact (hg.ht.rng a ha').2
  · have hm := sU.1 hu
    have hs := hg.slips u hm.1
    simp only [eL, hm.2, if_true, Bool.and_eq_true, gC] at hs
    omega
theorem aCy {t : aO} {l : List aE} {d : List Int} (hg : Good t l d) : gW t l = some (d, true) := by
  have hl := hg.len
  rw [zW (by omega) hg.ht.len32 (oS hg.ht) (uY hg.slips)]
  have h := hg.agr.1
  unfold iB at h
  split at h
  · rename_i d' U hr
    split at h
    · rename_i hU
      cases h
      rw [hr]
      simp [hU]
    · cases h
  · cases h
end Go.Am
