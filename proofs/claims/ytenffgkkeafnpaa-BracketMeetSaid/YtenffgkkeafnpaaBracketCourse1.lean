/- Layer 7, plain: players. -/
import Derived.Test.YtenffgkkeafnpaaBkPlain5
namespace Go.Am
theorem Good.le999 {t : aO} {l : List aE} {d : List Int} (hg : Good t l d) {a : Nat} (ha : a < d.length) : d.getD a 0 ≤ 999 := by
  rcases hg.home.home a ha with e | ⟨u, hu, _, e⟩
  · have ha' : a < t.Slots.length := hg.dok.len ▸ ha
    rw [e, bV ha']
    exact (hg.ht.rng a ha').2
  · have hm := wH.1 hu
    have hs := hg.slips u hm.1
    simp only [eL, hm.2, if_true, Bool.and_eq_true, gA] at hs
    omega
theorem aDp {t : aO} {l : List aE} {d : List Int} (hg : Good t l d) : hZ t l = some (d, true) := by
  have hl := hg.len
  rw [aAo (by omega) hg.ht.len32 (qR hg.ht) (xA hg.slips)]
  have h := hg.agr.1
  unfold kB at h
  split at h
  · rename_i d' U hr
    split at h
    · rename_i hU
      cases h
      rw [hr]
      simp [hU]
    · cases h
  · cases h
end Go.Am
