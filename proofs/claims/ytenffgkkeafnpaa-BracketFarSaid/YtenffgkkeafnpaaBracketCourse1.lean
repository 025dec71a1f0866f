/- Layer 7, plain: players. -/
import Derived.Test.YtenffgkkeafnpaaBkPlain5
namespace Go.Am
theorem Good.le999 {t : aO} {l : List aD} {d : List Int} (hg : Good t l d) {a : Nat} (ha : a < d.length) : d.getD a 0 ≤ 999 := by
  rcases hg.home.home a ha with e | ⟨u, hu, _, e⟩
  · have ha' : a < t.Slots.length := hg.dok.len ▸ ha
    rw [e, bJ ha']
    exact (hg.ht.rng a ha').2
  · have hm := vL.1 hu
    have hs := hg.slips u hm.1
    simp only [eD, hm.2, if_true, Bool.and_eq_true, gU] at hs
    omega
theorem aCj {t : aO} {l : List aD} {d : List Int} (hg : Good t l d) : gP t l = some (d, true) := by
  have hl := hg.len
  rw [zI (by omega) hg.ht.len32 (pR hg.ht) (wD hg.slips)]
  have h := hg.agr.1
  unfold jK at h
  split at h
  · rename_i d' U hr
    split at h
    · rename_i hU
      cases h
      rw [hr]
      simp [hU]
    · cases h
  · cases h
end Go.Am
