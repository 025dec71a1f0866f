/- Layer 7, plain: what all laws of the bracket need. -/
import Derived.Test.YtenffgkkeafnpaaBkPlain2
import Derived.KernelRfl
namespace Go.Am
theorem zA : lE = some true := by kernel_rfl
theorem aBt (l : List Int) (h : l.length ≤ 9223372036854775807) : gN l l = some true := by
  unfold gN
  have main := tJ (fun k i => fH l l k i) l.length (fun _ => true) (some false) (some true) ?_ ?_ BIG (dD h)
  · rw [main, show (List.range l.length).all (fun _ => true) = true by simp]
    simp
  · intro k i hi
    simp [fH, hi, cP hi, cN (show i < 9223372036854775807 by omega)]
  · intro k
    simp [fH, mF]
theorem aKg {t : aO} {l : List aG} {d : List Int} (hg : Good t l d) (must : List (List Int)) (r p : Nat) : (iI (zP d must t r p)).length ≤ 32 := by
  rw [(qY _).length_eq]
  have := tL d must t r p d.length
  have := hg.dok.len
  have := hg.ht.len32
  unfold zP
  omega
theorem aEz (t : aO) (l : List aG) (r p : Int) : ∃ o, dZ t l r p = some o := by
  rcases jY t l with ⟨d, hg⟩ | ⟨e, he⟩
  · obtain ⟨must, hd, hM⟩ := kC hg
    cases hm : fY t r p with
    | false => exact ⟨_, aAb hg hm⟩
    | true =>
      obtain ⟨r', p', rfl, rfl, hr, hp⟩ := pD hm
      exact ⟨_, yR hg hd hM hm⟩
  · exact ⟨_, aAc he r p⟩
theorem aJl (t : aO) (l : List aG) (r p : Int) : ∃ o, fB t l r p = some o ∧ o.1.length ≤ 32 := by
  rcases jY t l with ⟨d, hg⟩ | ⟨e, he⟩
  · obtain ⟨must, hd, hM⟩ := kC hg
    cases hm : fY t r p with
    | false => exact ⟨_, aFr hg hm, by simp⟩
    | true =>
      obtain ⟨r', p', rfl, rfl, hr, hp⟩ := pD hm
      exact ⟨_, aDb hg hd hM hm, aKg hg must r' p'⟩
  · exact ⟨_, aFs he r p, by simp⟩
theorem aDd (t : aO) (l : List aG) (n : Int) : ∃ o, eJ t l n = some o := by
  rcases jY t l with ⟨d, hg⟩ | ⟨e, he⟩
  · obtain ⟨must, hd, hM⟩ := kC hg
    exact ⟨_, wS hg hd hM n⟩
  · exact ⟨_, yQ he n⟩
theorem aHu (t : aO) (l : List aG) (x y : Int) : ∃ o, fT t l x y = some o := by
  rcases jY t l with ⟨d, hg⟩ | ⟨e, he⟩
  · obtain ⟨must, hd, hM⟩ := kC hg
    exact ⟨_, aBx hg hd hM x y⟩
  · exact ⟨_, aDc he x y⟩
def aDq (t : aO) (l : List aG) : Bool := decide (100 < t.Slots.length) || decide (100 < l.length)
theorem aLv (t : aO) (l : List aG) : mQ t l = some (aDq t l) := by
  have e1 : decide (100 < (t.Slots.length : Int)) = decide (100 < t.Slots.length) := by rw [Bool.eq_iff_iff]; simp only [decide_eq_true_eq]; omega
  have e2 : decide (100 < (l.length : Int)) = decide (100 < l.length) := by rw [Bool.eq_iff_iff]; simp only [decide_eq_true_eq]; omega
  unfold mQ aDq
  rw [e1, e2, rQ, Option.bind_some]
theorem aMb {t : aO} {l : List aG} (h : aDq t l = false) : t.Slots.length ≤ 100 ∧ l.length ≤ 100 := by
  simp only [aDq, Bool.or_eq_false_iff, decide_eq_false_iff_not] at h
  omega
end Go.Am
