/- The plain law PlayTimes. -/
import Derived.Test.YtikcmpflkibomaaPlayPlain7
import Derived.KernelRfl
namespace Go.Am
theorem works_true : deucelaw08_works = some true := by kernel_rfl

theorem timesR_len (p : ApiProgram) (order : List ApiSeat) (h : p.Jobs.length ≤ 9223372036854775807) : (timesR p order).1.length ≤ 9223372036854775807 ∧ (timesR p order).2.1.length ≤ 9223372036854775807 := by
  unfold timesR
  cases valid p <;> cases isOrd p order <;> simp [spansOf, h]

theorem deucelaw08_PlayTimes_true (p : ApiProgram) (order : List ApiSeat) (hp : okApiProgram p) (ho : okL okApiSeat order) : deucelaw08_PlayTimes p order = some true := by
  have hsm := small_of hp
  have hol : order.length ≤ 9223372036854775807 := ho.1
  unfold deucelaw08_PlayTimes
  simp only [huge_eq p hsm, works_true, Option.bind_some, or_some]
  cases hh : hugeB p with
  | true => simp
  | false =>
    have hn := notHuge_of hh
    by_cases h20 : order.length ≤ 20
    · have e1 : decide ((20 : Int) < (order.length : Int)) = false := by simp; omega
      have hl : order.length ≤ 1000000 := by omega
      obtain ⟨t1, t2⟩ := timesR_len p order (by have := hn.2.1; omega)
      simp only [e1, Bool.or_self, cond_false, Copy_eq hn, copied_eq hl, play_Check_eq p hsm, ref_Check_eq p hsm, play_Times_all p hsm order hl, ref_Times_all p hsm order hl, play_Fits_all p hsm order hl, ref_Fits_all p hsm order hl, Option.bind_some, decide_true, Bool.not_true,
        sameSpans_self _ t1, sameSpans_self _ t2, cond_true, sameJobs_self p.Jobs hsm.2.2.1 hsm.2.2.2]
      rfl
    · have e1 : decide ((20 : Int) < (order.length : Int)) = true := by simp; omega
      simp [e1]
end Go.Am
