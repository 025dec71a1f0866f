/- The plain law PlayDays. -/
import Derived.Test.YtikcmpflkibomaaPlayPlain18
import Derived.KernelRfl
namespace Go.Am
theorem works_true : deucelaw08_works = some true := by kernel_rfl

theorem deucelaw08_PlayDays_true (p : ApiProgram) (old : List ApiSeat) (hp : okApiProgram p) (ho : okL okApiSeat old) : deucelaw08_PlayDays p old = some true := by
  have hsm := small_of hp
  have hol : old.length ≤ 9223372036854775807 := ho.1
  unfold deucelaw08_PlayDays
  rw [Far_eq p hsm]
  cases hh : hugeB p with
  | true => simp [works_true]
  | false =>
    have hnh := notHuge_of hh
    have hcopy := Copy_eq hnh
    cases hv : valid p with
    | false =>
      by_cases h20 : old.length ≤ 20
      · have e1 : decide ((20 : Int) < (old.length : Int)) = false := decide_eq_false (by omega)
        have c0 : play_Check p = some 80 := by rw [play_Check_eq p hsm, hv]; rfl
        have c1 : deuceref08_Check p = some 80 := by rw [ref_Check_eq p hsm, hv]; rfl
        have d1 : play_Days p = some (0, 80) := by simp [play_Days, c0]
        have d2 : deuceref08_Days p = some (0, 80) := by simp [deuceref08_Days, c1]
        have d3 : play_Stuck p = some (0, 80) := by simp [play_Stuck, c0]
        have d4 : deuceref08_Stuck p = some (0, 80) := by simp [deuceref08_Stuck, c1]
        have d5 : play_Fewest p old = some (0, 80) := by simp [play_Fewest, play_repair, c0]
        have d6 : deuceref08_Fewest p old = some (0, 80) := by simp [deuceref08_Fewest, c1]
        simp [e1, hcopy, d1, d2, d3, d4, d5, d6, works_true, copied_eq (show old.length ≤ 1000000 by omega)]
      · have e1 : decide ((20 : Int) < (old.length : Int)) = true := decide_eq_true (by omega)
        simp [e1, works_true]
    | true =>
      have hvp := VP_of hv
      have hnj := hvp.nj
      cases hb : (decide (4 < p.Jobs.length) || decide (4 < p.Days.length * courts p)) with
      | true => simp [works_true]
      | false =>
        by_cases h20 : old.length ≤ 20
        · have e1 : decide ((20 : Int) < (old.length : Int)) = false := decide_eq_false (by omega)
          obtain ⟨n, s1, s2⟩ := Stuck_ref hvp hv hnh
          have hd := Days_ref hvp hv
          have hdd : ∃ a b, play_Days p = some (a, b) := by
            rcases Days_Best hvp hv with ⟨n, l, h1, _⟩ | ⟨h1, _⟩
            · exact ⟨_, _, h1⟩
            · exact ⟨_, _, h1⟩
          obtain ⟨a, b, hdd⟩ := hdd
          have hf : ∃ m e, play_Fewest p old = some (m, e) ∧ deuceref08_Fewest p old = some (m, e) := by
            cases hio : isOldB p old with
            | true =>
              rcases Fewest_ref hvp hv hio with ⟨m, l, h1, h2, _⟩ | ⟨h1, h2⟩
              · exact ⟨m, 0, by simp [play_Fewest, h1], h2⟩
              · exact ⟨0, 3, by simp [play_Fewest, h1], h2⟩
            | false =>
              have c0 : play_Check p = some 0 := by rw [play_Check_eq p hsm, hv]; rfl
              have c1 : deuceref08_Check p = some 0 := by rw [ref_Check_eq p hsm, hv]; rfl
              refine ⟨0, 81, ?_, ?_⟩
              · unfold play_Fewest play_repair
                rw [c0, play_isOld_eq p (by omega) old hol, hio]
                rfl
              · unfold deuceref08_Fewest
                rw [c1, ref_IsOld_eq p (by omega) old hol, hio]
                rfl
          obtain ⟨m, e, f1, f2⟩ := hf
          simp [e1, hcopy, hd, hdd, s1, s2, f1, f2, works_true, copied_eq (show old.length ≤ 1000000 by omega)]
        · have e1 : decide ((20 : Int) < (old.length : Int)) = true := decide_eq_true (by omega)
          simp [e1, works_true]
end Go.Am
