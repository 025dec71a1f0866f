/- The plain law PlayStuck. -/
import Derived.Test.YtikcmpflkibomaaPlayPlain16
import Derived.KernelRfl
namespace Go.Am
theorem works_true : deucelaw08_works = some true := by kernel_rfl

theorem deucelaw08_PlayStuck_true (p : ApiProgram) (hp : okApiProgram p) : deucelaw08_PlayStuck p = some true := by
  have hsm := small_of hp
  obtain ⟨r, hr, hrv⟩ := ready_eq p hsm
  unfold deucelaw08_PlayStuck
  simp only [hr, works_true, Option.bind_some, or_some]
  cases r with
  | false => simp
  | true =>
    obtain ⟨hv, hh⟩ := hrv rfl
    have hvp := VP_of hv
    have hnh := notHuge_of hh
    have due : ∀ d : Int, deuceref08_DueBy p d = some (subP p (needB p d)) := ref_DueBy_eq hvp hnh
    -- Days of the jobs that are due
    have days : ∀ d : Int, ∃ n e : Int, play_Days (subP p (needB p d)) = some (n, e) ∧ ((DueFits p d ∧ e = 0) ∨ (¬ DueFits p d ∧ e = 3)) := by
      intro d
      have hv' := sub_valid hv (needB p d)
      rcases Days_Best (VP_of hv') hv' with ⟨n, l, h1, _, _, _, h4, h5, _⟩ | ⟨h1, _, h3⟩
      · exact ⟨n, 0, h1, .inl ⟨⟨l, h5.mono h4 (Int.le_refl 0)⟩, rfl⟩⟩
      · exact ⟨0, 3, h1, .inr ⟨fun ⟨l, hl⟩ => h3 p.Days.length (by omega) (by simp only [subP]; omega) l hl, rfl⟩⟩
    obtain ⟨m, e, hd, he⟩ := days 2
    rw [need_all hvp] at hd
    have all2 : ∀ d, DueFits p 2 → DueFits p d := fun d ⟨l, hl⟩ => ⟨_, sub_full hvp (needB_len p d) (by rw [need_all hvp] at hl; exact hl)⟩
    rcases Stuck_spec hvp hv with ⟨hs, hall⟩ | ⟨n, hs, hn0, hn3, hno, hyes⟩
    · have he0 : e = 0 := by
        rcases he with ⟨_, h⟩ | ⟨h, _⟩
        · exact h
        · exact absurd (hall 2 (by omega) (by omega)) h
      subst he0
      simp [hs, hd]
    · have he3 : e = 3 := by
        rcases he with ⟨h, _⟩ | ⟨_, h⟩
        · exact absurd (all2 n h) hno
        · exact h
      subst he3
      obtain ⟨m1, e1, hd1, h1⟩ := days n
      have h1e : e1 = 3 := by
        rcases h1 with ⟨h, _⟩ | ⟨_, h⟩
        · exact absurd h hno
        · exact h
      subst h1e
      have c1 : decide (n = -1) = false := decide_eq_false (by omega)
      have c2 : decide (n < -1) = false := decide_eq_false (by omega)
      have c3 : decide (3 ≤ n) = false := decide_eq_false (by omega)
      have c4 : decide ((3 : Int) = 0) = false := rfl
      simp only [hs, hd, Option.bind_some, decide_true, Bool.not_true, Bool.not_false, cond_false, cond_true, c1, c2, c3, c4, due, hd1]
      by_cases hz : 0 < n
      · obtain ⟨m2, e2, hd2, h2⟩ := days (n - 1)
        have h2e : e2 = 0 := by
          rcases h2 with ⟨_, h⟩ | ⟨h, _⟩
          · exact h
          · exact absurd (hyes (n - 1) (by omega) (by omega)) h
        subst h2e
        have c5 : decide (0 < n) = true := decide_eq_true hz
        simp only [c5, cond_true, w64_ok (show -9223372036854775808 ≤ n - 1 by omega) (show n - 1 ≤ 9223372036854775807 by omega), Option.bind_some, hd2, decide_true, Bool.not_true, cond_false]
        rfl
      · have c5 : decide (0 < n) = false := decide_eq_false hz
        simp only [c5, cond_false]
        rfl
end Go.Am
