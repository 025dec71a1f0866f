/- The plain law PlayJobs. -/
import Derived.Test.YtikcmpflkibomaaPlayJobs1
import Derived.KernelRfl
namespace Go.Am
theorem aEw : mM = some true := by kernel_rfl
theorem zR (l : List Int) (h : l.length ≤ 9223372036854775807) : jN l l = some true := by
  unfold jN
  have main := qD (fun k i => gC l l k i) l.length (fun _ => true) (some false) (some true) ?_ ?_ BIG (eH h)
  · have e : (List.range l.length).all (fun _ => true) = true := by simp
    rw [e] at main
    simpa using main
  · intro k i hi
    simp [gC, hi, dQ hi, dN (show i < 9223372036854775807 by omega)]
  · intro k
    simp [gC, nS]
theorem aGp (l : List cI) (h : l.length ≤ 9223372036854775807) (hj : ∀ j ∈ l, j.After.length ≤ 9223372036854775807 ∧ j.With.length ≤ 9223372036854775807) : jO l l = some true := by
  unfold jO
  have main := qD (fun k i => gD l l k i) l.length (fun _ => true) (some false) (some true) ?_ ?_ BIG (eH h)
  · have e : (List.range l.length).all (fun _ => true) = true := by simp
    rw [e] at main
    simpa using main
  · intro k i hi
    obtain ⟨a1, a2⟩ := hj _ (List.getElem_mem hi)
    simp [gD, hi, dQ hi, dN (show i < 9223372036854775807 by omega), zR _ a1, zR _ a2]
  · intro k
    simp [gD, nT]

theorem aLn (t : bD) (d : List Int) (must : List (List Int)) (stages : List cZ) : ∀ j ∈ (wJ t d must stages).1, j.After.length ≤ 9223372036854775807 ∧ j.With.length ≤ 9223372036854775807 := by
  intro j hj
  unfold wJ at hj
  split at hj
  · split at hj
    · simp at hj
    · rename_i h6
      simp only [lU, List.mem_map, List.mem_range] at hj
      obtain ⟨i, hi, rfl⟩ := hj
      have := yF (gU t d must) ((gU t d must).getD i ⟨0, 0, 0, 0⟩) i
      simp only [aFd, List.length_map, List.length_nil]
      omega
  · simp at hj
theorem aKy (t : bD) (l : List aK) (stages : List cZ) (hl : stages.length ≤ 1000) : ∃ r, mH t l stages = some r ∧ gT t l stages = some r ∧ r.1.length ≤ 6 ∧ r.2.1.length ≤ 6 ∧ ∀ j ∈ r.1, j.After.length ≤ 9223372036854775807 ∧ j.With.length ≤ 9223372036854775807 := by
  obtain ⟨r, h1, h2, h3, h4⟩ := aKz t l stages hl
  refine ⟨r, h1, h2, h3, h4, ?_⟩
  rcases uR t l with ⟨d, hg⟩ | ⟨e, he⟩
  · obtain ⟨must, hd, hM⟩ := tU hg
    rw [xP hg hd hM stages hl] at h1
    cases h1
    exact aLn t d must stages
  · rw [zK he stages] at h1
    cases h1
    simp
theorem aMo (o : List bK) (h : o.length ≤ 6) : fA o o BIG 0 = some true := by
  have main := qD (fun k i => fA o o k i) o.length (fun _ => true) (some false) (some true) ?_ ?_ BIG (eH (by omega))
  · rw [main, show (List.range o.length).all (fun _ => true) = true by simp]; rfl
  · intro k i hi
    simp only [fA, Int.ofNat_lt, hi, decide_true, cond_true, dQ hi, Option.bind_some, Bool.not_true, cond_false, dN (show i < 9223372036854775807 by omega)]
  · intro k
    have hlt : decide ((o.length : Int) < (o.length : Int)) = false := decide_eq_false (by omega)
    simp only [fA, hlt, cond_false, nR, aEw, Option.bind_some]
theorem aNc (A B : Option (List cI × List bK × Int)) (S : List cI → List cI → Option Bool) (F : List bK → List bK → Option Bool) {r : List cI × List bK × Int} (h1 : A = some r) (h2 : B = some r) (hs : S r.1 r.1 = some true) (hF : F r.2.1 r.2.1 = some true) :
    (A.bind fun r8 => B.bind fun r9 => (S r8.1 r9.1).bind fun r10 =>
    bif !r10 || !decide ((r8.2.1.length : Int) = (r9.2.1.length : Int)) || !decide (r8.2.2 = r9.2.2) then (some false)
    else (F r8.2.1 r9.2.1)) = some true := by
  subst h1; subst h2
  simp [hs, hF]
theorem vF (t : bD) (l : List aK) (stages : List cZ) (ht : aGd t) (hl : okL aAy l) (hs : okL yV stages) : mY t l stages = some true := by
  unfold mY
  simp only [aBu, Option.bind_some]
  cases hb : (decide (40 < (t.Slots.length : Int)) || decide (20 < (l.length : Int)) || decide (20 < (stages.length : Int))) with
  | true => simp only [cond_true, aEw, Option.bind_some]
  | false =>
    simp only [Bool.or_eq_false_iff, decide_eq_false_iff_not] at hb
    obtain ⟨⟨h1, h2⟩, h3⟩ := hb
    obtain ⟨r, r1, r2, r3, r4, r5⟩ := aKy t l stages (by omega)
    simp only [cond_false]
    rw [iX (by simp; omega), Option.bind_some, iX (by simp; omega), Option.bind_some, iX (by simp; omega), Option.bind_some]
    simp only [List.nil_append]
    exact aNc (mH t l stages) (gT t l stages) jO (fun a b => fA a b BIG 0) r1 r2 (aGp _ (by omega) r5) (aMo _ r4)
end Go.Am
