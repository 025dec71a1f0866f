/- The plain law PlayFew. -/
import Derived.Test.YtikcmpflkibomaaPlayPlain11
import Derived.KernelRfl
namespace Go.Am
theorem works_true : deucelaw08_works = some true := by kernel_rfl

theorem few_end {p : ApiProgram} (hp : VP p) (hv : valid p = true) {n : Int} {best : List ApiSeat} (hl : best.length ≤ 6) (hf : Full p n none 0 best) : deucelaw08_PlayFew_L2 n best p BIG 0 = some true := by
  rw [loop_all (fun k i => deucelaw08_PlayFew_L2 n best p k i) best.length (fun _ => true) (some false) (some true) ?_ ?_ BIG (BIG_lt (by omega))]
  · have e : (List.range best.length).all (fun _ => true) = true := by simp
    rw [e]; rfl
  · intro k i hi
    have := hf.days _ (List.getElem_mem hi)
    have h1 : decide (n ≤ best[i].Day) = false := decide_eq_false (by omega)
    have hlt : decide ((i : Int) < (best.length : Int)) = true := decide_eq_true (by omega)
    simp only [deucelaw08_PlayFew_L2, hlt, cond_true, idx_nat hi, Option.bind_some, h1, cond_false, w64_succ (show i < 9223372036854775807 by omega)]
  · intro k
    have hlt : decide ((best.length : Int) < (best.length : Int)) = false := decide_eq_false (by omega)
    obtain ⟨g1, g2⟩ := fitsR_valid hv hf.ord
    simp only [deucelaw08_PlayFew_L2, hlt, cond_false, deucelaw08_PlayFew_K2, play_Fits_all p hp.small best (by omega), Option.bind_some, g1, g2, hf.fits, works_true]
    rfl

theorem last_bound {order : List ApiSeat} : ∀ (k : Nat) (i : Nat) (acc : Int) (n e : Int) (best : List ApiSeat) (p : ApiProgram), order.length - i < k → i ≤ order.length → order.length ≤ 1000000 →
    ∃ last, deucelaw08_PlayFew_L0 order n e best p k acc i = deucelaw08_PlayFew_K0 order n e best last p ∧ acc ≤ last ∧ ∀ s ∈ order.drop i, w64 (s.Day + 1) ≤ last
  | 0, i, acc, n, e, best, p, h, _, _ => by omega
  | k + 1, i, acc, n, e, best, p, h, hi, hl => by
    by_cases hlt : i < order.length
    · obtain ⟨last, h1, h2, h3⟩ := last_bound (order := order) k (i + 1) (max acc (w64 (order[i].Day + 1))) n e best p (by omega) (by omega) hl
      refine ⟨last, ?_, by omega, fun s hs => ?_⟩
      · have hd : decide ((i : Int) < (order.length : Int)) = true := decide_eq_true (by omega)
        simp only [deucelaw08_PlayFew_L0, hd, cond_true, idx_nat hlt, Option.bind_some, w64_succ (show i < 9223372036854775807 by omega)]
        exact h1
      · rw [List.drop_eq_getElem_cons hlt] at hs
        rcases List.mem_cons.1 hs with rfl | hs
        · omega
        · exact h3 s hs
    · refine ⟨acc, ?_, Int.le_refl _, fun s hs => ?_⟩
      · have hd : decide ((i : Int) < (order.length : Int)) = false := decide_eq_false (by omega)
        simp only [deucelaw08_PlayFew_L0, hd, cond_false]
      · rw [List.drop_of_length_le (by omega)] at hs
        simp at hs

theorem few_top (A : Option (Int × Int)) (B : Option (List ApiSeat × Int)) (F : Int → Int → List ApiSeat → Option Bool) {n e : Int} {l : List ApiSeat} (h1 : A = some (n, e)) (h2 : B = some (l, e)) (he : e = 0 ∨ e = 3) (hl : l.length ≤ 6) :
    (A.bind fun r5 => B.bind fun r6 =>
    (bif !decide (r5.2 = r6.2) then (some true) else ((bif !decide (r5.2 = 0) then (some (!decide (r5.2 = 3))) else (some false)).bind fun b7 =>
    some b7)).bind fun b8 =>
    (bif b8 || decide (20 < (r6.1.length : Int)) then (some false)
    else (F r5.1 r5.2 r6.1))) = F n e l := by
  subst h1; subst h2
  have e2 : decide ((20 : Int) < (l.length : Int)) = false := decide_eq_false (by omega)
  rcases he with rfl | rfl <;> simp [e2]

theorem deucelaw08_PlayFew_true (p : ApiProgram) (order : List ApiSeat) (hp : okApiProgram p) (ho : okL okApiSeat order) : deucelaw08_PlayFew p order = some true := by
  have hsm := small_of hp
  have hol : order.length ≤ 9223372036854775807 := ho.1
  obtain ⟨r, hr, hrv⟩ := ready_eq p hsm
  unfold deucelaw08_PlayFew
  simp only [hr, works_true, Option.bind_some, or_some]
  cases r with
  | false => simp
  | true =>
    obtain ⟨hv, hh⟩ := hrv rfl
    have hvp := VP_of hv
    have hnd := hvp.nd
    by_cases h20 : order.length ≤ 20
    · have e1 : decide ((20 : Int) < (order.length : Int)) = false := decide_eq_false (by omega)
      simp only [e1, Bool.not_true, Bool.or_self, cond_false]
      rcases Days_Best hvp hv with ⟨n, l, h1, h2, h3, h4, h5, h6, h7⟩ | ⟨h1, h2, h7⟩
      · refine (few_top _ _ (fun n e l => deucelaw08_PlayFew_L0 order n e l p BIG 0 0) h1 h2 (.inl rfl) h3).trans ?_
        obtain ⟨last, g1, g2, g3⟩ := last_bound (order := order) BIG 0 0 n 0 l p (BIG_lt (by omega)) (by omega) (by omega)
        refine g1.trans ?_
        unfold deucelaw08_PlayFew_K0
        have hend := few_end hvp hv h3 h6
        revert hend
        generalize deucelaw08_PlayFew_L2 n l p BIG 0 = X
        rintro rfl
        simp only [IsOrder_eq hvp order hol, IsOrder_eq hvp l (by omega), h6.ord, Option.bind_some, play_Fits_all p hsm order (by omega), decide_true, Bool.not_true, cond_false]
        cases hio : isOrd p order with
        | false => simp
        | true =>
          obtain ⟨f1, f2⟩ := fitsR_valid hv hio
          simp only [cond_true, f1, f2, decide_true, Bool.not_true, cond_false]
          cases hfo : fitsB p order with
          | false => simp
          | true =>
            have hlast : decide (last < n) = false := by
              refine decide_eq_false fun hlt => ?_
              have hd := ord_days hio
              refine h7 last (by omega) hlt order (full_of hio hfo fun s hs => ?_)
              have h8 := g3 s (by simpa using hs)
              have h9 := hd s hs
              obtain ⟨i, hi, rfl⟩ := List.getElem_of_mem hs
              have h10 := ((Ord_of hio).1.seat i hi).day0
              rw [w64_ok (by omega) (by omega)] at h8
              omega
            simp [hlast]
      · refine (few_top _ _ (fun n e l => deucelaw08_PlayFew_L0 order n e l p BIG 0 0) h1 h2 (.inr rfl) (by simp)).trans ?_
        obtain ⟨last, g1, g2, g3⟩ := last_bound (order := order) BIG 0 0 0 3 [] p (BIG_lt (by omega)) (by omega) (by omega)
        refine g1.trans ?_
        have e3 : decide ((3 : Int) = 0) = false := rfl
        unfold deucelaw08_PlayFew_K0
        generalize deucelaw08_PlayFew_L2 0 [] p BIG 0 = X
        simp only [IsOrder_eq hvp order hol, Option.bind_some, play_Fits_all p hsm order (by omega), e3, Bool.not_false, cond_true, works_true]
        cases hio : isOrd p order with
        | false => simp
        | true =>
          obtain ⟨f1, f2⟩ := fitsR_valid hv hio
          simp only [cond_true, f1, f2, decide_true, Bool.not_true, cond_false]
          cases hfo : fitsB p order with
          | false => simp
          | true => exact absurd (full_of hio hfo (ord_days hio)) (h7 _ (by omega) (by omega) order)
    · have e1 : decide ((20 : Int) < (order.length : Int)) = true := decide_eq_true (by omega)
      simp [e1]
end Go.Am
