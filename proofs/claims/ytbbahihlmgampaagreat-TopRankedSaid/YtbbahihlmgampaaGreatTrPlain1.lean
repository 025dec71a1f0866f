/- TopRanked: what the program answers: Cut; membership. -/
import Derived.Test.YtbbahihlmgampaaGreatEnWorks
namespace Go.Am
theorem dIn (xs : List Int) (n : Int) (hb : xs.length ≤ 1000) : nZ xs n = some (decide (n ∈ xs)) := by
 have key := rR (S := Unit) (fun k i _ => lH xs n k i) xs.length (fun i _ => some (decide (n ∈ xs.drop i))) (fun _ _ => True) (fun k i _ hi _ ih => ?_) (fun k _ _ => ?_) BIG () (cR (by omega)) trivial
 ·unfold nZ
  rw [key]
  simp
 ·simp only [lH, show decide ((i : Int) < (xs.length : Int)) = true by simpa using hi, cond_true, cT hi, Option.bind_some, cA (show i < 9223372036854775807 by omega)]
  rw [List.drop_eq_getElem_cons hi]
  by_cases h : xs[i] = n
  ·simp [h]
  ·rw [decide_eq_false h, cond_false, ih () trivial]
   have e2 : (n ∈ xs[i] :: xs.drop (i + 1)) ↔ n ∈ xs.drop (i + 1) := by
    rw [List.mem_cons]; exact ⟨fun hh => hh.resolve_left fun e => h e.symm, .inr⟩
   rw [decide_eq_decide.2 e2]
 ·simp [lH, uB]
theorem aQj {α T : Type} (F : Nat → Int → T) (xs : List α) (q : α → Bool) (res : α → T) (stop : T) (h1 : ∀ k i (hi : i < xs.length), F (k + 1) (i : Int) = bif q xs[i] then res xs[i] else F k ((i : Int) - 1)) (h2 : ∀ k, F (k + 1) (-1) = stop) :
  ∀ j k, j ≤ xs.length → j < k → F k ((j : Int) - 1) = match (xs.take j).reverse.find? q with | some n => res n | none => stop := by
 intro j
 induction j with
 | zero =>
  intro k _ hk
  obtain ⟨k, rfl⟩ : ∃ q, k = q + 1 := ⟨k - 1, by omega⟩
  rw [show ((0 : Nat) : Int) - 1 = -1 by omega, h2]; rfl
 | succ j ih =>
  intro k hj hk
  obtain ⟨k, rfl⟩ : ∃ q, k = q + 1 := ⟨k - 1, by omega⟩
  have hjl : j < xs.length := by omega
  rw [show ((j + 1 : Nat) : Int) - 1 = (j : Int) by omega, h1 k j hjl, List.take_succ_eq_append_getElem hjl, List.reverse_append, List.reverse_singleton, List.singleton_append, List.find?_cons]
  cases q xs[j] with
  | true => rfl
  | false => exact ih k (by omega) (by omega)
def aOt (L : aO) : Int × Int := match (gJ L).reverse.find? (fun n => !(pl L n).guard && decide (n ∈ lF L)) with | some n => ((pl L n).rank, 0) | none => (0, 3)
theorem aRo {f : bE} {l : List aN} (h : VL f l) {hour : Int} (hh : wi hour 0 9999 = true) : wT f l hour = some (aOt (cZ f l hour)) := by
 obtain ⟨j, hj, g⟩ := xR h hour
 have hml := aDr g
 have hE := uC g.wf
 unfold wT
 rw [aOb, uP.2 h, hh]
 simp only [decide_true, Bool.not_true, cond_false, show wi 0 0 999 = true from rfl, Bool.or_self, Option.bind_some]
 rw [aGe g, Option.bind_some, xV g.wf, Option.bind_some]
 show ((mX (gJ (cZ f l hour))).bind fun x12 => _) = _
 rw [show mX (gJ (cZ f l hour)) = some () from rfl, Option.bind_some]
 have key := aQj (T := Option ((Int × Int) × Bool)) (fun k i => gF (S := Int × Int) (fun s13 x14 x15 => (bif !((aH x15 (aA.mk false false 0 0 false false false false) (cZ f l hour).players).guard) then ((fO (lF (cZ f l hour)) x15).bind fun r18 => some r18) else (some false)).bind fun b19 =>
  bif b19 then (some (((aH x15 (aA.mk false false 0 0 false false false false) (cZ f l hour).players).rank, 0), false)) else (some ((s13.1, s13.2), true))) (gJ (cZ f l hour)) k i (0, 0)) (gJ (cZ f l hour)) (fun n => !(pl (cZ f l hour) n).guard && decide (n ∈ lF (cZ f l hour))) (fun n => some (((pl (cZ f l hour) n).rank, 0), false)) (some ((0, 0), true))
  (fun k i hi => by
   simp only [gF, show decide ((0 : Int) ≤ (i : Int)) = true from decide_eq_true (by omega), cond_true, cT hi, Option.bind_some, aMa, uM _ (show (lF (cZ f l hour)).length ≤ 9223372036854775807 by omega), jQ, cF (n := (i : Int) - 1) (by omega) (by omega)]
   cases !(pl (cZ f l hour) (gJ (cZ f l hour))[i]).guard && decide ((gJ (cZ f l hour))[i] ∈ lF (cZ f l hour)) <;> rfl)
  (fun k => rfl) (gJ (cZ f l hour)).length BIG (Nat.le_refl _) (cR (by omega))
 have e : (iI (S := Int × Int) (fun s13 x14 x15 => (bif !((aH x15 (aA.mk false false 0 0 false false false false) (cZ f l hour).players).guard) then ((fO (lF (cZ f l hour)) x15).bind fun r18 => some r18) else (some false)).bind fun b19 =>
  bif b19 then (some (((aH x15 (aA.mk false false 0 0 false false false false) (cZ f l hour).players).rank, 0), false)) else (some ((s13.1, s13.2), true))) (gJ (cZ f l hour)) (0, 0)) = match (gJ (cZ f l hour)).reverse.find? (fun n => !(pl (cZ f l hour) n).guard && decide (n ∈ lF (cZ f l hour))) with | some n => some (((pl (cZ f l hour) n).rank, 0), false) | none => some ((0, 0), true) := by
  unfold iI
  rw [cF (by omega) (by omega)]
  rw [List.take_length] at key
  refine key.trans ?_
  cases (gJ (cZ f l hour)).reverse.find? (fun n => !(pl (cZ f l hour) n).guard && decide (n ∈ lF (cZ f l hour))) <;> rfl
 show ((iI (S := Int × Int) (fun s13 x14 x15 => (bif !((aH x15 (aA.mk false false 0 0 false false false false) (cZ f l hour).players).guard) then ((fO (lF (cZ f l hour)) x15).bind fun r18 => some r18) else (some false)).bind fun b19 =>
  bif b19 then (some (((aH x15 (aA.mk false false 0 0 false false false false) (cZ f l hour).players).rank, 0), false)) else (some ((s13.1, s13.2), true))) (gJ (cZ f l hour)) (0, 0)).bind fun s20 => bif s20.2 then (some (0, 3)) else (some (s20.1.1, s20.1.2))) = _
 rw [e]
 unfold aOt
 cases (gJ (cZ f l hour)).reverse.find? (fun n => !(pl (cZ f l hour) n).guard && decide (n ∈ lF (cZ f l hour))) <;> rfl
end Go.Am
