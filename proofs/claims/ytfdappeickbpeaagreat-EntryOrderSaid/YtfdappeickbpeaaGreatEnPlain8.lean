/- Entry, plainly: what the program answers: List. -/
import Derived.Test.YtfdappeickbpeaaGreatEnPlain7
namespace Go.Am

theorem tE {f : aU} {l : aK} {i : Nat} (h : jW f l i) : (nB l).length ≤ 92 := by
  unfold nB
  cases l.frozen with
  | true => exact h.len
  | false =>
    simp only [cond_false]
    have h1 := xU l (gS l) []
    have h2 := oN h.wf
    unfold mN
    simp only [List.length_nil] at h1
    omega
theorem xW {f : aU} {l : aK} {i : Nat} (h : jW f l i) : dE l = some (nB l) := by
  have := h.len
  simp only [List.length_append] at this
  exact zV h.wf (by omega) (by omega)
/-- The alternates. -/
def xX (l : aK) : List Int := (gS l).filter fun n => !decide (n ∈ nB l)
theorem aGn {f : aU} {l : aK} {i : Nat} (h : jW f l i) : gC l = some (xX l) := by
  have hm := tE h
  unfold gC xX
  rw [xW h, Option.bind_some, rO h.wf, Option.bind_some]
  rw [yC (gS l) _ (fun n => decide (n ∈ nB l)) (fun n _ => by unfold iT; rw [sY _ (by omega)]; rfl) (by have := oN h.wf; omega)]
  rfl
theorem aAa (f : aU) (l : List aJ) (hour player : Int) : lY f l hour player = some (bif !decide (rN f l = 0) then (none, rN f l) else bif !wi hour 0 9999 || !wi player 0 999 then (none, 1) else (some (gH f l hour), 0)) := by
  unfold lY
  rw [aFy, Option.bind_some]
  cases hc : decide (rN f l = 0) with
  | false => rfl
  | true =>
    simp only [Bool.not_true, cond_false, zS, Option.bind_some, rX]
    cases !wi hour 0 9999 || !wi player 0 999 with
    | true => rfl
    | false =>
      simp only [cond_false]
      rw [aBs (nQ.1 (by simpa using hc)) hour]
      rfl
/-- What List answers. -/
def oH (f : aU) (l : List aJ) (hour : Int) : eI :=
  eI.mk (nB (gH f l hour)) (gH f l hour).wilds (xX (gH f l hour)) (plc (gH f l hour) - ((nB (gH f l hour)).length : Int))
theorem wM {f : aU} {l : List aJ} (h : VL f l) {hour : Int} (hh : wi hour 0 9999 = true) : jY f l hour = some (oH f l hour, 0) := by
  obtain ⟨i, hi, hg⟩ := rK h hour
  have hm := tE hg
  have hp := zB hg.wf
  unfold jY oH
  rw [aAa, nQ.2 h, hh]
  simp only [decide_true, Bool.not_true, cond_false, show wi 0 0 999 = true from rfl, Bool.or_self, Option.bind_some]
  rw [xW hg, Option.bind_some, aGn hg, Option.bind_some, tH hg.wf, Option.bind_some, gV (by omega) (by omega)]

/-! ### The order of the notices does not matter. -/
theorem aDk {l l2 : List aJ} (hb : ∀ x ∈ l, bN x) (hid : ∀ x ∈ l, ∀ y ∈ l, x.Id = y.Id → x = y) (hm : ∀ x, x ∈ l2 ↔ x ∈ l) : jV l2 = jV l := by
  refine mK (kZ (fun x hx => hb x ((hm x).1 hx)) fun x hx y hy => hid x ((hm x).1 hx) y ((hm y).1 hy)) (kZ hb hid) fun x => ?_
  rw [lF, lF]
  exact hm x
theorem aFq {f : aU} {l l2 : List aJ} (h : VL f l) (hm : ∀ x ∈ l2, x ∈ l) (hl : l2.length ≤ 60) : VL f l2 :=
  ⟨h.fd, hl, fun x hx => h.nt x (hm x hx), fun x hx y hy => h.id x (hm x hx) y (hm y hy)⟩
/-- Later hours are not looked at. -/
theorem aAv (hour : Int) : ∀ (t : List aJ) (l : aK), t.Pairwise (fun x y => iE x < iE y) → (∀ x ∈ t, bN x) → oQ hour l (t.filter fun x => decide (x.Hour ≤ hour)) = oQ hour l t
  | [], _, _, _ => rfl
  | x :: t, l, hs, hb => by
    have h1 := List.pairwise_cons.1 hs
    by_cases h : x.Hour ≤ hour
    · rw [List.filter_cons_of_pos (by simpa using h)]
      simp only [oQ, show decide (hour < x.Hour) = false from decide_eq_false (by omega), cond_false]
      exact aAv hour t _ h1.2 fun y hy => hb y (by simp [hy])
    · rw [List.filter_cons_of_neg (by simpa using h)]
      have hno : t.filter (fun x => decide (x.Hour ≤ hour)) = [] := by
        rw [List.filter_eq_nil_iff]
        intro y hy
        have k := h1.1 y hy
        have b1 := hb x (by simp)
        have b2 := hb y (by simp [hy])
        unfold bN at b1 b2
        unfold iE at k
        simp
        omega
      rw [hno]
      simp only [oQ, show decide (hour < x.Hour) = true from decide_eq_true (by omega), cond_true]
theorem aBh {l : List aJ} (hb : ∀ x ∈ l, bN x) (hid : ∀ x ∈ l, ∀ y ∈ l, x.Id = y.Id → x = y) (p : aJ → Bool) : jV (l.filter p) = (jV l).filter p := by
  refine mK (kZ (fun x hx => hb x ((List.mem_filter.1 hx).1)) fun x hx y hy => hid x ((List.mem_filter.1 hx).1) y ((List.mem_filter.1 hy).1)) ((kZ hb hid).filter _) fun x => ?_
  rw [lF, List.mem_filter, List.mem_filter, lF]
theorem vG {f : aU} {l l2 : List aJ} (h : VL f l) (hm : ∀ x, x ∈ l2 ↔ x ∈ l) (hour : Int) : gH f l2 hour = gH f l hour := by
  unfold gH
  rw [aDk (fun x hx => aBk (h.nt x hx)) h.id hm]
theorem aBb {f : aU} {l : List aJ} (h : VL f l) (hour : Int) : gH f (l.filter fun x => decide (x.Hour ≤ hour)) hour = gH f l hour := by
  have hb : ∀ x ∈ l, bN x := fun x hx => aBk (h.nt x hx)
  unfold gH
  rw [aBh hb h.id, aAv hour _ _ (kZ hb h.id) fun x hx => hb x ((lF x).1 hx)]
end Go.Am
