/- The best results: none are better. -/
import Derived.Test.YtaocljlhapoieaaRkPlain14
namespace Go.Am

theorem aEx {α : Type} (l : List α) {p q : α → Bool} (h : ∀ x ∈ l, p x = true → q x = true) : (l.filter p).length ≤ (l.filter q).length := by
  induction l with
  | nil => exact Nat.le_refl _
  | cons x l ih =>
    have h1 := ih fun y hy => h y (List.mem_cons_of_mem _ hy)
    have h2 := h x (by simp)
    cases hp : p x <;> cases hq : q x <;> simp [hp, hq] at h2 ⊢ <;> omega
theorem aBh (all : List aD) (hok : ∀ x ∈ all, okT x) (hb : all.length ≤ 1000) : ∃ s : List aD, s.Perm all ∧ s.Pairwise leT := by
  obtain ⟨s, hp, hs, _⟩ := uT aGn all hok (by omega)
  exact ⟨s, hp, hs⟩
theorem aFb {C : Int} {all : List aD} (hall : all.Pairwise fun x y => x.Id < y.Id) (hok : ∀ x ∈ all, okT x) (hb : all.length ≤ 1000) (hC : 0 ≤ C) : ((iT C all).length : Int) = min (all.length : Int) (max (dP all : Int) C) := by
  obtain ⟨s, hp, hs⟩ := aBh all hok hb
  have hm : dP s = dP all := oI hp
  have hl := hp.length_eq
  have hml : dP s ≤ s.length := List.length_filter_le _ _
  have := (zT (C := C) hall hp hs (N := (min (s.length : Int) (max (dP s : Int) C)).toNat) (by omega) (by omega)).length_eq
  rw [← this, List.length_take]
  omega
/-- Whoever is not taken has no more points than whoever is taken without need. -/
theorem aEo {C : Int} {all : List aD} {x y : aD} (hall : all.Pairwise fun x y => x.Id < y.Id) (hx : x ∈ all) (hxt : x ∉ iT C all) (hy : y ∈ iT C all) (hym : y.Must = false) : x.Must = false ∧ x.Points ≤ y.Points := by
  unfold iT at hxt hy
  rw [List.mem_filter] at hxt hy
  have hxm : x.Must = false := by
    cases h : x.Must with
    | false => rfl
    | true => exact absurd ⟨hx, by rw [h]; rfl⟩ hxt
  refine ⟨hxm, Int.not_lt.1 fun hlt => hxt ⟨hx, ?_⟩⟩
  obtain ⟨hya, hyb⟩ := hy
  rw [hym, Bool.false_or, decide_eq_true_eq] at hyb
  rw [hxm, Bool.false_or, decide_eq_true_eq]
  have : lB all x ≤ lB all y := by
    unfold lB
    refine aEx all fun q _ hq => ?_
    simp only [Bool.and_eq_true, Bool.or_eq_true, decide_eq_true_eq] at hq ⊢
    exact ⟨hq.1, by omega⟩
  omega
end Go.Am
