/- The best results: none are better. -/
import Derived.Test.YtaocljlhapoieaaRkPlain14
namespace Go.Am

theorem aFe {α : Type} (l : List α) {p q : α → Bool} (h : ∀ x ∈ l, p x = true → q x = true) : (l.filter p).length ≤ (l.filter q).length := by
  induction l with
  | nil => exact Nat.le_refl _
  | cons x l ih =>
    have h1 := ih fun y hy => h y (List.mem_cons_of_mem _ hy)
    have h2 := h x (by simp)
    cases hp : p x <;> cases hq : q x <;> simp [hp, hq] at h2 ⊢ <;> omega
theorem aAd (p : aC → Bool) (l : List aC) : gJ l = gJ (l.filter p) + gJ (l.filter fun x => !p x) := by
  induction l with
  | nil => simp [gJ]
  | cons x l ih => cases h : p x <;> simp [h, gJ, ih] <;> omega
theorem aBa (p : aC → Bool) (l : List aC) : l.length = (l.filter p).length + (l.filter fun x => !p x).length := (aAt l p).symm
theorem aHz {l : List aC} {m : Int} (h : ∀ r ∈ l, r.Points ≤ m) : gJ l ≤ m * l.length := by
  induction l with
  | nil => simp [gJ]
  | cons r l ih =>
    have h1 := ih fun x hx => h x (List.mem_cons_of_mem _ hx)
    have h2 := h r (by simp)
    simp only [gJ, List.length_cons, Int.natCast_add, Int.mul_add]
    omega
theorem aDz {l : List aC} {m : Int} (h : ∀ r ∈ l, m ≤ r.Points) : m * l.length ≤ gJ l := by
  induction l with
  | nil => simp [gJ]
  | cons r l ih =>
    have h1 := ih fun x hx => h x (List.mem_cons_of_mem _ hx)
    have h2 := h r (by simp)
    simp only [gJ, List.length_cons, Int.natCast_add, Int.mul_add]
    omega
theorem aBq (all : List aC) (hok : ∀ x ∈ all, okT x) (hb : all.length ≤ 1000) : ∃ s : List aC, s.Perm all ∧ s.Pairwise leT := by
  obtain ⟨s, hp, hs, _⟩ := vE aGv all hok (by omega)
  exact ⟨s, hp, hs⟩
theorem aBb {C : Int} {all : List aC} (hall : all.Pairwise fun x y => x.Id < y.Id) (hok : ∀ x ∈ all, okT x) (hb : all.length ≤ 1000) (hC : 0 ≤ C) : ((jW C all).length : Int) = min (all.length : Int) (max (dQ all : Int) C) := by
  obtain ⟨s, hp, hs⟩ := aBq all hok hb
  have hm : dQ s = dQ all := oT hp
  have hl := hp.length_eq
  have hml : dQ s ≤ s.length := List.length_filter_le _ _
  have := (aAe (C := C) hall hp hs (N := (min (s.length : Int) (max (dQ s : Int) C)).toNat) (by omega) (by omega)).length_eq
  rw [← this, List.length_take]
  omega
/-- Whoever is not taken has no more points than whoever is taken without need. -/
theorem aEv {C : Int} {all : List aC} {x y : aC} (hall : all.Pairwise fun x y => x.Id < y.Id) (hx : x ∈ all) (hxt : x ∉ jW C all) (hy : y ∈ jW C all) (hym : y.Must = false) : x.Must = false ∧ x.Points ≤ y.Points := by
  unfold jW at hxt hy
  rw [List.mem_filter] at hxt hy
  have hxm : x.Must = false := by
    cases h : x.Must with
    | false => rfl
    | true => exact absurd ⟨hx, by rw [h]; rfl⟩ hxt
  refine ⟨hxm, Int.not_lt.1 fun hlt => hxt ⟨hx, ?_⟩⟩
  obtain ⟨hya, hyb⟩ := hy
  rw [hym, Bool.false_or, decide_eq_true_eq] at hyb
  rw [hxm, Bool.false_or, decide_eq_true_eq]
  have : lD all x ≤ lD all y := by
    unfold lD
    refine aFe all fun q _ hq => ?_
    simp only [Bool.and_eq_true, Bool.or_eq_true, decide_eq_true_eq] at hq ⊢
    exact ⟨hq.1, by omega⟩
  omega
/-- No choice of so many others has more points. -/
theorem aIj {C : Int} {all S : List aC} (hall : all.Pairwise fun x y => x.Id < y.Id) (hok : ∀ x ∈ all, okT x) (hb : all.length ≤ 1000) (hC : 0 ≤ C) (hS : S.Nodup) (hsub : ∀ x ∈ S, x ∈ all) (hlen : (S.length : Int) ≤ max (dQ all : Int) C) (hmS : ∀ x ∈ all, x.Must = true → x ∈ S) : gJ S ≤ gJ (jW C all) := by
  obtain ⟨T, hT⟩ : ∃ T, T = jW C all := ⟨_, rfl⟩
  have hTn : T.Nodup := by rw [hT]; exact (lB hall).sublist List.filter_sublist
  have hTs : ∀ x ∈ T, x ∈ all := fun x hx => by rw [hT] at hx; exact kU hx
  rw [← hT]
  have e1 := aAd (fun x => decide (x ∈ T)) S
  have e2 := aAd (fun x => decide (x ∈ S)) T
  have l1 := aBa (fun x => decide (x ∈ T)) S
  have l2 := aBa (fun x => decide (x ∈ S)) T
  have hcom : (S.filter fun x => decide (x ∈ T)).Perm (T.filter fun x => decide (x ∈ S)) := (List.perm_ext_iff_of_nodup (hS.sublist List.filter_sublist) (hTn.sublist List.filter_sublist)).2 fun x => by
    simp only [List.mem_filter, decide_eq_true_eq]; exact and_comm
  have h3 := xY hcom
  have h4 := hcom.length_eq
  obtain ⟨A, hA⟩ : ∃ A, A = S.filter fun x => !decide (x ∈ T) := ⟨_, rfl⟩
  obtain ⟨B, hB⟩ : ∃ B, B = T.filter fun x => !decide (x ∈ S) := ⟨_, rfl⟩
  rw [← hA] at e1 l1
  rw [← hB] at e2 l2
  have hAm : ∀ x ∈ A, x ∈ S ∧ x ∉ T := fun x hx => by rw [hA, List.mem_filter] at hx; simpa using hx
  have hBm : ∀ x ∈ B, x ∈ T ∧ x ∉ S := fun x hx => by rw [hB, List.mem_filter] at hx; simpa using hx
  have hBno : ∀ x ∈ B, x.Must = false := fun x hx => by
    cases h : x.Must with
    | false => rfl
    | true => exact absurd (hmS x (hTs x (hBm x hx).1) h) (hBm x hx).2
  have hAB : ∀ x ∈ A, ∀ y ∈ B, x.Points ≤ y.Points := fun x hx y hy => (aEv (C := C) hall (hsub x (hAm x hx).1) (by rw [← hT]; exact (hAm x hx).2) (by rw [← hT]; exact (hBm y hy).1) (hBno y hy)).2
  have hB0 : ∀ y ∈ B, 0 ≤ y.Points := fun y hy => (hok y (hTs y (hBm y hy).1)).2.1
  rcases Nat.eq_zero_or_pos A.length with h0 | h0
  · have : A = [] := List.length_eq_zero_iff.1 h0
    rw [this] at e1
    have h5 := aDz (l := B) (m := 0) hB0
    simp only [gJ] at e1
    omega
  · -- as many are left out as are put in
    obtain ⟨a, ha⟩ : ∃ a, a ∈ A := List.exists_mem_of_length_pos h0
    have hTl : (T.length : Int) = min (all.length : Int) (max (dQ all : Int) C) := by rw [hT]; exact aBb hall hok hb hC
    have hTall : T.length < all.length := by
      refine Nat.lt_of_le_of_ne (by omega) fun he => ?_
      have hsl : T.Sublist all := by rw [hT]; exact List.filter_sublist
      have := hsl.eq_of_length he
      exact (hAm a ha).2 (this ▸ hsub a (hAm a ha).1)
    have hlB : A.length ≤ B.length := by omega
    -- the best of those that are not taken
    have hmax : ∀ l : List aC, 0 < l.length → ∃ x ∈ l, ∀ y ∈ l, y.Points ≤ x.Points := by
      intro l
      induction l with
      | nil => intro h; simp at h
      | cons x l ih =>
        intro _
        rcases Nat.eq_zero_or_pos l.length with h | h
        · have : l = [] := List.length_eq_zero_iff.1 h
          subst this
          exact ⟨x, by simp, fun y hy => by simp at hy; subst hy; exact Int.le_refl _⟩
        · obtain ⟨m, hm, hmm⟩ := ih h
          by_cases hx : m.Points ≤ x.Points
          · exact ⟨x, by simp, fun y hy => by
              rcases List.mem_cons.1 hy with rfl | hy
              · exact Int.le_refl _
              · exact Int.le_trans (hmm y hy) hx⟩
          · exact ⟨m, List.mem_cons_of_mem _ hm, fun y hy => by
              rcases List.mem_cons.1 hy with rfl | hy
              · omega
              · exact hmm y hy⟩
    obtain ⟨m, hmA, hmm⟩ := hmax A h0
    have h5 := aHz hmm
    have h6 := aDz (l := B) (m := m.Points) fun y hy => hAB m hmA y hy
    have h7 : 0 ≤ m.Points := (hok m (hsub m (hAm m hmA).1)).2.1
    have h8 : m.Points * (A.length : Int) ≤ m.Points * (B.length : Int) := Int.mul_le_mul_of_nonneg_left (by omega) h7
    omega
/-- More results without need: no fewer points. -/
theorem aDb {C : Int} {all more : List aC} (h1 : all.Pairwise fun x y => x.Id < y.Id) (h2 : more.Pairwise fun x y => x.Id < y.Id) (hok : ∀ x ∈ more, okT x) (hb : more.length ≤ 1000) (hC : 0 ≤ C) (hsub : ∀ x ∈ all, x ∈ more) (hm : ∀ x ∈ more, x.Must = true → x ∈ all) : gJ (jW C all) ≤ gJ (jW C more) := by
  have hal : all.length ≤ more.length := by
    have hp : all.Perm (more.filter fun x => decide (x ∈ all)) := (List.perm_ext_iff_of_nodup (lB h1) ((lB h2).sublist List.filter_sublist)).2 fun x => by
      rw [List.mem_filter, decide_eq_true_eq]
      exact ⟨fun hx => ⟨hsub x hx, hx⟩, fun hx => hx.2⟩
    rw [hp.length_eq]
    exact List.length_filter_le _ _
  have hmn : dQ all = dQ more := by
    unfold dQ
    have hp : (all.filter fun r => r.Must).Perm (more.filter fun r => r.Must) := (List.perm_ext_iff_of_nodup ((lB h1).sublist List.filter_sublist) ((lB h2).sublist List.filter_sublist)).2 fun x => by
      rw [List.mem_filter, List.mem_filter]
      exact ⟨fun hx => ⟨hsub x hx.1, hx.2⟩, fun hx => ⟨hm x hx.1 hx.2, hx.2⟩⟩
    exact hp.length_eq
  refine aIj h2 hok hb hC ((lB h1).sublist List.filter_sublist) (fun x hx => hsub x (kU hx)) ?_ fun x hx hxm => ?_
  · rw [aBb h1 (fun x hx => hok x (hsub x hx)) (by omega) hC]
    omega
  · exact List.mem_filter.2 ⟨hm x hx hxm, by rw [hxm]; rfl⟩
end Go.Am
