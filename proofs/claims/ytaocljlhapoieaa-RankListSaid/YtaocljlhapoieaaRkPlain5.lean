/- The library's stable sort, whole. -/
import Derived.Test.YtaocljlhapoieaaRkPlain4
namespace Go.Am

section stable
variable {cmp : aC → aC → Option Int} {ok : aC → Prop} {le : aC → aC → Prop}
/-- Each block of a length is sorted. -/
def Blk (le : aC → aC → Prop) (bs : Nat) (L : List aC) : Prop := ∀ (i j : Nat) (_ : i < j) (hj : j < L.length), i / bs = j / bs → le (L[i]'(by omega)) L[j]
theorem qV {bs c : Nat} {P M : List aC} (hb : 0 < bs) (hP : P.length = c * bs) (h1 : Blk le bs P) (h2 : M.Pairwise le) (_ : M.length ≤ bs) : Blk le bs (P ++ M) := by
  intro i j hij hj hd
  simp only [List.length_append] at hj
  rcases Nat.lt_or_ge j P.length with h | h
  · rw [List.getElem_append_left (by omega), List.getElem_append_left h]
    exact h1 i j hij h hd
  · rcases Nat.lt_or_ge i P.length with h3 | h3
    · exfalso
      have e1 : i / bs < c := (Nat.div_lt_iff_lt_mul hb).2 (by omega)
      have e2 : c ≤ j / bs := (Nat.le_div_iff_mul_le hb).2 (by omega)
      omega
    · rw [List.getElem_append_right h3, List.getElem_append_right h]
      exact List.pairwise_iff_getElem.1 h2 _ _ (by omega) (by omega) (by omega)
theorem pH {bs : Nat} {L : List aC} (h : Blk le bs L) (hl : L.length ≤ bs) : L.Pairwise le :=
  List.pairwise_iff_getElem.2 fun i j hi hj hij => h i j hij hj (by rw [Nat.div_eq_of_lt (by omega), Nat.div_eq_of_lt (by omega)])
theorem yV {bs n : Nat} {L : List aC} (h : Blk le bs L) : Blk le bs (L.take n) := by
  intro i j hij hj hd
  simp only [List.length_take] at hj
  rw [List.getElem_take, List.getElem_take]
  exact h i j hij (by omega) hd
theorem yU {bs c n : Nat} {L : List aC} (hb : 0 < bs) (hn : n = c * bs) (h : Blk le bs L) : Blk le bs (L.drop n) := by
  intro i j hij hj hd
  simp only [List.length_drop] at hj
  rw [List.getElem_drop, List.getElem_drop]
  refine h (n + i) (n + j) (by omega) (by omega) ?_
  rw [hn, Nat.add_comm (c * bs) i, Nat.add_comm (c * bs) j, Nat.add_mul_div_right _ _ hb, Nat.add_mul_div_right _ _ hb, hd]

theorem wR (hc : mH cmp ok le) (P U V S : List aC) (h1 : 0 < U.length) (h2 : 0 < V.length) (hok : ∀ y ∈ U ++ V, ok y) (su : U.Pairwise le) (sv : V.Pairwise le) (hb : (P ++ U ++ V ++ S).length < 1152921504606846976) :
    ∃ W, W.Perm (U ++ V) ∧ W.Pairwise le ∧ gH (P ++ U ++ V ++ S) (P.length : Nat) ((P ++ U).length : Nat) ((P ++ U ++ V).length : Nat) cmp = some (P ++ W ++ S) :=
  aBr hc BIG BIG (Nat.le_refl _) P U V S (dD (by simp only [List.length_append] at hb; omega)) h1 h2 hok su sv hb

theorem aIl (hc : mH cmp ok le) (F : Int → List aC → Option (List aC)) {bs : Nat} (hbs : 0 < bs) (hbb : bs < 1152921504606846976) : ∀ (d : Nat) (P R : List aC) (k c : Nat), R.length = d → d < k → P.length = c * (2 * bs) → Blk le (2 * bs) P → Blk le bs R → (∀ y ∈ P ++ R, ok y) → (P ++ R).length < 576460752303423488 →
    ∃ L, L.Perm (P ++ R) ∧ Blk le (2 * bs) L ∧ dS F ((P ++ R).length : Nat) cmp (bs : Nat) k (P.length : Nat) ((P.length + 2 * bs : Nat) : Int) (P ++ R) = F ((bs * 2 : Nat) : Int) L := by
  intro d
  induction d using Nat.strongRecOn with
  | _ d ih =>
    intro P R k c hd hk hP hPb hRb hok hb
    obtain ⟨k, rfl⟩ : ∃ q, k = q + 1 := ⟨k - 1, by omega⟩
    simp only [List.length_append] at hb
    have e2 : w64 ((bs : Int) * 2) = ((bs * 2 : Nat) : Int) := by rw [cW (by omega) (by omega)]; omega
    have e2' : w64 (2 * (bs : Int)) = ((2 * bs : Nat) : Int) := by rw [cW (by omega) (by omega)]; omega
    have em : w64 ((P.length : Int) + (bs : Int)) = ((P.length + bs : Nat) : Int) := by rw [cW (by omega) (by omega)]; omega
    by_cases hfull : 2 * bs ≤ R.length
    · -- two whole blocks
      obtain ⟨U, V, S, rfl, hU, hV, hUd, hVd, hSd⟩ : ∃ U V S, R = U ++ V ++ S ∧ U.length = bs ∧ V.length = bs ∧ U = R.take bs ∧ V = (R.drop bs).take bs ∧ S = R.drop (2 * bs) := by
        refine ⟨R.take bs, (R.drop bs).take bs, R.drop (2 * bs), ?_, by simp; omega, by simp; omega, rfl, rfl, rfl⟩
        rw [show R.drop (2 * bs) = (R.drop bs).drop bs by rw [List.drop_drop]; congr 1; omega, List.append_assoc, List.take_append_drop, List.take_append_drop]
      have bU : Blk le bs U := by rw [hUd]; exact yV hRb
      have bV : Blk le bs V := by rw [hVd]; exact yV (yU (c := 1) hbs (by omega) hRb)
      have bS : Blk le bs S := by rw [hSd]; exact yU (c := 2) hbs (by omega) hRb
      clear hUd hVd hSd
      simp only [List.length_append] at hb hd hfull
      obtain ⟨W, p1, s1, hr⟩ := wR hc P U V S (by omega) (by omega) (fun y hy => hok y (by simp only [List.mem_append] at hy ⊢; rcases hy with h | h <;> simp [h])) (pH bU (by omega)) (pH bV (by omega)) (by simp only [List.length_append]; omega)
      have hW : W.length = 2 * bs := by rw [p1.length_eq, List.length_append]; omega
      have hlt : decide (((P.length + 2 * bs : Nat) : Int) ≤ ((P ++ (U ++ V ++ S)).length : Int)) = true := decide_eq_true (by simp only [List.length_append]; omega)
      obtain ⟨L, p2, b2, hL⟩ := ih S.length (by omega) (P ++ W) S k (c + 1) rfl (by omega) (by rw [List.length_append, hP, hW, Nat.add_mul]; omega) (qV (c := c) (by omega) hP hPb s1 (by omega)) bS
        (fun y hy => by
          simp only [List.mem_append] at hy
          rcases hy with (h | h) | h
          · exact hok y (by simp [h])
          · have := p1.mem_iff.1 h
            simp only [List.mem_append] at this
            rcases this with h | h <;> exact hok y (by simp [h])
          · exact hok y (by simp [h])) (by simp only [List.length_append]; omega)
      refine ⟨L, p2.trans ?_, b2, ?_⟩
      · have : (P ++ W ++ S).Perm (P ++ (U ++ V) ++ S) := List.Perm.append_right _ (List.Perm.append_left _ p1)
        simpa using this
      · have ed : P ++ (U ++ V ++ S) = P ++ U ++ V ++ S := by simp
        have ex : (P ++ U).length = P.length + bs := by rw [List.length_append, hU]
        have ey : (P ++ U ++ V).length = P.length + 2 * bs := by rw [List.length_append, List.length_append, hU, hV]; omega
        rw [ex, ey] at hr
        simp only [dS, hlt, cond_true, em, e2']
        rw [ed, hr, Option.bind_some]
        have eb : w64 (((P.length + 2 * bs : Nat) : Int) + ((2 * bs : Nat) : Int)) = (((P ++ W).length + 2 * bs : Nat) : Int) := by rw [cW (by omega) (by omega), List.length_append, hW]; omega
        have ea : ((P.length + 2 * bs : Nat) : Int) = (((P ++ W).length : Nat) : Int) := by rw [List.length_append, hW]
        have el : (P ++ W ++ S).length = (P ++ U ++ V ++ S).length := by simp only [List.length_append, hW]; omega
        rw [eb, ea, ← el]
        exact hL
    · have hlt : decide (((P.length + 2 * bs : Nat) : Int) ≤ ((P ++ R).length : Int)) = false := decide_eq_false (by simp only [List.length_append]; omega)
      simp only [dS, hlt, cond_false, iW, em, fC, e2]
      by_cases hm : bs < R.length
      · have hd3 : decide (((P.length + bs : Nat) : Int) < ((P ++ R).length : Int)) = true := decide_eq_true (by simp only [List.length_append]; omega)
        obtain ⟨U, V, rfl, hU, hUd, hVd⟩ : ∃ U V, R = U ++ V ∧ U.length = bs ∧ U = R.take bs ∧ V = R.drop bs := ⟨R.take bs, R.drop bs, by simp, by simp; omega, rfl, rfl⟩
        have bU : Blk le bs U := by rw [hUd]; exact yV hRb
        have bV : Blk le bs V := by rw [hVd]; exact yU (c := 1) hbs (by omega) hRb
        clear hUd hVd
        simp only [List.length_append] at hb hm hfull
        obtain ⟨W, p1, s1, hr⟩ := wR hc P U V [] (by omega) (by omega) (fun y hy => hok y (by simp only [List.mem_append] at hy ⊢; rcases hy with h | h <;> simp [h])) (pH bU (by omega)) (pH bV (by omega)) (by simp only [List.length_append, List.length_nil]; omega)
        have hW : W.length = U.length + V.length := by rw [p1.length_eq, List.length_append]
        simp only [List.append_nil] at hr
        have ex : (P ++ U).length = P.length + bs := by rw [List.length_append, hU]
        rw [ex, List.append_assoc P U V] at hr
        refine ⟨P ++ W, List.Perm.append_left _ p1, qV (c := c) (by omega) hP hPb s1 (by omega), ?_⟩
        rw [hd3, cond_true, hr, Option.bind_some]
      · have hd3 : decide (((P.length + bs : Nat) : Int) < ((P ++ R).length : Int)) = false := decide_eq_false (by simp only [List.length_append]; omega)
        refine ⟨P ++ R, .refl _, qV (c := c) (by omega) hP hPb (pH hRb (by omega)) (by omega), ?_⟩
        rw [hd3, cond_false]

theorem aIr (hc : mH cmp ok le) : ∀ (d : Nat) (xs : List aC) (bs k : Nat), xs.length - bs = d → d < k → 0 < bs → bs < 1152921504606846976 → Blk le bs xs → (∀ y ∈ xs, ok y) → xs.length < 288230376151711744 →
    ∃ ys, ys.Perm xs ∧ ys.Pairwise le ∧ cZ (xs.length : Nat) cmp k (bs : Nat) xs = some ys := by
  intro d
  induction d using Nat.strongRecOn with
  | _ d ih =>
    intro xs bs k hd hk hbs hbb hbl hok hb
    obtain ⟨k, rfl⟩ : ∃ q, k = q + 1 := ⟨k - 1, by omega⟩
    by_cases h : bs < xs.length
    · have hlt : decide ((bs : Int) < (xs.length : Int)) = true := decide_eq_true (by omega)
      have e2' : w64 (2 * (bs : Int)) = ((2 * bs : Nat) : Int) := by rw [cW (by omega) (by omega)]; omega
      simp only [cZ, hlt, cond_true, e2']
      obtain ⟨L, p1, b1, hr⟩ := aIl hc (cZ (xs.length : Nat) cmp k) hbs hbb xs.length [] xs BIG 0 rfl (dD (by omega)) (by simp) (fun i j _ hj => by simp at hj) hbl (by simpa using hok) (by simp; omega)
      simp only [List.nil_append, List.length_nil, Nat.zero_add] at hr p1
      have hL : L.length = xs.length := p1.length_eq
      obtain ⟨ys, p2, s2, hy⟩ := ih (L.length - bs * 2) (by omega) L (bs * 2) k rfl (by omega) (by omega) (by omega) (by rwa [Nat.mul_comm]) (fun y hy => hok y (p1.mem_iff.1 hy)) (by omega)
      rw [hL] at hy
      refine ⟨ys, p2.trans p1, s2, ?_⟩
      rw [← hy]
      exact hr
    · have hlt : decide ((bs : Int) < (xs.length : Int)) = false := decide_eq_false (by omega)
      refine ⟨xs, .refl _, pH hbl (by omega), ?_⟩
      simp only [cZ, hlt, cond_false, iV]

theorem vE (hc : mH cmp ok le) (xs : List aC) (hok : ∀ y ∈ xs, ok y) (hb : xs.length < 288230376151711744) : ∃ ys, ys.Perm xs ∧ ys.Pairwise le ∧ eJ xs cmp = some ys := by
  have main : ∀ (d : Nat) (P R : List aC) (k c : Nat), R.length = d → d < k → P.length = c * 20 → Blk le 20 P → (∀ y ∈ P ++ R, ok y) → (P ++ R).length < 288230376151711744 →
      ∃ ys, ys.Perm (P ++ R) ∧ ys.Pairwise le ∧ dR ((P ++ R).length : Nat) cmp 20 k (P.length : Nat) ((P.length + 20 : Nat) : Int) (P ++ R) = some ys := by
    intro d
    induction d using Nat.strongRecOn with
    | _ d ih =>
      intro P R k c hd hk hP hPb hok hb
      obtain ⟨k, rfl⟩ : ∃ q, k = q + 1 := ⟨k - 1, by omega⟩
      simp only [List.length_append] at hb
      by_cases hfull : 20 ≤ R.length
      · obtain ⟨M, S, rfl, hM⟩ : ∃ M S, R = M ++ S ∧ M.length = 20 := ⟨R.take 20, R.drop 20, by simp, by simp; omega⟩
        simp only [List.length_append] at hb hd hfull
        have hlt : decide (((P.length + 20 : Nat) : Int) ≤ ((P ++ (M ++ S)).length : Int)) = true := decide_eq_true (by simp only [List.length_append]; omega)
        obtain ⟨M', p1, s1, hr⟩ := vN hc P M S (fun y hy => hok y (by simp [hy])) (by simp only [List.length_append]; omega)
        have hM' : M'.length = 20 := by rw [p1.length_eq, hM]
        obtain ⟨ys, p2, s2, hy⟩ := ih S.length (by omega) (P ++ M') S k (c + 1) rfl (by omega) (by rw [List.length_append, hP, hM', Nat.add_mul]) (qV (c := c) (by omega) hP hPb s1 (by omega)) (fun y hy => by
          simp only [List.mem_append] at hy
          rcases hy with (h | h) | h
          · exact hok y (by simp [h])
          · exact hok y (by simp [p1.mem_iff.1 h])
          · exact hok y (by simp [h])) (by simp only [List.length_append]; omega)
        refine ⟨ys, p2.trans ?_, s2, ?_⟩
        · have : (P ++ M' ++ S).Perm (P ++ M ++ S) := List.Perm.append_right _ (List.Perm.append_left _ p1)
          simpa using this
        · have ex : (P ++ M).length = P.length + 20 := by rw [List.length_append, hM]
          rw [ex, List.append_assoc P M S] at hr
          simp only [dR, hlt, cond_true]
          rw [hr, Option.bind_some]
          have eb : w64 (((P.length + 20 : Nat) : Int) + 20) = (((P ++ M').length + 20 : Nat) : Int) := by rw [cW (by omega) (by omega), List.length_append, hM']; omega
          have ea : ((P.length + 20 : Nat) : Int) = (((P ++ M').length : Nat) : Int) := by rw [List.length_append, hM']
          have el : (P ++ M' ++ S).length = (P ++ (M ++ S)).length := by simp only [List.length_append, hM']; omega
          rw [eb, ea, ← el]
          exact hy
      · have hlt : decide (((P.length + 20 : Nat) : Int) ≤ ((P ++ R).length : Int)) = false := decide_eq_false (by simp only [List.length_append]; omega)
        obtain ⟨M', p1, s1, hr⟩ := vN hc P R [] (fun y hy => hok y (by simp [hy])) (by simp only [List.length_append]; omega)
        have hM' : M'.length = R.length := p1.length_eq
        simp only [List.append_nil] at hr
        have hl : (P ++ M').length = (P ++ R).length := by rw [List.length_append, List.length_append, hM']
        obtain ⟨ys, p2, s2, hy⟩ := aIr hc _ (P ++ M') 20 BIG rfl (dD (by simp only [List.length_append]; omega)) (by omega) (by omega) (qV (c := c) (by omega) hP hPb s1 (by omega)) (fun y hy => by
          rcases List.mem_append.1 hy with h | h
          · exact hok y (by simp [h])
          · exact hok y (by simp [p1.mem_iff.1 h])) (by simp only [List.length_append]; omega)
        refine ⟨ys, p2.trans (List.Perm.append_left _ p1), s2, ?_⟩
        simp only [dR, hlt, cond_false, iU]
        rw [hr, Option.bind_some, ← hl]
        exact hy
  obtain ⟨ys, p, s, h⟩ := main xs.length [] xs BIG 0 rfl (dD (by omega)) (by simp) (fun i j _ hj => by simp at hj) (by simpa using hok) (by simpa using hb)
  refine ⟨ys, by simpa using p, s, ?_⟩
  unfold eJ gN
  simp only [List.nil_append, List.length_nil, Nat.zero_add] at h
  have e0 : ((0 : Nat) : Int) = 0 := rfl
  have e20 : ((20 : Nat) : Int) = 20 := rfl
  rw [e0, e20] at h
  rw [h]; rfl
end stable
end Go.Am
