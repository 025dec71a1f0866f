/- The library's stable sort: merging. -/
import Derived.Test.YtaocljlhapoieaaRkPlain2
namespace Go.Am

section shift
variable {cmp : aC → aC → Option Int}
theorem aDk (again : List aC → Int → Int → Int → Option (List aC)) {i : Nat} (x : aC) (R : List aC) : ∀ (V A : List aC) (k : Nat), A.length + V.length + 1 = i → i < 4611686018427387904 → V.length < k →
    dN again (i : Nat) k (A.length : Nat) (A ++ x :: (V ++ R)) = some (A ++ V ++ x :: R) := by
  intro V
  induction V with
  | nil =>
    intro A k h1 h2 hk
    obtain ⟨k, rfl⟩ : ∃ q, k = q + 1 := ⟨k - 1, by omega⟩
    have hw : w64 ((i : Int) - 1) = (A.length : Int) := by rw [cW (by omega) (by omega)]; simp at h1; omega
    simp [dN, hw, iH]
  | cons v V ih =>
    intro A k h1 h2 hk
    obtain ⟨k, rfl⟩ : ∃ q, k = q + 1 := ⟨k - 1, by omega⟩
    simp only [List.length_cons] at h1 hk
    have hw : w64 ((i : Int) - 1) = ((i - 1 : Nat) : Int) := by rw [cW (by omega) (by omega)]; omega
    have hlt : decide ((A.length : Int) < ((i - 1 : Nat) : Int)) = true := decide_eq_true (by omega)
    have hw1 : w64 ((A.length : Int) + 1) = ((A.length + 1 : Nat) : Int) := cP (by omega)
    have e1 : A ++ x :: (v :: V ++ R) = A ++ x :: v :: (V ++ R) := by simp
    have t1 : ((A.length : Nat) : Int).toNat = A.length := rfl
    have t2 : ((A.length + 1 : Nat) : Int).toNat = A.length + 1 := rfl
    simp only [dN, hw, hlt, cond_true, hw1, e1, pB rfl, kO rfl, Option.bind_some, t1, t2, sB rfl, wI rfl]
    have := ih (A ++ [v]) k (by simp; omega) h2 (by omega)
    simp only [List.length_append, List.length_singleton] at this
    have e2 : (A ++ [v]) ++ x :: (V ++ R) = A ++ v :: x :: (V ++ R) := by simp
    rw [e2] at this
    rw [this]; simp
theorem aDj (again : List aC → Int → Int → Int → Option (List aC)) {i : Nat} (y : aC) (A : List aC) (hi : i = A.length) : ∀ (n : Nat) (U R : List aC) (k : Nat), U.length = n → (A ++ U).length < 4611686018427387904 → n < k →
    dO again (i : Nat) k ((A ++ U).length : Nat) (A ++ U ++ y :: R) = some (A ++ y :: (U ++ R)) := by
  subst hi
  intro n
  induction n with
  | zero =>
    intro U R k h1 h2 hk
    have : U = [] := List.length_eq_zero_iff.1 h1
    subst this
    obtain ⟨k, rfl⟩ : ∃ q, k = q + 1 := ⟨k - 1, by omega⟩
    simp [dO, iI]
  | succ n ih =>
    intro U R k h1 h2 hk
    obtain ⟨k, rfl⟩ : ∃ q, k = q + 1 := ⟨k - 1, by omega⟩
    rcases tG U with rfl | ⟨U', u, rfl⟩
    · simp at h1
    simp only [List.length_append, List.length_singleton] at h1 h2
    have hA : A ++ (U' ++ [u]) ++ y :: R = (A ++ U') ++ u :: y :: R := by simp
    have hj : ((A ++ (U' ++ [u])).length : Nat) = (A ++ U').length + 1 := by simp; omega
    have hlt : decide ((A.length : Int) < (((A ++ U').length + 1 : Nat) : Int)) = true := decide_eq_true (by simp only [List.length_append]; omega)
    have hw : w64 ((((A ++ U').length + 1 : Nat) : Int) - 1) = ((A ++ U').length : Int) := by rw [cW (by simp only [List.length_append]; omega) (by simp only [List.length_append]; omega)]; omega
    have t1 : (((A ++ U').length : Nat) : Int).toNat = (A ++ U').length := rfl
    have t2 : (((A ++ U').length + 1 : Nat) : Int).toNat = (A ++ U').length + 1 := rfl
    rw [hA, hj]
    simp only [dO, hlt, cond_true, hw, kO rfl, pB rfl, Option.bind_some, t1, t2, wI rfl, sB rfl]
    rw [ih U' (u :: R) k (by omega) (by simp only [List.length_append]; omega) (by omega)]
    simp
end shift

section merge
variable {cmp : aC → aC → Option Int} {ok : aC → Prop} {le : aC → aC → Prop}
theorem mX (hc : mH cmp ok le) {L : List aC} (hs : L.Pairwise le) (hok : ∀ y ∈ L, ok y) {i j : Nat} (hij : i ≤ j) (hj : j < L.length) : le (L[i]'(by omega)) L[j] := by
  rcases Nat.eq_or_lt_of_le hij with rfl | h
  · have h1 := hok L[i] (List.getElem_mem _)
    exact (hc.tot _ _ h1 h1).elim id id
  · exact List.pairwise_iff_getElem.1 hs i j (by omega) hj h

/-- What one call of the merge does, if the calls inside do so. -/
def wX (ok : aC → Prop) (le : aC → aC → Prop) (f : List aC → Int → Int → Int → Option (List aC)) (N : Nat) : Prop :=
  ∀ (P U V S : List aC), U.length + V.length < N → 0 < U.length → 0 < V.length → (∀ y ∈ U ++ V, ok y) → U.Pairwise le → V.Pairwise le → (P ++ U ++ V ++ S).length < 1152921504606846976 →
    ∃ W, W.Perm (U ++ V) ∧ W.Pairwise le ∧ f (P ++ U ++ V ++ S) (P.length : Nat) ((P ++ U).length : Nat) ((P ++ U ++ V).length : Nat) = some (P ++ W ++ S)

theorem aEl (hc : mH cmp ok le) (again : List aC → Int → Int → Int → Option (List aC)) (P : List aC) (x : aC) (V S : List aC) (hok : ∀ y ∈ x :: V, ok y) (hs : V.Pairwise le) (hb : (P ++ x :: V ++ S).length < 1152921504606846976) :
    ∃ W, W.Perm (x :: V) ∧ W.Pairwise le ∧ cR again (P.length : Nat) cmp (P ++ x :: V ++ S) BIG ((P.length + 1 : Nat) : Int) ((P.length + 1 + V.length : Nat) : Int) = some (P ++ W ++ S) := by
  simp only [List.length_append, List.length_cons] at hb
  have hox := hok x (by simp)
  have hdat : ∀ t (ht : t < V.length), idx (P ++ x :: V ++ S) ((P.length + 1 + t : Nat) : Int) = some V[t] := by
    intro t ht
    rw [dK (by simp; omega)]
    simp only [Option.some.injEq]
    rw [List.getElem_append_left (by simp; omega), List.getElem_append_right (by omega)]
    simp only [show P.length + 1 + t - P.length = t + 1 by omega, List.getElem_cons_succ]
  have hdx : idx (P ++ x :: V ++ S) (P.length : Nat) = some x := by
    have : P ++ x :: V ++ S = P ++ x :: (V ++ S) := by simp
    rw [this, kO rfl]
  have hbs := aAh (fun k i j => cR again (P.length : Nat) cmp (P ++ x :: V ++ S) k i j) (fun i => fT again (P.length : Nat) i (P ++ x :: V ++ S))
    (fun h => ∀ v, V[h - (P.length + 1)]? = some v → ¬ le x v) (P.length + 1) (P.length + 1 + V.length) (k := BIG) ?_ ?_ ?_ (by omega) (dD (by omega))
  · obtain ⟨r, h1, h2, h3, h4, h5⟩ := hbs
    obtain ⟨t, rfl⟩ : ∃ t, r = P.length + 1 + t := ⟨r - (P.length + 1), by omega⟩
    have htl : t ≤ V.length := by omega
    refine ⟨V.take t ++ x :: V.drop t, ?_, ?_, ?_⟩
    · have : (V.take t ++ x :: V.drop t).Perm (x :: (V.take t ++ V.drop t)) := List.perm_middle
      rwa [List.take_append_drop] at this
    · have hp := List.pairwise_append.1 (show (V.take t ++ V.drop t).Pairwise le by rw [List.take_append_drop]; exact hs)
      have hlo : ∀ y ∈ V.take t, ¬ le x y := by
        intro y hy
        obtain ⟨q, hq, rfl⟩ := List.getElem_of_mem hy
        have hq' : q < t := by simp at hq; omega
        refine h4 (P.length + 1 + q) (by omega) (by omega) _ ?_
        rw [show P.length + 1 + q - (P.length + 1) = q by omega, List.getElem_take, List.getElem?_eq_getElem]
      have hhi : ∀ y ∈ V.drop t, le x y := by
        intro y hy
        obtain ⟨q, hq, rfl⟩ := List.getElem_of_mem hy
        simp only [List.length_drop] at hq
        have := h5 (P.length + 1 + (t + q)) (by omega) (by omega)
        refine Classical.byContradiction fun hn => this fun v hv => ?_
        rw [show P.length + 1 + (t + q) - (P.length + 1) = t + q by omega, List.getElem?_eq_getElem (by omega)] at hv
        cases hv
        rwa [List.getElem_drop] at hn
      refine List.pairwise_append.2 ⟨hp.1, List.pairwise_cons.2 ⟨hhi, hp.2.1⟩, fun y hy z hz => ?_⟩
      rcases List.mem_cons.1 hz with rfl | hz
      · exact (hc.tot y z (hok y (List.mem_cons_of_mem _ (List.mem_of_mem_take hy))) hox).resolve_right (hlo y hy)
      · exact hp.2.2 y hy z hz
    · rw [h3]
      unfold fT
      have hvd : V = V.take t ++ V.drop t := (List.take_append_drop t V).symm
      have e1 : P ++ x :: V ++ S = P ++ x :: (V.take t ++ (V.drop t ++ S)) := by rw [← List.append_assoc (V.take t), List.take_append_drop]; simp
      rw [e1]
      have := aDk again (i := P.length + 1 + t) x (V.drop t ++ S) (V.take t) P BIG (by simp; omega) (by omega) (dD (by simp; omega))
      rw [this]; simp
  · intro k i j hi hij hj
    have hh : i + j < 4611686018427387904 := by omega
    have hlt : decide ((i : Int) < (j : Int)) = true := decide_eq_true (by omega)
    obtain ⟨t, ht, htv⟩ : ∃ t, (i + j) / 2 = P.length + 1 + t ∧ t < V.length := ⟨(i + j) / 2 - (P.length + 1), by omega, by omega⟩
    obtain ⟨n, hn, hiff⟩ := hc.run V[t] x (hok _ (List.mem_cons_of_mem _ (List.getElem_mem htv))) hox
    have hg : (∀ v, V[(i + j) / 2 - (P.length + 1)]? = some v → ¬ le x v) ↔ ¬ le x V[t] := by
      rw [ht, show P.length + 1 + t - (P.length + 1) = t by omega, List.getElem?_eq_getElem htv]
      exact ⟨fun h => h _ rfl, fun h v hv => by cases hv; exact h⟩
    by_cases h : n < 0
    · refine .inl ⟨hg.2 (hiff.1 h), ?_⟩
      simp only [cR, hlt, cond_true, rV hh, ht, hdat t htv, hdx, Option.bind_some, hn, decide_eq_true h, cP (show P.length + 1 + t < 9223372036854775807 by omega)]
    · refine .inr ⟨fun hgg => h (hiff.2 (hg.1 hgg)), ?_⟩
      simp only [cR, hlt, cond_true, rV hh, ht, hdat t htv, hdx, Option.bind_some, hn, decide_eq_false h, cond_false]
  · intro k i
    have hlt : decide ((i : Int) < (i : Int)) = false := decide_eq_false (by omega)
    simp only [cR, hlt, cond_false]
  · intro p q hp hpq hq hg v hv hle
    have hq' : q - (P.length + 1) < V.length := by omega
    have hp' : p - (P.length + 1) < V.length := by omega
    rw [List.getElem?_eq_getElem hp'] at hv
    cases hv
    have hm := mX hc hs (fun y hy => hok y (List.mem_cons_of_mem _ hy)) (i := p - (P.length + 1)) (j := q - (P.length + 1)) (by omega) hq'
    exact hg _ (List.getElem?_eq_getElem hq') (hc.tr x _ _ hox (hok _ (List.mem_cons_of_mem _ (List.getElem_mem _))) (hok _ (List.mem_cons_of_mem _ (List.getElem_mem _))) hle hm)

theorem aDa (hc : mH cmp ok le) (again : List aC → Int → Int → Int → Option (List aC)) (P U : List aC) (y : aC) (S : List aC) (hok : ∀ z ∈ U ++ [y], ok z) (hs : U.Pairwise le) (hb : (P ++ U ++ y :: S).length < 1152921504606846976) :
    ∃ W, W.Perm (U ++ [y]) ∧ W.Pairwise le ∧ cS again ((P.length + U.length : Nat) : Int) cmp (P ++ U ++ y :: S) BIG (P.length : Nat) ((P.length + U.length : Nat) : Int) = some (P ++ W ++ S) := by
  simp only [List.length_append, List.length_cons] at hb
  have hoy := hok y (by simp)
  have hdat : ∀ t (ht : t < U.length), idx (P ++ U ++ y :: S) ((P.length + t : Nat) : Int) = some U[t] := by
    intro t ht
    rw [dK (by simp; omega)]
    simp only [Option.some.injEq]
    rw [List.getElem_append_left (by simp; omega), List.getElem_append_right (by omega)]
    simp only [show P.length + t - P.length = t by omega]
  have hdy : idx (P ++ U ++ y :: S) ((P.length + U.length : Nat) : Int) = some y := kO (by simp)
  have hbs := aAh (fun k i j => cS again ((P.length + U.length : Nat) : Int) cmp (P ++ U ++ y :: S) k i j) (fun i => fU again ((P.length + U.length : Nat) : Int) i (P ++ U ++ y :: S))
    (fun h => ∀ v, U[h - P.length]? = some v → le v y) P.length (P.length + U.length) (k := BIG) ?_ ?_ ?_ (by omega) (dD (by omega))
  · obtain ⟨r, h1, h2, h3, h4, h5⟩ := hbs
    obtain ⟨t, rfl⟩ : ∃ t, r = P.length + t := ⟨r - P.length, by omega⟩
    have htl : t ≤ U.length := by omega
    refine ⟨U.take t ++ y :: U.drop t, ?_, ?_, ?_⟩
    · have h1 : (U.take t ++ y :: U.drop t).Perm (y :: (U.take t ++ U.drop t)) := List.perm_middle
      rw [List.take_append_drop] at h1
      exact h1.trans (List.perm_append_singleton y U).symm
    · have hp := List.pairwise_append.1 (show (U.take t ++ U.drop t).Pairwise le by rw [List.take_append_drop]; exact hs)
      have hlo : ∀ z ∈ U.take t, le z y := by
        intro z hz
        obtain ⟨q, hq, rfl⟩ := List.getElem_of_mem hz
        have hq' : q < t := by simp at hq; omega
        refine h4 (P.length + q) (by omega) (by omega) _ ?_
        rw [show P.length + q - P.length = q by omega, List.getElem_take, List.getElem?_eq_getElem]
      have hhi : ∀ z ∈ U.drop t, le y z := by
        intro z hz
        obtain ⟨q, hq, rfl⟩ := List.getElem_of_mem hz
        simp only [List.length_drop] at hq
        have hnot := h5 (P.length + (t + q)) (by omega) (by omega)
        have hzu : (U.drop t)[q] ∈ U := List.mem_of_mem_drop (List.getElem_mem _)
        refine (hc.tot y _ hoy (hok _ (by simp [hzu]))).resolve_right fun hn => hnot fun v hv => ?_
        rw [show P.length + (t + q) - P.length = t + q by omega, List.getElem?_eq_getElem (by omega)] at hv
        cases hv
        rwa [List.getElem_drop] at hn
      refine List.pairwise_append.2 ⟨hp.1, List.pairwise_cons.2 ⟨hhi, hp.2.1⟩, fun z hz w hw => ?_⟩
      rcases List.mem_cons.1 hw with rfl | hw
      · exact hlo z hz
      · exact hp.2.2 z hz w hw
    · rw [h3]
      unfold fU
      have e1 : P ++ U ++ y :: S = (P ++ U.take t) ++ U.drop t ++ y :: S := by rw [List.append_assoc P (U.take t), List.take_append_drop]
      rw [e1]
      have := aDj again (i := P.length + t) y (P ++ U.take t) (by simp; omega) (U.drop t).length (U.drop t) S BIG rfl (by simp; omega) (dD (by simp; omega))
      have e2 : ((P ++ U.take t ++ U.drop t).length : Nat) = P.length + U.length := by simp [htl]
      rw [e2] at this
      rw [this]; simp
  · intro k i j hi hij hj
    have hh : i + j < 4611686018427387904 := by omega
    have hlt : decide ((i : Int) < (j : Int)) = true := decide_eq_true (by omega)
    obtain ⟨t, ht, htv⟩ : ∃ t, (i + j) / 2 = P.length + t ∧ t < U.length := ⟨(i + j) / 2 - P.length, by omega, by omega⟩
    obtain ⟨n, hn, hiff⟩ := hc.run y U[t] hoy (hok _ (by simp))
    have hg : (∀ v, U[(i + j) / 2 - P.length]? = some v → le v y) ↔ le U[t] y := by
      rw [ht, show P.length + t - P.length = t by omega, List.getElem?_eq_getElem htv]
      exact ⟨fun h => h _ rfl, fun h v hv => by cases hv; exact h⟩
    by_cases h : n < 0
    · refine .inr ⟨fun hgg => (hiff.1 h) (hg.1 hgg), ?_⟩
      simp only [cS, hlt, cond_true, rV hh, ht, hdat t htv, hdy, Option.bind_some, hn, decide_eq_true h, Bool.not_true, cond_false]
    · refine .inl ⟨hg.2 (Classical.byContradiction fun hle => h (hiff.2 hle)), ?_⟩
      simp only [cS, hlt, cond_true, rV hh, ht, hdat t htv, hdy, Option.bind_some, hn, decide_eq_false h, Bool.not_false, cP (show P.length + t < 9223372036854775807 by omega)]
  · intro k i
    have hlt : decide ((i : Int) < (i : Int)) = false := decide_eq_false (by omega)
    simp only [cS, hlt, cond_false]
  · intro p q hp hpq hq hg v hv
    have hq' : q - P.length < U.length := by omega
    have hp' : p - P.length < U.length := by omega
    rw [List.getElem?_eq_getElem hp'] at hv
    cases hv
    have hm := mX hc hs (fun z hz => hok z (by simp [hz])) (i := p - P.length) (j := q - P.length) (by omega) hq'
    exact hc.tr _ _ y (hok _ (by simp)) (hok _ (by simp)) hoy hm (hg _ (List.getElem?_eq_getElem hq'))
end merge
end Go.Am
