/- The library's stable sort: it sorts. -/
import Derived.Test.YtaocljlhapoieaaRkPlain3
namespace Go.Am

section merge
variable {cmp : aC → aC → Option Int} {ok : aC → Prop} {le : aC → aC → Prop}
theorem aGw (hc : mH cmp ok le) {again : List aC → Int → Int → Int → Option (List aC)} {N : Nat} (ih : wX ok le again N) (P U1 U2 V1 V2 S : List aC) (h1 : U1.length + V1.length < N) (h2 : U2.length + V2.length < N)
    (hok : ∀ y ∈ U1 ++ U2 ++ V1 ++ V2, ok y) (s1 : U1.Pairwise le) (s2 : U2.Pairwise le) (s3 : V1.Pairwise le) (s4 : V2.Pairwise le) (hb : (P ++ U1 ++ U2 ++ V1 ++ V2 ++ S).length < 1152921504606846976)
    {a m b mid n start : Int} (ea : a = (P.length : Nat)) (em : m = ((P.length + U1.length + U2.length : Nat) : Int)) (eb : b = ((P.length + U1.length + U2.length + V1.length + V2.length : Nat) : Int)) (emid : mid = ((P.length + U1.length + V1.length : Nat) : Int)) (en : n = mid + m) (es : start = ((P.length + U1.length : Nat) : Int)) :
    ∃ W1 W2, W1.Perm (U1 ++ V1) ∧ W1.Pairwise le ∧ W2.Perm (U2 ++ V2) ∧ W2.Pairwise le ∧ dC again a m b cmp mid n start (P ++ U1 ++ U2 ++ V1 ++ V2 ++ S) = some (P ++ W1 ++ W2 ++ S) := by
  simp only [List.length_append] at hb
  have eend : w64 (n - start) = ((P.length + U1.length + U2.length + V1.length : Nat) : Int) := by rw [cW (by omega) (by omega)]; omega
  -- the three steps
  have step1 : (bif decide (start < m) then some (decide (m < w64 (n - start))) else some false).bind (fun q => bif q then eP (P ++ U1 ++ U2 ++ V1 ++ V2 ++ S) start m (w64 (n - start)) cmp else some (P ++ U1 ++ U2 ++ V1 ++ V2 ++ S)) = some (P ++ U1 ++ V1 ++ U2 ++ V2 ++ S) := by
    rw [eend, gC, Option.bind_some]
    by_cases hh : 0 < U2.length ∧ 0 < V1.length
    · have : (decide (start < m) && decide (m < ((P.length + U1.length + U2.length + V1.length : Nat) : Int))) = true := by simp only [Bool.and_eq_true, decide_eq_true_eq]; omega
      rw [this, cond_true]
      have hr := aDd (cmp := cmp) (P ++ U1) U2 V1 (V2 ++ S) (List.length_pos_iff.1 hh.1) (List.length_pos_iff.1 hh.2) (by simp only [List.length_append]; omega)
      simp only [List.length_append] at hr
      rw [es, em]
      have e1 : P ++ U1 ++ U2 ++ V1 ++ V2 ++ S = P ++ U1 ++ U2 ++ V1 ++ (V2 ++ S) := by simp
      rw [e1, hr]; simp
    · have : (decide (start < m) && decide (m < ((P.length + U1.length + U2.length + V1.length : Nat) : Int))) = false := by
        rw [Bool.eq_false_iff]; simp only [ne_eq, Bool.and_eq_true, decide_eq_true_eq]; omega
      rw [this, cond_false]
      rcases Nat.eq_zero_or_pos U2.length with h | h
      · rw [List.length_eq_zero_iff.1 h]; simp
      · have : V1 = [] := List.length_eq_zero_iff.1 (by omega)
        rw [this]; simp
  obtain ⟨W1, p1, q1, step2⟩ : ∃ W1, W1.Perm (U1 ++ V1) ∧ W1.Pairwise le ∧ (bif decide (a < start) then some (decide (start < mid)) else some false).bind (fun q => bif q then again (P ++ U1 ++ V1 ++ U2 ++ V2 ++ S) a start mid else some (P ++ U1 ++ V1 ++ U2 ++ V2 ++ S)) = some (P ++ W1 ++ U2 ++ V2 ++ S) := by
    rw [gC, Option.bind_some]
    by_cases hh : 0 < U1.length ∧ 0 < V1.length
    · have : (decide (a < start) && decide (start < mid)) = true := by simp only [Bool.and_eq_true, decide_eq_true_eq]; omega
      rw [this]
      obtain ⟨W, hp, hs, hr⟩ := ih P U1 V1 (U2 ++ V2 ++ S) h1 hh.1 hh.2 (fun y hy => hok y (by simp only [List.mem_append] at hy ⊢; rcases hy with h | h <;> simp [h])) s1 s3 (by simp only [List.length_append]; omega)
      simp only [List.length_append] at hr
      refine ⟨W, hp, hs, ?_⟩
      rw [cond_true, ea, es, emid]
      have e1 : P ++ U1 ++ V1 ++ U2 ++ V2 ++ S = P ++ U1 ++ V1 ++ (U2 ++ V2 ++ S) := by simp
      rw [e1, hr]; simp
    · have : (decide (a < start) && decide (start < mid)) = false := by
        rw [Bool.eq_false_iff]; simp only [ne_eq, Bool.and_eq_true, decide_eq_true_eq]; omega
      rw [this]
      refine ⟨U1 ++ V1, .refl _, ?_, by rw [cond_false]; simp⟩
      rcases Nat.eq_zero_or_pos U1.length with h | h
      · rw [List.length_eq_zero_iff.1 h]; simpa using s3
      · have : V1 = [] := List.length_eq_zero_iff.1 (by omega)
        rw [this]; simpa using s1
  have hW1 : W1.length = U1.length + V1.length := by rw [p1.length_eq, List.length_append]
  obtain ⟨W2, p2, q2, step3⟩ : ∃ W2, W2.Perm (U2 ++ V2) ∧ W2.Pairwise le ∧ (bif decide (mid < w64 (n - start)) then some (decide (w64 (n - start) < b)) else some false).bind (fun q => bif q then again (P ++ W1 ++ U2 ++ V2 ++ S) mid (w64 (n - start)) b else some (P ++ W1 ++ U2 ++ V2 ++ S)) = some (P ++ W1 ++ W2 ++ S) := by
    rw [eend, gC, Option.bind_some]
    by_cases hh : 0 < U2.length ∧ 0 < V2.length
    · have : (decide (mid < ((P.length + U1.length + U2.length + V1.length : Nat) : Int)) && decide (((P.length + U1.length + U2.length + V1.length : Nat) : Int) < b)) = true := by simp only [Bool.and_eq_true, decide_eq_true_eq]; omega
      rw [this]
      obtain ⟨W, hp, hs, hr⟩ := ih (P ++ W1) U2 V2 S h2 hh.1 hh.2 (fun y hy => hok y (by simp only [List.mem_append] at hy ⊢; rcases hy with h | h <;> simp [h])) s2 s4 (by simp only [List.length_append]; omega)
      simp only [List.length_append] at hr
      refine ⟨W, hp, hs, ?_⟩
      rw [cond_true, emid, eb]
      rw [show P.length + U1.length + V1.length = P.length + W1.length by omega, show P.length + U1.length + U2.length + V1.length = P.length + W1.length + U2.length by omega, show P.length + W1.length + U2.length + V2.length = P.length + W1.length + U2.length + V2.length from rfl]
      exact hr
    · have : (decide (mid < ((P.length + U1.length + U2.length + V1.length : Nat) : Int)) && decide (((P.length + U1.length + U2.length + V1.length : Nat) : Int) < b)) = false := by
        rw [Bool.eq_false_iff]; simp only [ne_eq, Bool.and_eq_true, decide_eq_true_eq]; omega
      rw [this]
      refine ⟨U2 ++ V2, .refl _, ?_, by rw [cond_false]; simp⟩
      rcases Nat.eq_zero_or_pos U2.length with h | h
      · rw [List.length_eq_zero_iff.1 h]; simpa using s4
      · have : V2 = [] := List.length_eq_zero_iff.1 (by omega)
        rw [this]; simpa using s2
  refine ⟨W1, W2, p1, q1, p2, q2, ?_⟩
  -- the text
  have fin : ∀ (d : List aC) (x : Option (List aC)) (k : List aC → Option (List aC)) (q : Bool), (bif q then x.bind k else k d) = (bif q then x else some d).bind k := by intro d x k q; cases q <;> rfl
  unfold dC
  have h3 : ∀ d, d = P ++ W1 ++ U2 ++ V2 ++ S → ((bif decide (mid < w64 (n - start)) then some (decide (w64 (n - start) < b)) else some false).bind fun q => bif q then ((again d mid (w64 (n - start)) b).bind fun r => some r) else some d) = some (P ++ W1 ++ W2 ++ S) := by
    rintro d rfl
    rw [← step3]
    congr 1
    funext q
    cases q
    · rfl
    · simp only [cond_true]; cases again (P ++ W1 ++ U2 ++ V2 ++ S) mid (w64 (n - start)) b <;> rfl
  have h2 : ∀ d, d = P ++ U1 ++ V1 ++ U2 ++ V2 ++ S → ((bif decide (a < start) then some (decide (start < mid)) else some false).bind fun q => bif q then ((again d a start mid).bind fun r =>
      (bif decide (mid < w64 (n - start)) then some (decide (w64 (n - start) < b)) else some false).bind fun q => bif q then ((again r mid (w64 (n - start)) b).bind fun r => some r) else some r) else
      ((bif decide (mid < w64 (n - start)) then some (decide (w64 (n - start) < b)) else some false).bind fun q => bif q then ((again d mid (w64 (n - start)) b).bind fun r => some r) else some d)) = some (P ++ W1 ++ W2 ++ S) := by
    rintro d rfl
    rw [gC, Option.bind_some] at step2 ⊢
    cases hq : (decide (a < start) && decide (start < mid)) with
    | true =>
      rw [hq, cond_true] at step2
      rw [cond_true, step2, Option.bind_some]
      exact h3 _ rfl
    | false =>
      rw [hq, cond_false] at step2
      rw [cond_false]
      exact h3 _ (Option.some.inj step2)
  rw [gC, Option.bind_some] at step1 ⊢
  cases hq : (decide (start < m) && decide (m < w64 (n - start))) with
  | true =>
    rw [hq, cond_true] at step1
    rw [cond_true, step1, Option.bind_some]
    exact h2 _ rfl
  | false =>
    rw [hq, cond_false] at step1
    rw [cond_false]
    exact h2 _ (Option.some.inj step1)

theorem aBr (hc : mH cmp ok le) : ∀ (kr N : Nat), N ≤ kr → wX ok le (bH cmp kr) N := by
  intro kr
  induction kr with
  | zero => intro N hN P U V S hlt; omega
  | succ kr ih =>
    intro N hN P U V S hlt hu hv hok su sv hb
    simp only [List.length_append] at hb
    have eU : w64 (((P ++ U).length : Int) - (P.length : Int)) = (U.length : Int) := by simp only [List.length_append]; rw [cW (by omega) (by omega)]; omega
    have eV : w64 (((P ++ U ++ V).length : Int) - ((P ++ U).length : Int)) = (V.length : Int) := by simp only [List.length_append]; rw [cW (by omega) (by omega)]; omega
    simp only [bH, eU, eV]
    by_cases hu1 : U.length = 1
    · match U, hu1 with
      | [x], _ =>
        obtain ⟨W, h1, h2, h3⟩ := aEl hc (bH cmp kr) P x V S (fun y hy => hok y (by simpa using hy)) sv (by simp only [List.length_append, List.length_cons]; simp at hb; omega)
        refine ⟨W, by simpa using h1, h2, ?_⟩
        have hd : decide ((([x] : List aC).length : Int) = 1) = true := decide_eq_true (by simp)
        rw [hd, cond_true]
        have e1 : P ++ [x] ++ V ++ S = P ++ x :: V ++ S := by simp
        have e2 : (P ++ [x]).length = P.length + 1 := by simp
        have e3 : (P ++ [x] ++ V).length = P.length + 1 + V.length := by simp <;> omega
        rw [e1, e2, e3]
        exact h3
    have hd : decide ((U.length : Int) = 1) = false := decide_eq_false (by omega)
    rw [hd, cond_false]
    by_cases hv1 : V.length = 1
    · match V, hv1 with
      | [y], _ =>
        obtain ⟨W, h1, h2, h3⟩ := aDa hc (bH cmp kr) P U y S hok su (by simp only [List.length_append, List.length_cons]; simp at hb; omega)
        refine ⟨W, h1, h2, ?_⟩
        have hd : decide ((([y] : List aC).length : Int) = 1) = true := decide_eq_true (by simp)
        rw [hd, cond_true]
        have e1 : P ++ U ++ [y] ++ S = P ++ U ++ y :: S := by simp
        have e2 : (P ++ U).length = P.length + U.length := by simp
        rw [e1, e2]
        exact h3
    have hd2 : decide ((V.length : Int) = 1) = false := decide_eq_false (by omega)
    rw [hd2, cond_false]
    -- by halves
    have eh : w64 ((IntKind.u64.wrap (w64 ((P.length : Int) + ((P ++ U ++ V).length : Int)))).fdiv (2 ^ (min (1 : Int).toNat 64))) = (((P.length + (P ++ U ++ V).length) / 2 : Nat) : Int) := rV (by simp only [List.length_append]; omega)
    rw [eh]
    obtain ⟨mid, hmid⟩ : ∃ mid, mid = (P.length + (P ++ U ++ V).length) / 2 := ⟨_, rfl⟩
    rw [← hmid]
    simp only [List.length_append] at hmid
    have en : w64 ((mid : Int) + ((P ++ U).length : Int)) = ((mid + (P.length + U.length) : Nat) : Int) := by simp only [List.length_append]; rw [cW (by omega) (by omega)]; omega
    have ep : w64 (((mid + (P.length + U.length) : Nat) : Int) - 1) = ((mid + (P.length + U.length) - 1 : Nat) : Int) := by rw [cW (by omega) (by omega)]; omega
    rw [en, ep]
    have hok1 : ∀ y ∈ U, ok y := fun y hy => hok y (by simp [hy])
    have hok2 : ∀ y ∈ V, ok y := fun y hy => hok y (by simp [hy])
    have hdU : ∀ t (ht : t < U.length), idx (P ++ U ++ V ++ S) ((P.length + t : Nat) : Int) = some U[t] := by
      intro t ht
      rw [dK (by simp; omega)]
      simp only [Option.some.injEq]
      rw [List.getElem_append_left (by simp; omega), List.getElem_append_left (by simp; omega), List.getElem_append_right (by omega)]
      simp only [show P.length + t - P.length = t by omega]
    have hdV : ∀ t (ht : t < V.length), idx (P ++ U ++ V ++ S) ((P.length + U.length + t : Nat) : Int) = some V[t] := by
      intro t ht
      rw [dK (by simp; omega)]
      simp only [Option.some.injEq]
      rw [List.getElem_append_left (by simp; omega), List.getElem_append_right (by simp)]
      simp only [List.length_append, show P.length + U.length + t - (P.length + U.length) = t by omega]
    -- the search
    have search : ∀ lo hi : Nat, P.length ≤ lo → lo ≤ hi → hi ≤ P.length + U.length → (∀ c, lo ≤ c → c < hi → P.length + U.length ≤ mid + (P.length + U.length) - 1 - c ∧ mid + (P.length + U.length) - 1 - c < P.length + U.length + V.length ∧ c < mid + (P.length + U.length)) →
        ∃ r : Nat, lo ≤ r ∧ r ≤ hi ∧ cD (bH cmp kr) (P.length : Nat) ((P ++ U).length : Nat) ((P ++ U ++ V).length : Nat) cmp mid ((mid + (P.length + U.length) : Nat) : Int) ((mid + (P.length + U.length) - 1 : Nat) : Int) (P ++ U ++ V ++ S) BIG lo hi =
          dC (bH cmp kr) (P.length : Nat) ((P ++ U).length : Nat) ((P ++ U ++ V).length : Nat) cmp mid ((mid + (P.length + U.length) : Nat) : Int) r (P ++ U ++ V ++ S) ∧
          (∀ x, lo ≤ x → x < r → ∀ u v, U[x - P.length]? = some u → V[mid + (P.length + U.length) - 1 - x - (P.length + U.length)]? = some v → le u v) ∧ (∀ x, r ≤ x → x < hi → ¬ ∀ u v, U[x - P.length]? = some u → V[mid + (P.length + U.length) - 1 - x - (P.length + U.length)]? = some v → le u v) := by
      intro lo hi hlo hlh hhi hc'
      refine aAh (fun k i j => cD (bH cmp kr) (P.length : Nat) ((P ++ U).length : Nat) ((P ++ U ++ V).length : Nat) cmp mid ((mid + (P.length + U.length) : Nat) : Int) ((mid + (P.length + U.length) - 1 : Nat) : Int) (P ++ U ++ V ++ S) k i j)
        (fun i => dC (bH cmp kr) (P.length : Nat) ((P ++ U).length : Nat) ((P ++ U ++ V).length : Nat) cmp mid ((mid + (P.length + U.length) : Nat) : Int) i (P ++ U ++ V ++ S))
        (fun x => ∀ u v, U[x - P.length]? = some u → V[mid + (P.length + U.length) - 1 - x - (P.length + U.length)]? = some v → le u v) lo hi ?_ ?_ ?_ hlh (dD (by omega))
      · intro k i j hi' hij hj
        have hh : i + j < 4611686018427387904 := by omega
        have hlt : decide ((i : Int) < (j : Int)) = true := decide_eq_true (by omega)
        obtain ⟨c, hcd⟩ : ∃ c, c = (i + j) / 2 := ⟨_, rfl⟩
        obtain ⟨g1, g2, g3⟩ := hc' c (by omega) (by omega)
        have t1 : c - P.length < U.length := by omega
        have t2 : mid + (P.length + U.length) - 1 - c - (P.length + U.length) < V.length := by omega
        have i1 := hdU (c - P.length) t1
        have i2 := hdV (mid + (P.length + U.length) - 1 - c - (P.length + U.length)) t2
        rw [show P.length + (c - P.length) = c by omega] at i1
        rw [show P.length + U.length + (mid + (P.length + U.length) - 1 - c - (P.length + U.length)) = mid + (P.length + U.length) - 1 - c by omega] at i2
        have ew : w64 (((mid + (P.length + U.length) - 1 : Nat) : Int) - (c : Int)) = ((mid + (P.length + U.length) - 1 - c : Nat) : Int) := by rw [cW (by omega) (by omega)]; omega
        obtain ⟨q, hq, hiff⟩ := hc.run _ _ (hok2 _ (List.getElem_mem t2)) (hok1 _ (List.getElem_mem t1))
        have hg : (∀ u v, U[c - P.length]? = some u → V[mid + (P.length + U.length) - 1 - c - (P.length + U.length)]? = some v → le u v) ↔ le U[c - P.length] V[mid + (P.length + U.length) - 1 - c - (P.length + U.length)] := by
          rw [List.getElem?_eq_getElem t1, List.getElem?_eq_getElem t2]
          exact ⟨fun h => h _ _ rfl rfl, fun h u v h1 h2 => by cases h1; cases h2; exact h⟩
        simp only [← hcd]
        by_cases h : q < 0
        · refine .inr ⟨fun hgg => hiff.1 h (hg.1 hgg), ?_⟩
          simp only [cD, hlt, cond_true, rV hh, ← hcd, ew, i1, i2, Option.bind_some, hq, decide_eq_true h, Bool.not_true, cond_false]
        · refine .inl ⟨hg.2 (Classical.byContradiction fun hle => h (hiff.2 hle)), ?_⟩
          simp only [cD, hlt, cond_true, rV hh, ← hcd, ew, i1, i2, Option.bind_some, hq, decide_eq_false h, Bool.not_false, cP (show c < 9223372036854775807 by omega)]
      · intro k i
        have hlt : decide ((i : Int) < (i : Int)) = false := decide_eq_false (by omega)
        simp only [cD, hlt, cond_false]
      · intro p q hp hpq hq hg u v hu' hv'
        obtain ⟨g1, g2, g3⟩ := hc' p (by omega) (by omega)
        obtain ⟨g4, g5, g6⟩ := hc' q (by omega) hq
        have t1 : q - P.length < U.length := by omega
        have t2 : mid + (P.length + U.length) - 1 - q - (P.length + U.length) < V.length := by omega
        have t3 : p - P.length < U.length := by omega
        have t4 : mid + (P.length + U.length) - 1 - p - (P.length + U.length) < V.length := by omega
        rw [List.getElem?_eq_getElem t3] at hu'
        rw [List.getElem?_eq_getElem t4] at hv'
        cases hu'; cases hv'
        have m1 := mX hc su hok1 (i := p - P.length) (j := q - P.length) (by omega) t1
        have m2 := mX hc sv hok2 (i := mid + (P.length + U.length) - 1 - q - (P.length + U.length)) (j := mid + (P.length + U.length) - 1 - p - (P.length + U.length)) (by omega) t4
        have m3 := hg _ _ (List.getElem?_eq_getElem t1) (List.getElem?_eq_getElem t2)
        exact hc.tr _ _ _ (hok1 _ (List.getElem_mem _)) (hok1 _ (List.getElem_mem _)) (hok2 _ (List.getElem_mem _)) m1 (hc.tr _ _ _ (hok1 _ (List.getElem_mem _)) (hok2 _ (List.getElem_mem _)) (hok2 _ (List.getElem_mem _)) m3 m2)
    -- what follows
    have finish : ∀ lo hi r : Nat, P.length ≤ lo → lo ≤ r → r ≤ hi → hi ≤ P.length + U.length → P.length + U.length ≤ mid + (P.length + U.length) - r → mid + (P.length + U.length) - r ≤ P.length + U.length + V.length → r ≤ mid →
        (P.length < lo → lo = mid + (P.length + U.length) - (P.length + U.length + V.length)) → (hi < P.length + U.length → hi = mid) →
        (∀ x, lo ≤ x → x < r → ∀ u v, U[x - P.length]? = some u → V[mid + (P.length + U.length) - 1 - x - (P.length + U.length)]? = some v → le u v) → (∀ x, r ≤ x → x < hi → ¬ ∀ u v, U[x - P.length]? = some u → V[mid + (P.length + U.length) - 1 - x - (P.length + U.length)]? = some v → le u v) →
        ∃ W, W.Perm (U ++ V) ∧ W.Pairwise le ∧ dC (bH cmp kr) (P.length : Nat) ((P ++ U).length : Nat) ((P ++ U ++ V).length : Nat) cmp mid ((mid + (P.length + U.length) : Nat) : Int) r (P ++ U ++ V ++ S) = some (P ++ W ++ S) := by
      intro lo hi0 r hlo hlr hrh hhi he1 he2 hrm hlo' hhi' hlow hhigh
      obtain ⟨s, hs⟩ : ∃ s, s = r - P.length := ⟨_, rfl⟩
      obtain ⟨e, he⟩ : ∃ e, e = mid + (P.length + U.length) - r - (P.length + U.length) := ⟨_, rfl⟩
      have hsU : s ≤ U.length := by omega
      have heV : e ≤ V.length := by omega
      have lU1 : (U.take s).length = s := by simp; omega
      have lU2 : (U.drop s).length = U.length - s := by simp
      have lV1 : (V.take e).length = e := by simp; omega
      have lV2 : (V.drop e).length = V.length - e := by simp
      have dU : U.take s ++ U.drop s = U := List.take_append_drop s U
      have dV : V.take e ++ V.drop e = V := List.take_append_drop e V
      have pU := List.pairwise_append.1 (show (U.take s ++ U.drop s).Pairwise le by rw [dU]; exact su)
      have pV := List.pairwise_append.1 (show (V.take e ++ V.drop e).Pairwise le by rw [dV]; exact sv)
      have ihN : wX ok le (bH cmp kr) (U.length + V.length) := ih _ (by omega)
      obtain ⟨W1, W2, p1, q1, p2, q2, hK⟩ := aGw hc ihN P (U.take s) (U.drop s) (V.take e) (V.drop e) S (by rw [lU1, lV1]; omega) (by rw [lU2, lV2]; omega)
        (fun y hy => by
          simp only [List.mem_append] at hy
          rcases hy with ((h | h) | h) | h
          · exact hok1 y (List.mem_of_mem_take h)
          · exact hok1 y (List.mem_of_mem_drop h)
          · exact hok2 y (List.mem_of_mem_take h)
          · exact hok2 y (List.mem_of_mem_drop h)) pU.1 pU.2.1 pV.1 pV.2.1 (by simp only [List.length_append, lU1, lU2, lV1, lV2]; omega)
        (a := (P.length : Nat)) (m := ((P ++ U).length : Nat)) (b := ((P ++ U ++ V).length : Nat)) (mid := mid) (n := ((mid + (P.length + U.length) : Nat) : Int)) (start := r) rfl
        (by simp only [List.length_append, lU1, lU2]; omega) (by simp only [List.length_append, lU1, lU2, lV1, lV2]; omega) (by rw [lU1, lV1]; omega) (by simp only [List.length_append]; omega) (by rw [lU1]; omega)
      have ed : P ++ U.take s ++ U.drop s ++ V.take e ++ V.drop e ++ S = P ++ U ++ V ++ S := by
        rw [List.append_assoc P, dU, List.append_assoc (P ++ U), dV]
      rw [ed] at hK
      refine ⟨W1 ++ W2, ?_, ?_, by rw [hK]; simp⟩
      · refine (p1.append p2).trans ?_
        have : (U.take s ++ V.take e ++ (U.drop s ++ V.drop e)).Perm ((U.take s ++ U.drop s) ++ (V.take e ++ V.drop e)) := by
          rw [List.append_assoc, List.append_assoc]
          refine List.Perm.append_left _ ?_
          rw [← List.append_assoc, ← List.append_assoc]
          exact List.Perm.append_right _ List.perm_append_comm
        rwa [dU, dV] at this
      · refine List.pairwise_append.2 ⟨q1, q2, fun x hx y hy => ?_⟩
        have hx' := p1.mem_iff.1 hx
        have hy' := p2.mem_iff.1 hy
        rcases List.mem_append.1 hx' with hx1 | hx1 <;> rcases List.mem_append.1 hy' with hy1 | hy1
        · exact pU.2.2 x hx1 y hy1
        · -- the first of U, the last of V
          obtain ⟨i, hi, rfl⟩ := List.getElem_of_mem hx1
          obtain ⟨j, hj, rfl⟩ := List.getElem_of_mem hy1
          rw [lU1] at hi
          rw [lV2] at hj
          have hlo2 : lo ≤ r - 1 := by
            rcases Nat.lt_or_ge P.length lo with h | h
            · have := hlo' h; omega
            · omega
          have t1 : r - 1 - P.length < U.length := by omega
          have t2 : mid + (P.length + U.length) - 1 - (r - 1) - (P.length + U.length) < V.length := by omega
          have m3 := hlow (r - 1) hlo2 (by omega) _ _ (List.getElem?_eq_getElem t1) (List.getElem?_eq_getElem t2)
          have m1 := mX hc su hok1 (i := i) (j := r - 1 - P.length) (by omega) t1
          have m2 := mX hc sv hok2 (i := mid + (P.length + U.length) - 1 - (r - 1) - (P.length + U.length)) (j := e + j) (by omega) (by omega)
          rw [List.getElem_take, List.getElem_drop]
          exact hc.tr _ _ _ (hok1 _ (List.getElem_mem _)) (hok1 _ (List.getElem_mem _)) (hok2 _ (List.getElem_mem _)) m1 (hc.tr _ _ _ (hok1 _ (List.getElem_mem _)) (hok2 _ (List.getElem_mem _)) (hok2 _ (List.getElem_mem _)) m3 m2)
        · obtain ⟨i, hi, rfl⟩ := List.getElem_of_mem hx1
          obtain ⟨j, hj, rfl⟩ := List.getElem_of_mem hy1
          rw [lV1] at hi
          rw [lU2] at hj
          have hh2 : r < hi0 := by
            rcases Nat.lt_or_ge hi0 (P.length + U.length) with h | h
            · have := hhi' h; omega
            · omega
          have t1 : r - P.length < U.length := by omega
          have t2 : mid + (P.length + U.length) - 1 - r - (P.length + U.length) < V.length := by omega
          have hnot := hhigh r (Nat.le_refl _) hh2
          have m3 : le V[mid + (P.length + U.length) - 1 - r - (P.length + U.length)] U[r - P.length] := by
            refine (hc.tot _ _ (hok2 _ (List.getElem_mem t2)) (hok1 _ (List.getElem_mem t1))).resolve_right fun hn => hnot fun u v h1 h2 => ?_
            rw [List.getElem?_eq_getElem t1] at h1
            rw [List.getElem?_eq_getElem t2] at h2
            cases h1; cases h2; exact hn
          have m1 := mX hc sv hok2 (i := i) (j := mid + (P.length + U.length) - 1 - r - (P.length + U.length)) (by omega) t2
          have m2 := mX hc su hok1 (i := r - P.length) (j := s + j) (by omega) (by omega)
          rw [List.getElem_take, List.getElem_drop]
          exact hc.tr _ _ _ (hok2 _ (List.getElem_mem _)) (hok2 _ (List.getElem_mem _)) (hok1 _ (List.getElem_mem _)) m1 (hc.tr _ _ _ (hok2 _ (List.getElem_mem _)) (hok1 _ (List.getElem_mem _)) (hok1 _ (List.getElem_mem _)) m3 m2)
        · exact pV.2.2 x hx1 y hy1
    by_cases hm : mid < P.length + U.length
    · have hd3 : decide ((mid : Int) < ((P ++ U).length : Int)) = true := decide_eq_true (by simp only [List.length_append]; omega)
      have es : w64 (((mid + (P.length + U.length) : Nat) : Int) - ((P ++ U ++ V).length : Int)) = ((mid + (P.length + U.length) - (P.length + U.length + V.length) : Nat) : Int) := by simp only [List.length_append]; rw [cW (by omega) (by omega)]; omega
      rw [hd3, cond_true, es]
      obtain ⟨r, h1, h2, h3, h4, h5⟩ := search (mid + (P.length + U.length) - (P.length + U.length + V.length)) mid (by omega) (by omega) (by omega) (fun c h1 h2 => by omega)
      rw [h3]
      exact finish _ mid r (by omega) h1 h2 (by omega) (by omega) (by omega) h2 (fun _ => rfl) (fun _ => rfl) h4 h5
    · have hd3 : decide ((mid : Int) < ((P ++ U).length : Int)) = false := decide_eq_false (by simp only [List.length_append]; omega)
      rw [hd3, cond_false]
      have eu : ((P ++ U).length : Nat) = P.length + U.length := by simp
      obtain ⟨r, h1, h2, h3, h4, h5⟩ := search P.length (P.length + U.length) (by omega) (by omega) (by omega) (fun c h1 h2 => by omega)
      have hf := finish P.length (P.length + U.length) r (by omega) h1 h2 (by omega) (by omega) (by omega) (by omega) (fun h => by omega) (fun h => by omega) h4 h5
      simp only [eu] at h3 hf ⊢
      rw [h3]
      exact hf
end merge
end Go.Am
