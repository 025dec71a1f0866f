/- Entry, plainly: When. -/
import Derived.Test.YtfdappeickbpeaaGreatEnPlain9
namespace Go.Am

/-- What is left of a row when equal neighbours are one. -/
def nA (p : Int) : List Int → List Int
  | [] => []
  | y :: t => if y = p then nA p t else y :: nA y t
def nF : List Int → List Int
  | [] => []
  | x :: t => x :: nA x t
theorem aDq (again : Int → List Int → Option (List Int)) {k0 : Nat} : ∀ (t : List Int) (p : Int) (W X : List Int) (k2 k : Nat), 1 ≤ k2 → W.length + X.length + 1 = k0 + k2 → k0 ≤ W.length → (W ++ X ++ p :: t).length < 4611686018427387904 → t.length < k →
    eA again (k0 : Nat) k (W.length : Nat) (k2 : Nat) (W ++ X ++ p :: t) = some (W ++ nA p t) := by
  intro t
  induction t with
  | nil =>
    intro p W X k2 k h1 h2 h3 hb hk
    obtain ⟨k, rfl⟩ : ∃ q, k = q + 1 := ⟨k - 1, by omega⟩
    simp only [List.length_append, List.length_cons, List.length_nil] at hb
    have t0 : ((k0 : Nat) : Int).toNat = k0 := rfl
    have t1 : ((W.length : Nat) : Int).toNat = W.length := rfl
    have hlt : decide ((k2 : Int) < (((W ++ X ++ [p]).drop k0).length : Int)) = false := decide_eq_false (by simp; omega)
    have c1 : (decide ((0 : Int) ≤ (W.length : Int)) && decide ((W.length : Int) ≤ ((W ++ X ++ [p]).length : Int))) = true := by simp; omega
    have c2 : decide (W.length ≤ (W ++ X ++ [p]).length) = true := by simp
    have c3 : decide ((0 : Int) ≤ (W.length : Int)) = true := by simp
    simp only [eA, t0, hlt, cond_false, lO]
    rw [c1, t1, c2, c3]
    simp [chk, nA]
  | cons y t ih =>
    intro p W X k2 k h1 h2 h3 hb hk
    obtain ⟨k, rfl⟩ : ∃ q, k = q + 1 := ⟨k - 1, by omega⟩
    simp only [List.length_append, List.length_cons] at hb hk
    have t0 : ((k0 : Nat) : Int).toNat = k0 := rfl
    have t1 : ((W.length : Nat) : Int).toNat = W.length := rfl
    have hlt : decide ((k2 : Int) < (((W ++ X ++ p :: y :: t).drop k0).length : Int)) = true := decide_eq_true (by simp; omega)
    have ed : (W ++ X ++ p :: y :: t).drop k0 = (W ++ X).drop k0 ++ p :: y :: t := by rw [List.drop_append_of_le_length (by simp; omega)]
    have hdl : ((W ++ X).drop k0).length = k2 - 1 := by simp; omega
    have i1 : idx ((W ++ X ++ p :: y :: t).drop k0) (k2 : Nat) = some y := by rw [ed]; exact uR (by rw [hdl]; omega)
    have i2 : idx ((W ++ X ++ p :: y :: t).drop k0) (w64 ((k2 : Int) - 1)) = some p := by rw [aDo (by omega) (by omega), ed]; exact qA (by rw [hdl])
    simp only [eA, t0, hlt, cond_true, i1, i2, Option.bind_some, dV (show k2 < 9223372036854775807 by omega)]
    by_cases hyp : y = p
    · subst hyp
      have := ih y W (X ++ [y]) (k2 + 1) k (by omega) (by simp; omega) h3 (by simp only [List.length_append, List.length_cons, List.length_nil]; omega) (by omega)
      have e1 : W ++ (X ++ [y]) ++ y :: t = W ++ X ++ y :: y :: t := by simp
      rw [e1] at this
      rw [decide_eq_true rfl, Bool.not_true, cond_false, this]
      simp [nA]
    · have hd : (!decide (y = p)) = true := by rw [decide_eq_false hyp]; rfl
      have i3 : ∃ z, idx (W ++ X ++ p :: y :: t) (W.length : Nat) = some z := ⟨_, eP (by simp; omega)⟩
      obtain ⟨z, i3⟩ := i3
      rw [hd, cond_true, i3, Option.bind_some, t1, dV (by omega)]
      obtain ⟨X', e2⟩ : ∃ X', (W ++ X ++ p :: y :: t).set W.length y = (W ++ [y]) ++ X' ++ y :: t ∧ X'.length = X.length := by
        cases X with
        | nil => exact ⟨[], by simp, rfl⟩
        | cons x X => exact ⟨X ++ [p], by simp, by simp⟩
      rw [e2.1]
      have := ih y (W ++ [y]) X' (k2 + 1) k (by omega) (by rw [List.length_append, e2.2]; simp; omega) (by simp; omega) (by simp only [List.length_append, List.length_cons, List.length_nil, e2.2]; omega) (by omega)
      have e3 : (W ++ [y]).length = W.length + 1 := by simp
      rw [e3] at this
      rw [this]
      simp [nA, hyp]
theorem aBc (s : List Int) (hb : s.length < 4611686018427387904) : jF s = some (nF s) := by
  have main : ∀ (t A : List Int) (p : Int) (k : Nat), t.length < k → (A ++ p :: t).length < 4611686018427387904 → dB k ((A.length + 1 : Nat) : Int) (A ++ p :: t) = some (A ++ p :: nA p t) := by
    intro t
    induction t with
    | nil =>
      intro A p k hk hb
      obtain ⟨k, rfl⟩ : ∃ q, k = q + 1 := ⟨k - 1, by omega⟩
      have hlt : decide (((A.length + 1 : Nat) : Int) < ((A ++ [p]).length : Int)) = false := decide_eq_false (by simp)
      simp only [dB, hlt, cond_false, lM, nA]
    | cons y t ih =>
      intro A p k hk hb
      obtain ⟨k, rfl⟩ : ∃ q, k = q + 1 := ⟨k - 1, by omega⟩
      simp only [List.length_append, List.length_cons] at hb hk
      have hlt : decide (((A.length + 1 : Nat) : Int) < ((A ++ p :: y :: t).length : Int)) = true := decide_eq_true (by simp; omega)
      have i2 : w64 (((A.length + 1 : Nat) : Int) - 1) = (A.length : Int) := by rw [gV (by omega) (by omega)]; omega
      simp only [dB, hlt, cond_true, uR rfl, i2, qA rfl, Option.bind_some]
      by_cases hyp : y = p
      · subst hyp
        have c1 : (decide ((0 : Int) ≤ ((A.length + 1 : Nat) : Int)) && decide (((A.length + 1 : Nat) : Int) ≤ ((A ++ y :: y :: t).length : Int))) = true := by simp; omega
        rw [decide_eq_true rfl, cond_true, c1]
        simp only [chk, cond_true, Option.bind_some]
        have := aDq (dB k) (k0 := A.length + 1) t y (A ++ [y]) [] 1 BIG (Nat.le_refl _) (by simp) (by simp) (by simp only [List.length_append, List.length_cons, List.length_nil]; omega) (gG (by omega))
        have e3 : (A ++ [y]).length = A.length + 1 := by simp
        have e4 : A ++ [y] ++ [] ++ y :: t = A ++ y :: y :: t := by simp
        rw [e3, e4] at this
        have e5 : ((1 : Nat) : Int) = 1 := rfl
        rw [e5] at this
        rw [this]
        simp [nA]
      · rw [decide_eq_false hyp, cond_false]
        unfold lN
        rw [dV (by omega)]
        have := ih (A ++ [p]) y k (by omega) (by simp only [List.length_append, List.length_cons, List.length_nil]; omega)
        have e3 : (A ++ [p]).length = A.length + 1 := by simp
        have e4 : A ++ [p] ++ y :: t = A ++ p :: y :: t := by simp
        rw [e3, e4] at this
        rw [this]
        simp [nA, hyp]
  unfold jF
  match s, hb with
  | [], _ => simp [nF]
  | x :: t, hb =>
    by_cases ht : t = []
    · subst ht; simp [nF, nA]
    · have hl : 0 < t.length := List.length_pos_iff.2 ht
      have hd : decide (((x :: t).length : Int) < 2) = false := decide_eq_false (by simp; omega)
      rw [hd, cond_false]
      have := main t [] x BIG (gG (by simp at hb; omega)) (by simpa using hb)
      simp only [List.length_nil, List.nil_append, Nat.zero_add] at this
      have e5 : ((1 : Nat) : Int) = 1 := rfl
      rw [e5] at this
      rw [this]; rfl
theorem aGf (p : Int) (t : List Int) : (nA p t).Sublist t := by
  induction t generalizing p with
  | nil => exact .slnil
  | cons y t ih =>
    simp only [nA]
    split
    · exact (ih p).cons _
    · exact (ih y).cons_cons _
theorem aAz (l : List Int) : (oM l).length = l.length := (List.mergeSort_perm l _).length_eq
/-- The hours that are asked, one after the other. -/
def uA (l : List aJ) : List Int := nF (oM (l.map fun x => x.Hour))
def zT (f : aU) (l : List aJ) (p h : Int) : Bool := decide ((rA (gH f l h) p).1 = 1) || decide ((rA (gH f l h) p).1 = 2)
theorem aJs {f : aU} {l : List aJ} (h : VL f l) (p : Int) (T : List Int) (hT : T.length ≤ 1000) : ∀ (d i k : Nat), T.length - i = d → d < k → i ≤ T.length →
    jO l p (T.length : Int) f T k (i : Int) = some (match (T.drop i).find? (zT f l p) with | some x => (x, 0) | none => (0, 3)) := by
  intro d
  induction d with
  | zero =>
    intro i k hd hk hi
    obtain ⟨k, rfl⟩ : ∃ q, k = q + 1 := ⟨k - 1, by omega⟩
    have : i = T.length := by omega
    subst this
    simp [jO, rD]
  | succ d ih =>
    intro i k hd hk hi
    obtain ⟨k, rfl⟩ : ∃ q, k = q + 1 := ⟨k - 1, by omega⟩
    have hil : i < T.length := by omega
    have hlt : decide ((i : Int) < (T.length : Int)) = true := decide_eq_true (by omega)
    obtain ⟨j, hj, hg⟩ := rK h T[i]
    simp only [jO, hlt, cond_true, eP hil, Option.bind_some, aBs h, aDh hg hj, rX]
    rw [List.drop_eq_getElem_cons hil, List.find?_cons]
    rw [show (decide ((rA (gH f l T[i]) p).1 = 1) || decide ((rA (gH f l T[i]) p).1 = 2)) = zT f l p T[i] from rfl]
    cases zT f l p T[i] with
    | true => rfl
    | false =>
      simp only [cond_false]
      rw [dV (by omega)]
      exact ih (i + 1) k (by omega) (by omega) (by omega)
theorem aIs {f : aU} {l : List aJ} (h : VL f l) {p : Int} (hp : wi p 0 999 = true) : nR f l p = some (match (uA l).find? (zT f l p) with | some x => (x, 0) | none => (0, 3)) := by
  have hlen := h.len
  have hH : (uA l).length ≤ 60 := by
    unfold uA
    have h1 := aAz (l.map fun x => x.Hour)
    rw [List.length_map] at h1
    cases hs : oM (l.map fun x => x.Hour) with
    | nil => simp [nF]
    | cons q t =>
      rw [hs] at h1
      simp only [List.length_cons] at h1
      have := (aGf q t).length_le
      simp only [nF, List.length_cons]
      omega
  have key := oT (jN l p l (l.length : Int) f) l.length (fun i s => oE l p f (s ++ (l.drop i).map fun x => x.Hour)) (fun i s => s.length = i) (fun k i s hi hI ih => ?_) (fun k s hI => ?_) BIG [] (gG (by omega)) rfl
  · unfold nR
    rw [aAa, nQ.2 h, hp]
    simp only [decide_true, Bool.not_true, cond_false, show wi 0 0 9999 = true from rfl, Bool.or_self, Option.bind_some]
    rw [key]
    simp only [List.drop_zero, List.nil_append]
    unfold oE slices_Sort_int
    rw [if_pos (by rw [List.length_map]; omega), Option.bind_some, aBc _ (by rw [aAz, List.length_map]; omega), Option.bind_some]
    exact aJs h p (uA l) (by omega) _ 0 BIG rfl (gG (by omega)) (Nat.zero_le _)
  · simp only [jN, show decide ((i : Int) < (l.length : Int)) = true by simpa using hi, cond_true, eP hi, Option.bind_some]
    rw [nD (by simp; omega)]
    simp only [Option.bind_some]
    rw [dV (by omega), ih _ (by simp; omega), List.append_assoc, List.singleton_append, ← List.map_cons (f := fun x : aJ => x.Hour), ← List.drop_eq_getElem_cons hi]
  · simp [jN]
end Go.Am
