/- Entry, plainly: the notices in order, each once. -/
import Derived.Test.YtfdappeickbpeaaGreatEnPlain1
namespace Go.Am

/-- The order in which notices are taken. -/
def iE (x : aJ) : Int := x.Hour * 1000 + x.Id
section
variable {α : Type}
theorem qA {A : List α} {x : α} {B : List α} {p : Int} (h : p = (A.length : Int)) : idx (A ++ x :: B) p = some x := by
  subst h; rw [eP (by simp)]; simp
theorem aJj {A : List α} {x y : α} {B : List α} {p : Nat} (h : p = A.length) : (A ++ x :: B).set p y = A ++ y :: B := by
  subst h; simp
theorem uR {A : List α} {x y : α} {B : List α} {p : Int} (h : p = ((A.length + 1 : Nat) : Int)) : idx (A ++ x :: y :: B) p = some y := by
  have : A ++ x :: y :: B = (A ++ [x]) ++ y :: B := by simp
  rw [this, qA (by simp [h])]
end
/-- What is left of a row when equal neighbours are one. -/
def mW (p : aJ) : List aJ → List aJ
  | [] => []
  | y :: t => if y = p then mW p t else y :: mW y t
def nE : List aJ → List aJ
  | [] => []
  | x :: t => x :: mW x t
theorem aEw (again : Int → List aJ → Option (List aJ)) {k0 : Nat} : ∀ (t : List aJ) (p : aJ) (W X : List aJ) (k2 k : Nat), 1 ≤ k2 → W.length + X.length + 1 = k0 + k2 → k0 ≤ W.length → (W ++ X ++ p :: t).length < 4611686018427387904 → t.length < k →
    cU again (k0 : Nat) k (W.length : Nat) (k2 : Nat) (W ++ X ++ p :: t) = some (W ++ mW p t) := by
  intro t
  induction t with
  | nil =>
    intro p W X k2 k h1 h2 h3 hb hk
    obtain ⟨k, rfl⟩ : ∃ q, k = q + 1 := ⟨k - 1, by omega⟩
    simp only [List.length_append, List.length_cons, List.length_nil] at hb
    have t0 : ((k0 : Nat) : Int).toNat = k0 := rfl
    have t1 : ((W.length : Nat) : Int).toNat = W.length := rfl
    have hlt : decide ((k2 : Int) < (((W ++ X ++ [p]).drop k0).length : Int)) = false := decide_eq_false (by simp; omega)
    have c1 : (decide ((0 : Int) ≤ (W.length : Int)) && decide ((W.length : Int) ≤ ((W ++ X ++ [p]).length : Int))) = true := by simp; omega
    have c2 : decide (W.length ≤ (W ++ X ++ [p]).length) = true := by simp
    have c3 : decide ((0 : Int) ≤ (W.length : Int)) = true := by simp
    simp only [cU, t0, hlt, cond_false, iY]
    rw [c1, t1, c2, c3]
    simp [chk, mW]
  | cons y t ih =>
    intro p W X k2 k h1 h2 h3 hb hk
    obtain ⟨k, rfl⟩ : ∃ q, k = q + 1 := ⟨k - 1, by omega⟩
    simp only [List.length_append, List.length_cons] at hb hk
    have t0 : ((k0 : Nat) : Int).toNat = k0 := rfl
    have t1 : ((W.length : Nat) : Int).toNat = W.length := rfl
    have hlt : decide ((k2 : Int) < (((W ++ X ++ p :: y :: t).drop k0).length : Int)) = true := decide_eq_true (by simp; omega)
    have ed : (W ++ X ++ p :: y :: t).drop k0 = (W ++ X).drop k0 ++ p :: y :: t := by rw [List.drop_append_of_le_length (by simp; omega)]
    have hdl : ((W ++ X).drop k0).length = k2 - 1 := by simp; omega
    have i1 : idx ((W ++ X ++ p :: y :: t).drop k0) (k2 : Nat) = some y := by rw [ed]; exact uR (by rw [hdl]; omega)
    have i2 : idx ((W ++ X ++ p :: y :: t).drop k0) (w64 ((k2 : Int) - 1)) = some p := by rw [aDo (by omega) (by omega), ed]; exact qA (by rw [hdl])
    simp only [cU, t0, hlt, cond_true, i1, i2, Option.bind_some, dV (show k2 < 9223372036854775807 by omega)]
    by_cases hyp : y = p
    · subst hyp
      have := ih y W (X ++ [y]) (k2 + 1) k (by omega) (by simp; omega) h3 (by simp only [List.length_append, List.length_cons, List.length_nil]; omega) (by omega)
      have e1 : W ++ (X ++ [y]) ++ y :: t = W ++ X ++ y :: y :: t := by simp
      rw [e1] at this
      rw [decide_eq_true rfl, Bool.not_true, cond_false, this]
      simp [mW]
    · have hd : (!decide (y = p)) = true := by rw [decide_eq_false hyp]; rfl
      have i3 : ∃ z, idx (W ++ X ++ p :: y :: t) (W.length : Nat) = some z := ⟨_, eP (by simp; omega)⟩
      obtain ⟨z, i3⟩ := i3
      rw [hd, cond_true, i3, Option.bind_some, t1, dV (by omega)]
      obtain ⟨X', e2⟩ : ∃ X', (W ++ X ++ p :: y :: t).set W.length y = (W ++ [y]) ++ X' ++ y :: t ∧ X'.length = X.length := by
        cases X with
        | nil => exact ⟨[], by simp, rfl⟩
        | cons x X => exact ⟨X ++ [p], by simp, by simp⟩
      rw [e2.1]
      have := ih y (W ++ [y]) X' (k2 + 1) k (by omega) (by rw [List.length_append, e2.2]; simp; omega) (by simp; omega) (by simp only [List.length_append, List.length_cons, List.length_nil, e2.2]; omega) (by omega)
      have e3 : (W ++ [y]).length = W.length + 1 := by simp
      rw [e3] at this
      rw [this]
      simp [mW, hyp]
theorem aBx (s : List aJ) (hb : s.length < 4611686018427387904) : eQ s = some (nE s) := by
  have main : ∀ (t A : List aJ) (p : aJ) (k : Nat), t.length < k → (A ++ p :: t).length < 4611686018427387904 → cH k ((A.length + 1 : Nat) : Int) (A ++ p :: t) = some (A ++ p :: mW p t) := by
    intro t
    induction t with
    | nil =>
      intro A p k hk hb
      obtain ⟨k, rfl⟩ : ∃ q, k = q + 1 := ⟨k - 1, by omega⟩
      have hlt : decide (((A.length + 1 : Nat) : Int) < ((A ++ [p]).length : Int)) = false := decide_eq_false (by simp)
      simp only [cH, hlt, cond_false, iW, mW]
    | cons y t ih =>
      intro A p k hk hb
      obtain ⟨k, rfl⟩ : ∃ q, k = q + 1 := ⟨k - 1, by omega⟩
      simp only [List.length_append, List.length_cons] at hb hk
      have hlt : decide (((A.length + 1 : Nat) : Int) < ((A ++ p :: y :: t).length : Int)) = true := decide_eq_true (by simp; omega)
      have i2 : w64 (((A.length + 1 : Nat) : Int) - 1) = (A.length : Int) := by rw [gV (by omega) (by omega)]; omega
      simp only [cH, hlt, cond_true, uR rfl, i2, qA rfl, Option.bind_some]
      by_cases hyp : y = p
      · subst hyp
        have c1 : (decide ((0 : Int) ≤ ((A.length + 1 : Nat) : Int)) && decide (((A.length + 1 : Nat) : Int) ≤ ((A ++ y :: y :: t).length : Int))) = true := by simp; omega
        rw [decide_eq_true rfl, cond_true, c1]
        simp only [chk, cond_true, Option.bind_some]
        have := aEw (cH k) (k0 := A.length + 1) t y (A ++ [y]) [] 1 BIG (Nat.le_refl _) (by simp) (by simp) (by simp only [List.length_append, List.length_cons, List.length_nil]; omega) (gG (by omega))
        have e3 : (A ++ [y]).length = A.length + 1 := by simp
        have e4 : A ++ [y] ++ [] ++ y :: t = A ++ y :: y :: t := by simp
        rw [e3, e4] at this
        have e5 : ((1 : Nat) : Int) = 1 := rfl
        rw [e5] at this
        rw [this]
        simp [mW]
      · rw [decide_eq_false hyp, cond_false]
        unfold iX
        rw [dV (by omega)]
        have := ih (A ++ [p]) y k (by omega) (by simp only [List.length_append, List.length_cons, List.length_nil]; omega)
        have e3 : (A ++ [p]).length = A.length + 1 := by simp
        have e4 : A ++ [p] ++ y :: t = A ++ p :: y :: t := by simp
        rw [e3, e4] at this
        rw [this]
        simp [mW, hyp]
  unfold eQ
  match s, hb with
  | [], _ => simp [nE]
  | x :: t, hb =>
    by_cases ht : t = []
    · subst ht; simp [nE, mW]
    · have hl : 0 < t.length := List.length_pos_iff.2 ht
      have hd : decide (((x :: t).length : Int) < 2) = false := decide_eq_false (by simp; omega)
      rw [hd, cond_false]
      have := main t [] x BIG (gG (by simp at hb; omega)) (by simpa using hb)
      simp only [List.length_nil, List.nil_append, Nat.zero_add] at this
      have e5 : ((1 : Nat) : Int) = 1 := rfl
      rw [e5] at this
      rw [this]; rfl
theorem aHs (p x : aJ) (t : List aJ) : (x = p ∨ x ∈ mW p t) ↔ (x = p ∨ x ∈ t) := by
  induction t generalizing p with
  | nil => rfl
  | cons y t ih =>
    simp only [mW, List.mem_cons]
    by_cases h : y = p
    · subst h
      rw [if_pos rfl]
      have := ih y
      constructor
      · rintro (h | h)
        · exact .inl h
        · rcases this.1 (.inr h) with h | h
          · exact .inl h
          · exact .inr (.inr h)
      · rintro (h | h | h)
        · exact .inl h
        · exact .inl h
        · exact this.2 (.inr h)
    · rw [if_neg h, List.mem_cons]
      have := ih y
      constructor
      · rintro (h | h)
        · exact .inl h
        · exact .inr (this.1 h)
      · rintro (h | h)
        · exact .inl h
        · exact .inr (this.2 h)
theorem aDr (x : aJ) (s : List aJ) : x ∈ nE s ↔ x ∈ s := by
  cases s with
  | nil => rfl
  | cons p t => simp only [nE, List.mem_cons]; exact aHs p x t
theorem aHt (p : aJ) (t : List aJ) : (mW p t).Sublist t := by
  induction t generalizing p with
  | nil => exact .slnil
  | cons y t ih =>
    simp only [mW]
    split
    · exact (ih p).cons _
    · exact (ih y).cons_cons _
/-- In a weakly ordered row without a clash, what is left is strictly ordered. -/
theorem aDu (p : aJ) (t : List aJ) (hs : (p :: t).Pairwise fun x y => iE x ≤ iE y) (hcl : ∀ x ∈ p :: t, ∀ y ∈ p :: t, iE x = iE y → x = y) : (p :: mW p t).Pairwise fun x y => iE x < iE y := by
  induction t generalizing p with
  | nil => exact List.pairwise_singleton _ _
  | cons y t ih =>
    have h1 := List.pairwise_cons.1 hs
    have h2 := List.pairwise_cons.1 h1.2
    simp only [mW]
    by_cases h : y = p
    · subst h
      rw [if_pos rfl]
      exact ih y h1.2 (fun a ha b hb => hcl a (List.mem_cons_of_mem _ ha) b (List.mem_cons_of_mem _ hb))
    · rw [if_neg h]
      have h3 := ih y h1.2 (fun a ha b hb => hcl a (List.mem_cons_of_mem _ ha) b (List.mem_cons_of_mem _ hb))
      refine List.pairwise_cons.2 ⟨fun z hz => ?_, h3⟩
      have hpy : iE p < iE y := by
        have := h1.1 y (by simp)
        rcases Int.lt_or_eq_of_le this with h4 | h4
        · exact h4
        · exact absurd (hcl p (by simp) y (by simp) h4).symm h
      rcases List.mem_cons.1 hz with rfl | hz
      · exact hpy
      · exact Int.lt_trans hpy ((List.pairwise_cons.1 h3).1 z hz)
theorem mK {α : Type} {key : α → Int} : ∀ {xs ys : List α}, xs.Pairwise (fun x y => key x < key y) → ys.Pairwise (fun x y => key x < key y) → (∀ x, x ∈ xs ↔ x ∈ ys) → xs = ys
  | [], [], _, _, _ => rfl
  | [], y :: ys, _, _, h => by have := (h y).2 (by simp); simp at this
  | x :: xs, [], _, _, h => by have := (h x).1 (by simp); simp at this
  | x :: xs, y :: ys, h1, h2, h => by
    have a1 := List.pairwise_cons.1 h1
    have a2 := List.pairwise_cons.1 h2
    have hxy : x = y := by
      rcases List.mem_cons.1 ((h x).1 (by simp)) with e | e
      · exact e
      · rcases List.mem_cons.1 ((h y).2 (by simp)) with e2 | e2
        · exact e2.symm
        · have := a2.1 x e; have := a1.1 y e2; omega
    subst hxy
    have := mK a1.2 a2.2 fun z => by
      have hz := h z
      simp only [List.mem_cons] at hz
      constructor
      · intro hm
        rcases hz.1 (.inr hm) with e | e
        · have := a1.1 z hm; rw [e] at this; omega
        · exact e
      · intro hm
        rcases hz.2 (.inr hm) with e | e
        · have := a2.1 z hm; rw [e] at this; omega
        · exact e
    rw [this]


theorem aEv (l : List aJ) (hb : l.length ≤ 60) : fV l = some l := by
  have key := oT (cF (fun (s3 : List aJ) x4 => (app 40 s3 ([x4])).bind fun x6 => some (x6, true)) l (l.length : Int)) l.length (fun i s => some (s ++ l.drop i, true)) (fun i s => s.length = i) (fun k i s hi hI ih => ?_) (fun k s hI => ?_) BIG [] (gG (by omega)) rfl
  · unfold fV gO eD
    rw [key]
    simp
  · simp only [cF, show decide ((i : Int) < (l.length : Int)) = true by simpa using hi, cond_true, eP hi, Option.bind_some]
    rw [nD (by simp; omega)]
    simp only [Option.bind_some, Bool.not_true, cond_false]
    rw [dV (by omega), ih _ (by simp; omega)]
    rw [List.append_assoc, List.singleton_append, ← List.drop_eq_getElem_cons hi]
  · simp [cF, fL]
theorem or2 (a b : Int) : lA [a, b] = some (if a ≠ 0 then a else b) := by
  unfold lA
  obtain ⟨k, hk⟩ : ∃ k, BIG = k + 1 + 1 + 1 := ⟨BIG - 3, by unfold BIG; omega⟩
  rw [show ((([a, b] : List Int).length : Nat) : Int) = 2 from rfl, hk]
  simp only [kY, oD, show decide ((0 : Int) < 2) = true from rfl, cond_true, show idx [a, b] 0 = some a from rfl, Option.bind_some, show w64 (0 + 1) = 1 from rfl, show decide ((1 : Int) < 2) = true from rfl, show idx [a, b] 1 = some b from rfl, show w64 (1 + 1) = 2 from rfl, show decide ((2 : Int) < 2) = false from rfl, cond_false]
  by_cases h : a = 0
  · subst h
    by_cases h2 : b = 0
    · subst h2; simp
    · simp [h2]
  · simp [h]
/-- Whose number and hour are within their bounds. -/
def bN (x : aJ) : Prop := 0 ≤ x.Id ∧ x.Id ≤ 999 ∧ 0 ≤ x.Hour ∧ x.Hour ≤ 9999
theorem aBk {x : aJ} (h : kV x = true) : bN x := by
  unfold kV at h
  simp only [Bool.and_eq_true, zK] at h
  exact ⟨h.1.1.1.1, h.1.1.1.2, h.1.2.1, h.1.2.2⟩
theorem aJv {x y : aJ} (hx : bN x) (hy : bN y) : ∃ r, dH x y = some r ∧ (r < 0 ↔ iE x < iE y) := by
  obtain ⟨a1, a2, a3, a4⟩ := hx
  obtain ⟨b1, b2, b3, b4⟩ := hy
  unfold dH
  rw [gV (by omega) (by omega), gV (by omega) (by omega), or2]
  refine ⟨_, rfl, ?_⟩
  unfold iE
  split <;> constructor <;> intro h <;> omega
theorem ltN {x y : aJ} (hx : bN x) (hy : bN y) : ltO (fun a b => dH a b) x y = decide (iE x < iE y) := by
  obtain ⟨r, h1, h2⟩ := aJv hx hy
  unfold ltO
  simp only [h1]
  rw [Bool.eq_iff_iff]
  simpa using h2
theorem aCj {x y : aJ} (hx : bN x) (hy : bN y) (h : iE x = iE y) : x.Id = y.Id := by
  obtain ⟨a1, a2, a3, a4⟩ := hx
  obtain ⟨b1, b2, b3, b4⟩ := hy
  unfold iE at h
  omega
theorem aEk {l : List aJ} (hb : ∀ x ∈ l, bN x) (hid : ∀ x ∈ l, ∀ y ∈ l, x.Id = y.Id → x = y) : oJ l (fun a b => dH a b) = true := by
  unfold oJ
  simp only [List.all_eq_true, Bool.and_eq_true, Bool.or_eq_true, Bool.not_eq_true', decide_eq_true_eq]
  intro x hx
  refine ⟨by rw [ltN (hb x hx) (hb x hx)]; simp, fun y hy => ⟨⟨?_, ?_⟩, fun z hz => ⟨?_, ?_⟩⟩⟩
  · obtain ⟨r, h1, _⟩ := aJv (hb x hx) (hb y hy)
    simp [h1]
  · rw [ltN (hb x hx) (hb y hy), ltN (hb y hy) (hb x hx)]
    simp only [decide_eq_true_eq]
    rcases Int.lt_trichotomy (iE x) (iE y) with h | h | h
    · exact .inl (.inr h)
    · exact .inl (.inl (hid x hx y hy (aCj (hb x hx) (hb y hy) h)))
    · exact .inr h
  · rw [ltN (hb x hx) (hb y hy), ltN (hb y hy) (hb z hz), ltN (hb x hx) (hb z hz)]
    simp only [Bool.and_eq_false_iff, decide_eq_false_iff_not, decide_eq_true_eq]
    omega
  · rw [ltN (hb x hx) (hb y hy), ltN (hb y hy) (hb z hz), ltN (hb x hx) (hb z hz)]
    simp only [decide_eq_false_iff_not, decide_eq_true_eq]
    omega
def jV (l : List aJ) : List aJ := nE (dA (fun a b => dH a b) l)
theorem aJw {l : List aJ} (hlen : l.length ≤ 60) (hb : ∀ x ∈ l, bN x) (hid : ∀ x ∈ l, ∀ y ∈ l, x.Id = y.Id → x = y) :
    eZ l (fun y5 y6 => dH y5 y6) = some (dA (fun a b => dH a b) l) ∧ eQ (dA (fun a b => dH a b) l) = some (jV l) := by
  have hl : (dA (fun a b => dH a b) l).length = l.length := (gU _ l).length_eq
  refine ⟨?_, aBx _ (by omega)⟩
  unfold eZ jQ
  rw [aEv l hlen]
  simp only [Option.bind_some]
  unfold oL
  rw [if_pos ⟨aEk hb hid, by omega⟩]
  rfl
theorem lF {l : List aJ} (x : aJ) : x ∈ jV l ↔ x ∈ l := by
  unfold jV
  rw [aDr]
  exact (gU _ l).mem_iff
theorem kZ {l : List aJ} (hb : ∀ x ∈ l, bN x) (hid : ∀ x ∈ l, ∀ y ∈ l, x.Id = y.Id → x = y) : (jV l).Pairwise fun x y => iE x < iE y := by
  have hs := oK (aEk hb hid)
  have hm : ∀ x, x ∈ dA (fun a b => dH a b) l ↔ x ∈ l := fun x => (gU _ l).mem_iff
  unfold jV
  generalize hz : dA (fun a b => dH a b) l = z at hs hm
  have hs' : z.Pairwise fun x y => iE x ≤ iE y := by
    refine List.Pairwise.imp_of_mem (fun {x y} hx hy h => ?_) hs
    rw [ltN (hb y ((hm y).1 hy)) (hb x ((hm x).1 hx))] at h
    simp at h
    omega
  cases z with
  | nil => exact .nil
  | cons p t => exact aDu p t hs' fun x hx y hy h => hid x ((hm x).1 hx) y ((hm y).1 hy) (aCj (hb x ((hm x).1 hx)) (hb y ((hm y).1 hy)) h)
end Go.Am
