/- What is defended. -/
import Derived.Test.YtaocljlhapoieaaRkPlain15
namespace Go.Am

section del
theorem aEy (l : List aB) (f : aB → Option Bool) (p : aB → Bool) (h : ∀ x ∈ l, f x = some (p x)) (hb : l.length ≤ 1000000) : gE l f = some (qF p l) := by
  unfold gE
  refine wK (fun k i => eC l f (l.length : Int) k i) l p (fun k i hi => ?_) (fun k => ?_) BIG (dB (by omega))
  · have hlt : decide ((i : Int) < (l.length : Int)) = true := decide_eq_true (by omega)
    simp only [eC, hlt, cond_true, dK hi, Option.bind_some, h _ (List.getElem_mem hi), cE (show i < 9223372036854775807 by omega)]
  · have hlt : decide ((l.length : Int) < (l.length : Int)) = false := decide_eq_false (by omega)
    simp only [eC, hlt, cond_false, jE]
theorem aBx (f : aB → Option Bool) (p : aB → Bool) : ∀ (t W X : List aB) (k : Nat), (∀ x ∈ t, f x = some (p x)) → 0 < X.length → (W ++ X ++ t).length ≤ 1000000 → t.length < k →
    dO f k (W.length : Nat) ((W.length + X.length : Nat) : Int) (W ++ X ++ t) = some (W ++ t.filter fun x => !p x) := by
  intro t
  induction t with
  | nil =>
    intro W X k hf hX hb hk
    obtain ⟨k, rfl⟩ : ∃ q, k = q + 1 := ⟨k - 1, by omega⟩
    simp only [List.length_append, List.length_nil] at hb
    have hlt : decide (((W.length + X.length : Nat) : Int) < ((W ++ X ++ []).length : Int)) = false := decide_eq_false (by simp)
    have t1 : ((W.length : Nat) : Int).toNat = W.length := rfl
    have c1 : (decide ((0 : Int) ≤ (W.length : Int)) && decide ((W.length : Int) ≤ ((W ++ X ++ []).length : Int))) = true := by simp; omega
    have c2 : decide (W.length ≤ (W ++ X ++ []).length) = true := by simp
    have c3 : decide ((0 : Int) ≤ (W.length : Int)) = true := by simp
    simp only [dO, hlt, cond_false, iZ]
    rw [c1, t1, c2, c3]
    simp [chk]
  | cons y t ih =>
    intro W X k hf hX hb hk
    obtain ⟨k, rfl⟩ : ∃ q, k = q + 1 := ⟨k - 1, by omega⟩
    simp only [List.length_append, List.length_cons] at hb hk
    have hlt : decide (((W.length + X.length : Nat) : Int) < ((W ++ X ++ y :: t).length : Int)) = true := decide_eq_true (by simp; omega)
    have i1 : idx (W ++ X ++ y :: t) ((W.length + X.length : Nat) : Int) = some y := iX (by simp)
    have hf1 := hf y (by simp)
    have hf2 : ∀ x ∈ t, f x = some (p x) := fun x hx => hf x (List.mem_cons_of_mem _ hx)
    have t1 : ((W.length : Nat) : Int).toNat = W.length := rfl
    simp only [dO, hlt, cond_true, i1, hf1, Option.bind_some, cE (show W.length + X.length < 9223372036854775807 by omega)]
    cases hp : p y with
    | true =>
      simp only [Bool.not_true, cond_false]
      have := ih W (X ++ [y]) k hf2 (by simp) (by simp; omega) (by omega)
      have e1 : W ++ (X ++ [y]) ++ t = W ++ X ++ y :: t := by simp
      have e2 : W.length + (X ++ [y]).length = W.length + X.length + 1 := by simp; omega
      rw [e1, e2] at this
      rw [this]; simp [hp]
    | false =>
      simp only [Bool.not_false, cond_true]
      match X, hX with
      | x :: X, _ =>
        have i2 : idx (W ++ (x :: X) ++ y :: t) (W.length : Nat) = some x := by
          have : W ++ (x :: X) ++ y :: t = W ++ x :: (X ++ y :: t) := by simp
          rw [this]; exact iX rfl
        have e3 : (W ++ (x :: X) ++ y :: t).set W.length y = (W ++ [y]) ++ (X ++ [y]) ++ t := by
          have : W ++ (x :: X) ++ y :: t = W ++ x :: (X ++ y :: t) := by simp
          rw [this, pZ rfl]; simp
        rw [i2, Option.bind_some, t1, e3, cE (by omega)]
        have := ih (W ++ [y]) (X ++ [y]) k hf2 (by simp) (by simp at hb ⊢; omega) (by omega)
        have e4 : (W ++ [y]).length = W.length + 1 := by simp
        have e5 : (W ++ [y]).length + (X ++ [y]).length = W.length + (x :: X).length + 1 := by simp; omega
        rw [e5, e4] at this
        rw [this]; simp [hp]
theorem aHa (s : List aB) (f : aB → Option Bool) (p : aB → Bool) (h : ∀ x ∈ s, f x = some (p x)) (hb : s.length ≤ 1000000) : eG s f = some (s.filter fun x => !p x) := by
  unfold eG
  rw [aEy s f p h hb, Option.bind_some]
  unfold qF
  by_cases hl : s.findIdx p < s.length
  · rw [if_pos hl, decide_eq_false (by omega), cond_false]
    obtain ⟨i, hi⟩ : ∃ i, i = s.findIdx p := ⟨_, rfl⟩
    rw [← hi] at hl ⊢
    have hno : ∀ x ∈ s.take i, (!p x) = true := fun x hx => by
      obtain ⟨j, hj, rfl⟩ := List.getElem_of_mem hx
      simp only [List.length_take] at hj
      rw [List.getElem_take]
      have := List.not_of_lt_findIdx (p := p) (xs := s) (i := j) (by omega)
      simpa using this
    have hyes : p s[i] = true := by
      have := List.findIdx_getElem (p := p) (xs := s) (w := hi ▸ hl)
      simpa [← hi] using this
    have es : s = s.take i ++ [s[i]] ++ s.drop (i + 1) := by
      rw [List.append_assoc, List.singleton_append, ← List.drop_eq_getElem_cons hl, List.take_append_drop]
    have hloop := aBx f p (s.drop (i + 1)) (s.take i) [s[i]] BIG (fun x hx => h x (List.mem_of_mem_drop hx)) (by simp) (by rw [← es]; omega) (dB (by simp; omega))
    have e1 : (s.take i).length = i := by simp; omega
    rw [e1, ← es] at hloop
    rw [cE (by omega)]
    have e2 : i + [s[i]].length = i + 1 := rfl
    rw [e2] at hloop
    rw [hloop]
    congr 1
    conv => rhs; rw [es]
    rw [List.filter_append, List.filter_append, List.filter_eq_self.2 hno]
    simp [hyes]
  · rw [if_neg hl, decide_eq_true rfl, cond_true]
    congr 1
    symm
    refine List.filter_eq_self.2 fun x hx => ?_
    cases hp : p x with
    | false => rfl
    | true => exact absurd (List.findIdx_lt_length_of_exists ⟨x, hx, hp⟩) hl
end del

/-- The points of a week, less those of the next one without a new report. -/
def uC (l : aS) (z : List aB) (p w : Int) : Int := kM l z p w - kM l (z.filter fun r => decide (r.Week ≤ w)) p (w + 1)
theorem rW {l : aS} {z : List aB} (hz : ∀ x ∈ z, qN l.Players x = true) (hlen : z.length ≤ 1000) (p w : Int) : 0 ≤ kM l z p w ∧ kM l z p w ≤ 2000000 := by
  have h1 := nD (l := iU l.Counts (dS l z p w)) fun r hr => (mV hz r (gR hr)).2
  have h2 : (iU l.Counts (dS l z p w)).length ≤ 1000 := Nat.le_trans (List.length_filter_le _ _) (Nat.le_trans lE hlen)
  unfold kM
  omega
theorem aBm {l : aS} {z : List aB} (h : GL l z) {p w : Int} (ha : uW l p w = true) : mU l p w = some (bif decide (400 ≤ w) then (0, 1) else (uC l z p w, 0)) := by
  have hw := (wC ha).2
  have hlen : z.length ≤ 1000 := Nat.le_trans h.len (by omega)
  unfold mU
  rw [aFm h ha, Option.bind_some]
  have hd : eG z (fun y => lH y w) = some (z.filter fun r => !decide (w < r.Week)) := aHa z _ (fun r => decide (w < r.Week)) (fun _ _ => rfl) (by omega)
  have he : (z.filter fun r => !decide (w < r.Week)) = z.filter fun r => decide (r.Week ≤ w) := List.filter_congr fun r _ => by
    by_cases hr : w < r.Week
    · rw [decide_eq_true hr, decide_eq_false (by omega)]; rfl
    · rw [decide_eq_false hr, decide_eq_true (by omega)]; rfl
  rw [he] at hd
  have hz' : ∀ x ∈ z.filter fun r => decide (r.Week ≤ w), qN l.Players x = true := fun x hx => h.reps x (gR hx)
  have hl' : (z.filter fun r => decide (r.Week ≤ w)).length ≤ 1000 := Nat.le_trans (List.length_filter_le _ _) hlen
  have e1 : w64 (w + 1) = w + 1 := cR (by omega) (by omega)
  simp only [uF, decide_true, Bool.not_true, cond_false]
  by_cases h400 : 400 ≤ w
  · rw [decide_eq_true h400]; rfl
  · rw [decide_eq_false h400, cond_false, cond_false, zM h.rest h.reps h.st hlen hw.1 (by omega), Option.bind_some]
    show (eG z (fun y => lH y w)).bind _ = _
    rw [hd, Option.bind_some, e1]
    have hp2 : gF (gC l (z.filter fun r => decide (r.Week ≤ w))) p (w + 1) = some (kM l (z.filter fun r => decide (r.Week ≤ w)) p (w + 1)) := zM h.rest hz' (h.st.sublist List.filter_sublist) hl' (by omega) (by omega)
    show (gF (gC l (z.filter fun r => decide (r.Week ≤ w))) p (w + 1)).bind _ = _
    rw [hp2, Option.bind_some]
    have r1 := rW (l := l) h.reps hlen p w
    have r2 := rW (l := l) hz' hl' p (w + 1)
    unfold uC
    rw [cR (by omega) (by omega)]
end Go.Am
