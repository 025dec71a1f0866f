/- Plain laws, one behind the other. -/
import Derived.Test.YtaocljlhapoieaaRkPlain13
import Derived.Test.YtaocljlhapoieaaRkSh
import Derived.KernelRfl
section
namespace Go.Am

/-- Sizes that any statement looks at. -/
def Bd (l : aN) : Prop := l.Reports.length ≤ 1000 ∧ l.Bans.length ≤ 1000 ∧ l.Frozen.length ≤ 1000
def qK (l : aN) (p w : Int) : Bool := inB p 0 (l.Players - 1) && inB w 0 400
/-- The error of a question. -/
def jL (l : aN) (p w : Int) : Int := bif decide (kH l = 0) then (bif qK l p w then 0 else 1) else kH l
theorem GL.bd {l : aN} {z : List aE} (h : GL l z) : Bd l := by have := kJ h.led; unfold Bd; omega
theorem GL.players {l : aN} {z : List aE} (h : GL l z) : 1 ≤ l.Players ∧ l.Players ≤ 16 := (kJ h.led).1
theorem aIb {l : aN} {p w : Int} (h : jL l p w = 0) : kH l = 0 ∧ qK l p w = true := by
  unfold jL at h
  by_cases hc : kH l = 0
  · rw [decide_eq_true hc, cond_true] at h
    refine ⟨hc, ?_⟩
    cases hb : qK l p w with
    | true => rfl
    | false => rw [hb] at h; simp at h
  · rw [decide_eq_false hc, cond_false] at h
    exact absurd h hc
theorem aAv {l : aN} {z : List aE} (h : GL l z) {p w : Int} (hp : 0 ≤ p ∧ p < l.Players) (hw : 0 ≤ w ∧ w ≤ 400) : jL l p w = 0 := by
  unfold jL qK inB
  rw [decide_eq_true (aDm h), cond_true, decide_eq_true hp.1, decide_eq_true (show p ≤ l.Players - 1 by omega), decide_eq_true hw.1, decide_eq_true hw.2]; rfl
theorem pE {l : aN} {p w : Int} (h : qK l p w = true) : (0 ≤ p ∧ p < l.Players) ∧ (0 ≤ w ∧ w ≤ 400) := by
  unfold qK inB at h
  simp only [Bool.and_eq_true, decide_eq_true_eq] at h
  omega
theorem aHr {l : aN} {z : List aE} (h : GL l z) : qS l = some (some (eS l z), 0) := by
  obtain ⟨h1, h2, h3⟩ := h.bd
  unfold qS
  rw [aHp l (by omega) (by omega) (by omega), Option.bind_some, aDm h, h.once]; rfl
theorem aKu {l : aN} (hb : Bd l) (h : kH l ≠ 0) : qS l = some (none, kH l) := by
  obtain ⟨h1, h2, h3⟩ := hb
  unfold qS
  rw [aHp l (by omega) (by omega) (by omega), Option.bind_some, decide_eq_false h]; rfl
theorem aDd {l : aN} {z : List aE} (h : GL l z) {p w : Int} (ha : qK l p w = true) : nJ l p w = some (some (eS l z), 0) := by
  have hP := h.players
  unfold nJ
  rw [aHr h, Option.bind_some]
  have e1 : w64 (l.Players - 1) = l.Players - 1 := cO (by omega) (by omega)
  have e2 : (!(decide (0 ≤ p) && decide (p ≤ l.Players - 1)) || !(decide (0 ≤ w) && decide (w ≤ 400))) = false := by
    have := pE ha
    rw [Bool.or_eq_false_iff]
    simp; omega
  simp only [pI, e1, tL, Option.bind_some, gC, e2, cond_false]
  rfl
theorem aDe {l : aN} (hb : Bd l) {p w : Int} (h : jL l p w ≠ 0) : nJ l p w = some (none, jL l p w) := by
  unfold nJ
  by_cases hc : kH l = 0
  · obtain ⟨z, hz⟩ := aGm hc
    have hP := hz.players
    have ha : qK l p w = false := by
      rw [Bool.eq_false_iff]; intro hn
      apply h; unfold jL; rw [hc, hn]; rfl
    rw [aHr hz, Option.bind_some]
    have e1 : w64 (l.Players - 1) = l.Players - 1 := cO (by omega) (by omega)
    have e2 : (!(decide (0 ≤ p) && decide (p ≤ l.Players - 1)) || !(decide (0 ≤ w) && decide (w ≤ 400))) = true := by
      have : (decide (0 ≤ p) && decide (p ≤ l.Players - 1) && (decide (0 ≤ w) && decide (w ≤ 400))) = false := ha
      revert this
      cases (decide (0 ≤ p) && decide (p ≤ l.Players - 1)) <;> cases (decide (0 ≤ w) && decide (w ≤ 400)) <;> simp
    have e3 : jL l p w = 1 := by unfold jL; rw [hc, ha]; rfl
    simp only [pI, e1, tL, Option.bind_some, gC, e2, cond_true, e3]
    rfl
  · have e3 : jL l p w = kH l := by unfold jL; rw [decide_eq_false hc]; rfl
    rw [aKu hb hc, Option.bind_some, e3]
    simp only [pI, decide_eq_false hc, Bool.not_false, cond_true]
theorem yI {l : aN} (hb : Bd l) (p w : Int) : gS l p w = some (jL l p w) := by
  obtain ⟨h1, h2, h3⟩ := hb
  unfold gS jL
  rw [aDr l (by omega) (by omega) (by omega), Option.bind_some]
  by_cases hc : kH l = 0
  · obtain ⟨z, hz⟩ := aGm hc
    have hP := hz.players
    have e1 : w64 (l.Players - 1) = l.Players - 1 := cO (by omega) (by omega)
    rw [hc]
    simp only [e1, uU, Option.bind_some, gC, decide_true, Bool.not_true, cond_false, cond_true]
    unfold qK inB
    cases (decide (0 ≤ p) && decide (p ≤ l.Players - 1)) <;> cases (decide (0 ≤ w) && decide (w ≤ 400)) <;> rfl
  · rw [decide_eq_false hc]; rfl

/-- What the functions answer. -/
theorem aHt {l : aN} {z : List aE} (h : GL l z) (hP : l.Players ≤ 12) {w : Int} (hw : 0 ≤ w ∧ w ≤ 400) : nZ l w = some (iV l z w, 0) := by
  have hp := h.players
  unfold nZ
  rw [aDd h (by unfold qK inB; simp; omega), Option.bind_some]
  simp only [pI, decide_true, Bool.not_true, cond_false, (h.list hw.1 (by omega) hP).1, Option.bind_some]
theorem aHu {l : aN} (hb : Bd l) {w : Int} (h : jL l 0 w ≠ 0) : nZ l w = some ([], jL l 0 w) := by
  unfold nZ
  rw [aDe hb h, Option.bind_some]
  simp only [pI, decide_eq_false h, Bool.not_false, cond_true]
theorem aKl {l : aN} {z : List aE} (h : GL l z) (hP : l.Players ≤ 12) {w : Int} (hw : 0 ≤ w ∧ w ≤ 400) : jZ l w = some (iV l z w, 0) := by
  have hp := h.players
  unfold jZ
  rw [yI h.bd, Option.bind_some, aAv h ⟨by omega, by omega⟩ hw]
  simp only [decide_true, Bool.not_true, cond_false, (h.list hw.1 (by omega) hP).2.2, Option.bind_some]
theorem aKm {l : aN} (hb : Bd l) {w : Int} (h : jL l 0 w ≠ 0) : jZ l w = some ([], jL l 0 w) := by
  unfold jZ
  rw [yI hb, Option.bind_some, decide_eq_false h]; rfl
def aBj (n : Int) : Int × Int := bif decide (n = 0) then (0, 3) else (n, 0)
theorem aGs {l : aN} {z : List aE} (h : GL l z) (hP : l.Players ≤ 12) {p w : Int} (ha : qK l p w = true) : oA l p w = some (aBj (kK (iV l z w) p)) := by
  have hw := (pE ha).2
  unfold oA aBj
  rw [aDd h ha, Option.bind_some]
  simp only [pI, decide_true, Bool.not_true, cond_false, aFy h.rest h.reps h.st (Nat.le_trans h.len (by omega)) hw.1 (by omega) hP, Option.bind_some]
  cases decide (kK (iV l z w) p = 0) <;> rfl
theorem aGt {l : aN} (hb : Bd l) {p w : Int} (h : jL l p w ≠ 0) : oA l p w = some (0, jL l p w) := by
  unfold oA
  rw [aDe hb h, Option.bind_some]
  simp only [pI, decide_eq_false h, Bool.not_false, cond_true]
theorem aJk {l : aN} {z : List aE} (h : GL l z) (hP : l.Players ≤ 12) {p w : Int} (ha : qK l p w = true) : iY l p w = some (aBj (kK (iV l z w) p)) := by
  have hw := pE ha
  unfold iY aBj
  rw [yI h.bd, Option.bind_some, aAv h hw.1 hw.2]
  simp only [decide_true, Bool.not_true, cond_false, aHe h hw.2.1 (by omega) hP, Option.bind_some]
  cases decide (kK (iV l z w) p = 0) <;> rfl
theorem aJl {l : aN} (hb : Bd l) {p w : Int} (h : jL l p w ≠ 0) : iY l p w = some (0, jL l p w) := by
  unfold iY
  rw [yI hb, Option.bind_some, decide_eq_false h]; rfl
theorem aFp {l : aN} (hb : Bd l) : mF l = some l := by
  obtain ⟨h1, h2, h3⟩ := hb
  unfold mF
  rw [kG (by simp; omega), Option.bind_some, kG (by simp; omega), Option.bind_some, kG (by simp; omega), Option.bind_some]
  simp
/-- What is too far for a statement. -/
theorem aHg {l : aN} (h : gX l = some false) : (l.Reports.length ≤ 60 ∧ l.Bans.length ≤ 20 ∧ l.Frozen.length ≤ 20) ∧ (kH l = 0 → l.Players ≤ 5 ∧ l.Reports.length ≤ 10 ∧ ∀ r ∈ l.Reports, r.Week ≤ 150) := by
  unfold gX at h
  rw [gC, Option.bind_some, gC, Option.bind_some] at h
  cases hf : (decide (60 < (l.Reports.length : Int)) || decide (20 < (l.Bans.length : Int)) || decide (20 < (l.Frozen.length : Int))) with
  | true => rw [hf] at h; simp at h
  | false =>
    simp only [Bool.or_eq_false_iff, decide_eq_false_iff_not] at hf
    refine ⟨by omega, fun hc => ?_⟩
    have hf' : (decide (60 < (l.Reports.length : Int)) || decide (20 < (l.Bans.length : Int)) || decide (20 < (l.Frozen.length : Int))) = false := by simp only [Bool.or_eq_false_iff, decide_eq_false_iff_not]; omega
    rw [hf', cond_false, aDr l (by omega) (by omega) (by omega), Option.bind_some, hc] at h
    simp only [decide_true, Bool.not_true, cond_false] at h
    have main := mN (fun k i => gD l k i) l.Reports.length (fun i => !(fun r : aE => decide (150 < r.Week)) (l.Reports.getD i default)) (some true) (lG l) (fun k i hi => by
      have hlt : decide ((i : Int) < (l.Reports.length : Int)) = true := decide_eq_true (by omega)
      have ei : l.Reports.getD i default = l.Reports[i] := by simp [List.getD, List.getElem?_eq_getElem hi]
      simp only [gD, hlt, cond_true, dG hi, Option.bind_some, cK (show i < 9223372036854775807 by omega), ei]
      cases decide (150 < l.Reports[i].Week) <;> rfl) (fun k => by
      have hlt : decide ((l.Reports.length : Int) < (l.Reports.length : Int)) = false := decide_eq_false (by omega)
      simp only [gD, hlt, cond_false]) BIG (cY (by omega))
    rw [main, aCe l.Reports (fun r : aE => decide (150 < r.Week))] at h
    cases hw : l.Reports.any fun r => decide (150 < r.Week) with
    | true => rw [hw] at h; simp at h
    | false =>
      rw [hw] at h
      unfold lG at h
      simp only [Bool.not_false, cond_true, gC, Option.bind_some, Option.some.injEq, Bool.or_eq_false_iff, decide_eq_false_iff_not] at h
      refine ⟨by omega, by omega, fun r hr => ?_⟩
      have := List.any_eq_false.1 hw r hr
      simp only [decide_eq_true_eq] at this
      omega
theorem aId (l : aN) (hb : l.Reports.length ≤ 140737488355328 ∧ l.Bans.length ≤ 140737488355328 ∧ l.Frozen.length ≤ 140737488355328) : ∃ b, gX l = some b := by
  unfold gX
  rw [gC, Option.bind_some, gC, Option.bind_some]
  cases hf : (decide (60 < (l.Reports.length : Int)) || decide (20 < (l.Bans.length : Int)) || decide (20 < (l.Frozen.length : Int))) with
  | true => exact ⟨true, rfl⟩
  | false =>
    simp only [Bool.or_eq_false_iff, decide_eq_false_iff_not] at hf
    rw [cond_false, aDr l (by omega) (by omega) (by omega), Option.bind_some]
    cases (!decide (kH l = 0)) with
    | true => exact ⟨false, rfl⟩
    | false =>
      rw [cond_false]
      have main := mN (fun k i => gD l k i) l.Reports.length (fun i => !(fun r : aE => decide (150 < r.Week)) (l.Reports.getD i default)) (some true) (lG l) (fun k i hi => by
        have hlt : decide ((i : Int) < (l.Reports.length : Int)) = true := decide_eq_true (by omega)
        have ei : l.Reports.getD i default = l.Reports[i] := by simp [List.getD, List.getElem?_eq_getElem hi]
        simp only [gD, hlt, cond_true, dG hi, Option.bind_some, cK (show i < 9223372036854775807 by omega), ei]
        cases decide (150 < l.Reports[i].Week) <;> rfl) (fun k => by
        have hlt : decide ((l.Reports.length : Int) < (l.Reports.length : Int)) = false := decide_eq_false (by omega)
        simp only [gD, hlt, cond_false]) BIG (cY (by omega))
      rw [main]
      unfold lG
      rw [gC, Option.bind_some]
      cases (List.range l.Reports.length).all fun i => !(fun r : aE => decide (150 < r.Week)) (l.Reports.getD i default)
      · exact ⟨_, rfl⟩
      · exact ⟨_, rfl⟩
theorem aJt (w : Int) : nV w = some (decide (250 < w) && decide (w ≤ 400)) := by unfold nV; rw [gW, Option.bind_some]
end Go.Am

end
section
namespace Go.Am

end Go.Am

end
section
namespace Go.Am

section del
theorem aIg (l : List aE) (f : aE → Option Bool) (p : aE → Bool) (h : ∀ x ∈ l, f x = some (p x)) (hb : l.length ≤ 1000000) : iA l f = some (nX p l) := by
  unfold iA
  refine vT (fun k i => eQ l f (l.length : Int) k i) l p (fun k i hi => ?_) (fun k => ?_) BIG (cY (by omega))
  · have hlt : decide ((i : Int) < (l.length : Int)) = true := decide_eq_true (by omega)
    simp only [eQ, hlt, cond_true, dG hi, Option.bind_some, h _ (List.getElem_mem hi), cK (show i < 9223372036854775807 by omega)]
  · have hlt : decide ((l.length : Int) < (l.length : Int)) = false := decide_eq_false (by omega)
    simp only [eQ, hlt, cond_false, lE]
theorem aEt (f : aE → Option Bool) (p : aE → Bool) : ∀ (t W X : List aE) (k : Nat), (∀ x ∈ t, f x = some (p x)) → 0 < X.length → (W ++ X ++ t).length ≤ 1000000 → t.length < k →
    dX f k (W.length : Nat) ((W.length + X.length : Nat) : Int) (W ++ X ++ t) = some (W ++ t.filter fun x => !p x) := by
  intro t
  induction t with
  | nil =>
    intro W X k hf hX hb hk
    obtain ⟨k, rfl⟩ : ∃ q, k = q + 1 := ⟨k - 1, by omega⟩
    simp only [List.length_append, List.length_nil] at hb
    have hlt : decide (((W.length + X.length : Nat) : Int) < ((W ++ X ++ []).length : Int)) = false := decide_eq_false (by simp)
    have t1 : ((W.length : Nat) : Int).toNat = W.length := rfl
    have c1 : (decide ((0 : Int) ≤ (W.length : Int)) && decide ((W.length : Int) ≤ ((W ++ X ++ []).length : Int))) = true := by simp; omega
    have c2 : decide (W.length ≤ (W ++ X ++ []).length) = true := by simp
    have c3 : decide ((0 : Int) ≤ (W.length : Int)) = true := by simp
    simp only [dX, hlt, cond_false, kU]
    rw [c1, t1, c2, c3]
    simp [chk]
  | cons y t ih =>
    intro W X k hf hX hb hk
    obtain ⟨k, rfl⟩ : ∃ q, k = q + 1 := ⟨k - 1, by omega⟩
    simp only [List.length_append, List.length_cons] at hb hk
    have hlt : decide (((W.length + X.length : Nat) : Int) < ((W ++ X ++ y :: t).length : Int)) = true := decide_eq_true (by simp; omega)
    have i1 : idx (W ++ X ++ y :: t) ((W.length + X.length : Nat) : Int) = some y := jO (by simp)
    have hf1 := hf y (by simp)
    have hf2 : ∀ x ∈ t, f x = some (p x) := fun x hx => hf x (List.mem_cons_of_mem _ hx)
    have t1 : ((W.length : Nat) : Int).toNat = W.length := rfl
    simp only [dX, hlt, cond_true, i1, hf1, Option.bind_some, cK (show W.length + X.length < 9223372036854775807 by omega)]
    cases hp : p y with
    | true =>
      simp only [Bool.not_true, cond_false]
      have := ih W (X ++ [y]) k hf2 (by simp) (by simp; omega) (by omega)
      have e1 : W ++ (X ++ [y]) ++ t = W ++ X ++ y :: t := by simp
      have e2 : W.length + (X ++ [y]).length = W.length + X.length + 1 := by simp; omega
      rw [e1, e2] at this
      rw [this]; simp [hp]
    | false =>
      simp only [Bool.not_false, cond_true]
      match X, hX with
      | x :: X, _ =>
        have i2 : idx (W ++ (x :: X) ++ y :: t) (W.length : Nat) = some x := by
          have : W ++ (x :: X) ++ y :: t = W ++ x :: (X ++ y :: t) := by simp
          rw [this]; exact jO rfl
        have e3 : (W ++ (x :: X) ++ y :: t).set W.length y = (W ++ [y]) ++ (X ++ [y]) ++ t := by
          have : W ++ (x :: X) ++ y :: t = W ++ x :: (X ++ y :: t) := by simp
          rw [this, rC rfl]; simp
        rw [i2, Option.bind_some, t1, e3, cK (by omega)]
        have := ih (W ++ [y]) (X ++ [y]) k hf2 (by simp) (by simp at hb ⊢; omega) (by omega)
        have e4 : (W ++ [y]).length = W.length + 1 := by simp
        have e5 : (W ++ [y]).length + (X ++ [y]).length = W.length + (x :: X).length + 1 := by simp; omega
        rw [e5, e4] at this
        rw [this]; simp [hp]
theorem aKo (s : List aE) (f : aE → Option Bool) (p : aE → Bool) (h : ∀ x ∈ s, f x = some (p x)) (hb : s.length ≤ 1000000) : eT s f = some (s.filter fun x => !p x) := by
  unfold eT
  rw [aIg s f p h hb, Option.bind_some]
  unfold nX
  by_cases hl : s.findIdx p < s.length
  · rw [if_pos hl, decide_eq_false (by omega), cond_false]
    obtain ⟨i, hi⟩ : ∃ i, i = s.findIdx p := ⟨_, rfl⟩
    rw [← hi] at hl ⊢
    have hno : ∀ x ∈ s.take i, (!p x) = true := fun x hx => by
      obtain ⟨j, hj, rfl⟩ := List.getElem_of_mem hx
      simp only [List.length_take] at hj
      rw [List.getElem_take]
      have := List.not_of_lt_findIdx (p := p) (xs := s) (i := j) (by omega)
      simpa using this
    have hyes : p s[i] = true := by
      have := List.findIdx_getElem (p := p) (xs := s) (w := hi ▸ hl)
      simpa [← hi] using this
    have es : s = s.take i ++ [s[i]] ++ s.drop (i + 1) := by
      rw [List.append_assoc, List.singleton_append, ← List.drop_eq_getElem_cons hl, List.take_append_drop]
    have hloop := aEt f p (s.drop (i + 1)) (s.take i) [s[i]] BIG (fun x hx => h x (List.mem_of_mem_drop hx)) (by simp) (by rw [← es]; omega) (cY (by simp; omega))
    have e1 : (s.take i).length = i := by simp; omega
    rw [e1, ← es] at hloop
    rw [cK (by omega)]
    have e2 : i + [s[i]].length = i + 1 := rfl
    rw [e2] at hloop
    rw [hloop]
    congr 1
    conv => rhs; rw [es]
    rw [List.filter_append, List.filter_append, List.filter_eq_self.2 hno]
    simp [hyes]
  · rw [if_neg hl, decide_eq_true rfl, cond_true]
    congr 1
    symm
    refine List.filter_eq_self.2 fun x hx => ?_
    cases hp : p x with
    | false => rfl
    | true => exact absurd (List.findIdx_lt_length_of_exists ⟨x, hx, hp⟩) hl
end del

/-- The points of a week, less those of the next one without a new report. -/
def aGj (l : aN) (z : List aE) (p w : Int) : Int := oT l z p w - oT l (z.filter fun r => decide (r.Week ≤ w)) p (w + 1)
theorem vY {l : aN} {z : List aE} (hz : ∀ x ∈ z, sS l.Players x = true) (hlen : z.length ≤ 1000) (p w : Int) : 0 ≤ oT l z p w ∧ oT l z p w ≤ 2000000 := by
  have h1 := pO (l := pD l.Counts (eO l z p w)) fun r hr => (qL hz r (kM hr)).2
  have h2 : (pD l.Counts (eO l z p w)).length ≤ 1000 := Nat.le_trans (List.length_filter_le _ _) (Nat.le_trans nU hlen)
  unfold oT
  omega
theorem aEe {l : aN} {z : List aE} (h : GL l z) {p w : Int} (ha : qK l p w = true) : lC l p w = some (bif decide (400 ≤ w) then (0, 1) else (aGj l z p w, 0)) := by
  have hw := (pE ha).2
  have hlen : z.length ≤ 1000 := Nat.le_trans h.len (by omega)
  unfold lC
  rw [aDd h ha, Option.bind_some]
  have hd : eT z (fun y => nA y w) = some (z.filter fun r => !decide (w < r.Week)) := aKo z _ (fun r => decide (w < r.Week)) (fun _ _ => rfl) (by omega)
  have he : (z.filter fun r => !decide (w < r.Week)) = z.filter fun r => decide (r.Week ≤ w) := List.filter_congr fun r _ => by
    by_cases hr : w < r.Week
    · rw [decide_eq_true hr, decide_eq_false (by omega)]; rfl
    · rw [decide_eq_false hr, decide_eq_true (by omega)]; rfl
  rw [he] at hd
  have hz' : ∀ x ∈ z.filter fun r => decide (r.Week ≤ w), sS l.Players x = true := fun x hx => h.reps x (kM hx)
  have hl' : (z.filter fun r => decide (r.Week ≤ w)).length ≤ 1000 := Nat.le_trans (List.length_filter_le _ _) hlen
  have e1 : w64 (w + 1) = w + 1 := cO (by omega) (by omega)
  simp only [pI, decide_true, Bool.not_true, cond_false]
  by_cases h400 : 400 ≤ w
  · rw [decide_eq_true h400]; rfl
  · rw [decide_eq_false h400, cond_false, cond_false, aFz h.rest h.reps h.st hlen hw.1 (by omega), Option.bind_some]
    show (eT z (fun y => nA y w)).bind _ = _
    rw [hd, Option.bind_some, e1]
    have hp2 : jE (eS l (z.filter fun r => decide (r.Week ≤ w))) p (w + 1) = some (oT l (z.filter fun r => decide (r.Week ≤ w)) p (w + 1)) := aFz h.rest hz' (h.st.sublist List.filter_sublist) hl' (by omega) (by omega)
    show (jE (eS l (z.filter fun r => decide (r.Week ≤ w))) p (w + 1)).bind _ = _
    rw [hp2, Option.bind_some]
    have r1 := vY (l := l) h.reps hlen p w
    have r2 := vY (l := l) hz' hl' p (w + 1)
    unfold aGj
    rw [cO (by omega) (by omega)]
theorem aEf {l : aN} (hb : Bd l) {p w : Int} (h : jL l p w ≠ 0) : lC l p w = some (0, jL l p w) := by
  unfold lC
  rw [aDe hb h, Option.bind_some]
  simp only [pI, decide_eq_false h, Bool.not_false, cond_true]
end Go.Am

end
section
namespace Go.Am

theorem aFl {α : Type} {R : α → α → Prop} [DecidableRel R] (hirr : ∀ x, ¬ R x x) (hasym : ∀ x y, R x y → ¬ R y x) {s : List α} (hs : s.Pairwise R) {i : Nat} (hi : i < s.length) : (s.filter fun q => decide (R q s[i])).length = i := by
  have es : s = s.take i ++ s[i] :: s.drop (i + 1) := by rw [← List.drop_eq_getElem_cons hi, List.take_append_drop]
  have h1 := List.pairwise_append.1 (es ▸ hs)
  have a1 : (s.take i).filter (fun q => decide (R q s[i])) = s.take i := List.filter_eq_self.2 fun q hq => decide_eq_true (h1.2.2 q hq _ List.mem_cons_self)
  have a2 : (s[i] :: s.drop (i + 1)).filter (fun q => decide (R q s[i])) = [] := List.filter_eq_nil_iff.2 fun q hq => by
    rw [decide_eq_true_eq]
    rcases List.mem_cons.1 hq with rfl | hq
    · exact hirr _
    · exact hasym _ _ ((List.pairwise_cons.1 h1.2.1).1 q hq)
  have a3 : s.filter (fun q => decide (R q s[i])) = s.take i := by
    conv => lhs; arg 2; rw [es]
    rw [List.filter_append, a1, a2, List.append_nil]
  rw [a3, List.length_take]; omega
theorem aHo {out : List Int} (hn : out.Nodup) {i : Nat} (hi : i < out.length) : kK out out[i] = i + 1 := by
  have : out.findIdx (fun x => decide (out[i] = x)) = i := by
    rw [List.findIdx_eq hi]
    refine ⟨by simp, fun j hj => ?_⟩
    rw [decide_eq_false_iff_not]
    exact fun he => absurd he.symm (List.pairwise_iff_getElem.1 hn j i (by omega) hi hj)
  unfold kK nX
  rw [this, if_pos hi]
theorem IsList.nodup {l : aN} {z : List aE} {w : Int} {out : List Int} (h : IsList l z w out) : out.Nodup := h.st.imp fun {a b} hb he => by subst he; exact zI _ _ _ _ hb
/-- A place is one more than the number of those before. -/
theorem IsList.place {l : aN} {z : List aE} {w : Int} {out : List Int} (h : IsList l z w out) {p : Int} (hp : p ∈ out) : kK out p = (out.filter fun q => decide (bef l z w q p)).length + 1 := by
  obtain ⟨i, hi, rfl⟩ := List.getElem_of_mem hp
  rw [aHo h.nodup hi, aFl (zI l z w) (aDl l z w) h.st hi]
end Go.Am

end
section
namespace Go.Am

section ban
variable {l : aN} {z : List aE} (ban : aP) (w : Int)
end ban

section add
variable {l : aN} {z : List aE} {r : aE} (w : Int)
end add
end Go.Am

end
section
namespace Go.Am

theorem aFi (a b : List Int) (ha : a.length ≤ 1000000) : kD a b = some (decide (a = b)) := by
  unfold kD
  by_cases hl : a.length = b.length
  · rw [decide_eq_true (show (a.length : Int) = (b.length : Int) by omega), Bool.not_true, cond_false]
    have main := mN (fun k i => gM a b k i) a.length (fun i => decide (a.getD i 0 = b.getD i 0)) (some false) (some true) (fun k i hi => by
      have hlt : decide ((i : Int) < (a.length : Int)) = true := decide_eq_true (by omega)
      have e1 : a.getD i 0 = a[i] := by simp [List.getD, List.getElem?_eq_getElem hi]
      have e2 : b.getD i 0 = b[i] := by simp [List.getD, List.getElem?_eq_getElem (show i < b.length by omega)]
      simp only [gM, hlt, cond_true, dG hi, dG (show i < b.length by omega), Option.bind_some, e1, e2, cK (show i < 9223372036854775807 by omega)]
      cases decide (a[i] = b[i]) <;> rfl) (fun k => by
      have hlt : decide ((a.length : Int) < (a.length : Int)) = false := decide_eq_false (by omega)
      simp only [gM, hlt, cond_false, oH]) BIG (cY (by omega))
    refine Eq.trans main ?_
    have : (List.range a.length).all (fun i => decide (a.getD i 0 = b.getD i 0)) = decide (a = b) := by
      rw [Bool.eq_iff_iff, List.all_eq_true, decide_eq_true_eq]
      constructor
      · intro h
        refine List.ext_getElem hl fun i h1 h2 => ?_
        have := h i (List.mem_range.2 h1)
        simpa [List.getD, List.getElem?_eq_getElem h1, List.getElem?_eq_getElem h2] using this
      · rintro rfl i _; simp
    rw [this]
    cases decide (a = b) <;> rfl
  · rw [decide_eq_false (show ¬ (a.length : Int) = (b.length : Int) by omega), decide_eq_false (fun h => hl (by rw [h]))]; rfl
/-- A ledger that a statement looks at. -/
structure Near (l : aN) : Prop where
  bd : Bd l
  pl : kH l = 0 → l.Players ≤ 5
theorem aJw {l : aN} (hb : l.Reports.length ≤ maxLen ∧ l.Bans.length ≤ maxLen ∧ l.Frozen.length ≤ maxLen) : gX l = some true ∨ gX l = some false ∧ Near l ∧ (kH l = 0 → l.Reports.length ≤ 10 ∧ ∀ r ∈ l.Reports, r.Week ≤ 150) := by
  unfold maxLen at hb
  have hff : (∃ b, gX l = some b) := by
    by_cases h : l.Reports.length ≤ 140737488355328 ∧ l.Bans.length ≤ 140737488355328 ∧ l.Frozen.length ≤ 140737488355328
    · exact aId l h
    · unfold gX
      rw [gC, Option.bind_some, gC, Option.bind_some]
      have : (decide (60 < (l.Reports.length : Int)) || decide (20 < (l.Bans.length : Int)) || decide (20 < (l.Frozen.length : Int))) = true := by simp only [Bool.or_eq_true, decide_eq_true_eq]; omega
      rw [this]; exact ⟨true, rfl⟩
  obtain ⟨b, hf⟩ := hff
  cases b with
  | true => exact .inl hf
  | false =>
    obtain ⟨h1, h2⟩ := aHg hf
    exact .inr ⟨hf, ⟨by unfold Bd; omega, fun hc => (h2 hc).1⟩, fun hc => (h2 hc).2⟩
theorem Near.gl {l : aN} (h : Near l) {p w : Int} (ha : jL l p w = 0) : ∃ z, GL l z ∧ qK l p w = true ∧ l.Players ≤ 12 := by
  obtain ⟨h1, h2⟩ := aIb ha
  obtain ⟨z, hz⟩ := aGm h1
  exact ⟨z, hz, h2, by have := h.pl h1; omega⟩
end Go.Am

end
section
namespace Go.Am

theorem aEu {rs z : List aE} (hb : rs.length ≤ 1000000) (hz : z.Pairwise fun x y => x.Id < y.Id) (hm : ∀ x, x ∈ z ↔ x ∈ rs) : iM rs = some z := by
  obtain ⟨z', d1, d2, d3, d4, _⟩ := xS rs hb
  have hz' : z'.Pairwise fun x y => x.Id < y.Id := by
    refine List.pairwise_iff_getElem.2 fun i j hi hj hij => ?_
    have a1 := List.pairwise_iff_getElem.1 d2 i j hi hj hij
    have a2 := List.pairwise_iff_getElem.1 d3 i j hi hj hij
    rcases Int.lt_or_eq_of_le a1 with h | h
    · exact h
    · exact absurd (aBr hz _ ((hm _).2 ((d4 _).1 (List.getElem_mem hi))) _ ((hm _).2 ((d4 _).1 (List.getElem_mem hj))) h) a2
  rw [d1, uH (key := fun x : aE => x.Id) hz' hz fun x => (d4 x).trans (hm x).symm]
theorem aHi {l : aN} {z : List aE} (h : GL l z) (p : aE → Bool) : GD ⟨l.Players, l.Counts, l.Reports.filter p, l.Bans, l.Frozen⟩ (z.filter p) := by
  have hrl := (kJ h.led).2.2.1
  refine ⟨h.rest, aEu (Nat.le_trans (List.length_filter_le _ _) (by omega)) (h.st.sublist List.filter_sublist) fun x => ?_, h.st.sublist List.filter_sublist, fun x hx => h.reps x (kM hx), Nat.le_trans (List.length_filter_le _ _) (Nat.le_trans h.len (by omega))⟩
  rw [List.mem_filter, List.mem_filter, h.mem]
theorem aIk {l : aN} {z : List aE} {p w : Int} : oT l (z.filter fun r => decide (r.Week ≤ w)) p w = oT l z p w := by
  unfold oT eO
  rw [List.filter_filter]
  congr 2
  refine List.filter_congr fun r _ => ?_
  unfold aBv
  cases decide (r.Week ≤ w) <;> simp
theorem aHc {l : aN} {z : List aE} (h : GL l z) {p w : Int} (ha : qK l p w = true) : hO l p w = some (bif decide (w = 400) then (0, 1) else (aGj l z p w, 0)) := by
  have hw := pE ha
  have hrl := (kJ h.led).2.2.1
  have n0 : (!decide ((0 : Int) = 0)) = false := rfl
  unfold hO
  rw [yI h.bd, Option.bind_some, aAv h hw.1 hw.2, n0, cond_false]
  by_cases h4 : w = 400
  · rw [decide_eq_true h4]; rfl
  rw [decide_eq_false h4, cond_false, cond_false, aFp h.bd, Option.bind_some]
  have main := tP (fun k i s => gB p w l k i s l.Players l.Counts l.Bans l.Frozen) l.Reports (fun r => decide (r.Week ≤ w)) (fun s => mH p w s l.Players l.Counts l.Bans l.Frozen) ?_ ?_ BIG (cY (by omega))
  · refine Eq.trans main ?_
    have hg := aHi h fun r => decide (r.Week ≤ w)
    have hlen : (z.filter fun r => decide (r.Week ≤ w)).length ≤ 1000 := Nat.le_trans (List.length_filter_le _ _) (Nat.le_trans h.len (by omega))
    have r1 := vY (l := l) h.reps (Nat.le_trans h.len (by omega)) p w
    have r2 := vY (l := l) (fun x hx => h.reps x (kM hx)) hlen p (w + 1)
    have e1 : w64 (w + 1) = w + 1 := cO (by omega) (by omega)
    have q1 : oT ⟨l.Players, l.Counts, l.Reports.filter fun r => decide (r.Week ≤ w), l.Bans, l.Frozen⟩ (z.filter fun r => decide (r.Week ≤ w)) p w = oT l z p w := aIk (l := l)
    unfold mH
    rw [hg.points hw.2.1 (by omega), Option.bind_some, e1, hg.points (by omega) (by omega), Option.bind_some, q1]
    unfold aGj
    show some (w64 (oT l z p w - oT l (z.filter fun r => decide (r.Week ≤ w)) p (w + 1)), (0 : Int)) = _
    rw [cO (by omega) (by omega)]
  · intro k i hi s hs
    have hlt : decide ((i : Int) < (l.Reports.length : Int)) = true := decide_eq_true (by omega)
    have hsl : s.length ≤ i := by rw [hs]; exact Nat.le_trans (List.length_filter_le _ _) (by simp; omega)
    rw [gB, hlt, cond_true, dG hi, Option.bind_some]
    cases decide (l.Reports[i].Week ≤ w) with
    | true => rw [cond_true, Option.bind_some, kG (by simp; omega), Option.bind_some, cond_true, cK (by omega)]
    | false => rw [cond_false, cond_false, cK (by omega)]
  · intro k s
    have hlt : decide ((l.Reports.length : Int) < (l.Reports.length : Int)) = false := decide_eq_false (by omega)
    rw [gB, hlt, cond_false]
theorem aHd {l : aN} (hb : Bd l) {p w : Int} (h : jL l p w ≠ 0) : hO l p w = some (0, jL l p w) := by
  unfold hO
  rw [yI hb, Option.bind_some, decide_eq_false h, Bool.not_false, cond_true]

/-- The first of the earliest leaves. -/
def oS : List aP → aP → aP
  | [], m => m
  | x :: t, m => oS t (bif decide (x.From < m.From) then x else m)
theorem aAm : ∀ (t : List aP) (m : aP), oS t m = m ∨ oS t m ∈ t
  | [], m => .inl rfl
  | x :: t, m => by
    rw [oS]
    rcases aAm t (bif decide (x.From < m.From) then x else m) with h | h
    · cases hc : decide (x.From < m.From) with
      | true => rw [hc, cond_true] at h; right; rw [cond_true, h]; exact List.mem_cons_self
      | false => rw [hc, cond_false] at h; left; rw [cond_false, h]
    · exact .inr (List.mem_cons_of_mem _ h)
theorem yR : ∀ (t : List aP) (m : aP), t.foldl (fun m x => bif decide (x.From < m.From) then x else m) m = oS t m
  | [], m => rfl
  | x :: t, m => by rw [List.foldl_cons, yR t]; rfl
section del
theorem aEs (f : aP → Option Bool) (p : aP → Bool) : ∀ (t W X : List aP) (k : Nat), (∀ x ∈ t, f x = some (p x)) → 0 < X.length → (W ++ X ++ t).length ≤ 1000000 → t.length < k →
    dR f k (W.length : Nat) ((W.length + X.length : Nat) : Int) (W ++ X ++ t) = some (W ++ t.filter fun x => !p x) := by
  intro t
  induction t with
  | nil =>
    intro W X k hf hX hb hk
    obtain ⟨k, rfl⟩ : ∃ q, k = q + 1 := ⟨k - 1, by omega⟩
    simp only [List.length_append, List.length_nil] at hb
    have hlt : decide (((W.length + X.length : Nat) : Int) < ((W ++ X ++ []).length : Int)) = false := decide_eq_false (by simp)
    have t1 : ((W.length : Nat) : Int).toNat = W.length := rfl
    have c1 : (decide ((0 : Int) ≤ (W.length : Int)) && decide ((W.length : Int) ≤ ((W ++ X ++ []).length : Int))) = true := by simp; omega
    have c2 : decide (W.length ≤ (W ++ X ++ []).length) = true := by simp
    have c3 : decide ((0 : Int) ≤ (W.length : Int)) = true := by simp
    simp only [dR, hlt, cond_false, kS]
    rw [c1, t1, c2, c3]
    simp [chk]
  | cons y t ih =>
    intro W X k hf hX hb hk
    obtain ⟨k, rfl⟩ : ∃ q, k = q + 1 := ⟨k - 1, by omega⟩
    simp only [List.length_append, List.length_cons] at hb hk
    have hlt : decide (((W.length + X.length : Nat) : Int) < ((W ++ X ++ y :: t).length : Int)) = true := decide_eq_true (by simp; omega)
    have i1 : idx (W ++ X ++ y :: t) ((W.length + X.length : Nat) : Int) = some y := jO (by simp)
    have hf1 := hf y (by simp)
    have hf2 : ∀ x ∈ t, f x = some (p x) := fun x hx => hf x (List.mem_cons_of_mem _ hx)
    have t1 : ((W.length : Nat) : Int).toNat = W.length := rfl
    simp only [dR, hlt, cond_true, i1, hf1, Option.bind_some, cK (show W.length + X.length < 9223372036854775807 by omega)]
    cases hp : p y with
    | true =>
      simp only [Bool.not_true, cond_false]
      have := ih W (X ++ [y]) k hf2 (by simp) (by simp; omega) (by omega)
      have e1 : W ++ (X ++ [y]) ++ t = W ++ X ++ y :: t := by simp
      have e2 : W.length + (X ++ [y]).length = W.length + X.length + 1 := by simp; omega
      rw [e1, e2] at this
      rw [this]; simp [hp]
    | false =>
      simp only [Bool.not_false, cond_true]
      match X, hX with
      | x :: X, _ =>
        have i2 : idx (W ++ (x :: X) ++ y :: t) (W.length : Nat) = some x := by
          have : W ++ (x :: X) ++ y :: t = W ++ x :: (X ++ y :: t) := by simp
          rw [this]; exact jO rfl
        have e3 : (W ++ (x :: X) ++ y :: t).set W.length y = (W ++ [y]) ++ (X ++ [y]) ++ t := by
          have : W ++ (x :: X) ++ y :: t = W ++ x :: (X ++ y :: t) := by simp
          rw [this, rC rfl]; simp
        rw [i2, Option.bind_some, t1, e3, cK (by omega)]
        have := ih (W ++ [y]) (X ++ [y]) k hf2 (by simp) (by simp at hb ⊢; omega) (by omega)
        have e4 : (W ++ [y]).length = W.length + 1 := by simp
        have e5 : (W ++ [y]).length + (X ++ [y]).length = W.length + (x :: X).length + 1 := by simp; omega
        rw [e5, e4] at this
        rw [this]; simp [hp]
theorem aKn (s : List aP) (f : aP → Option Bool) (p : aP → Bool) (h : ∀ x ∈ s, f x = some (p x)) (hb : s.length ≤ 1000000) : gQ s f = some (s.filter fun x => !p x) := by
  unfold gQ
  rw [aDw s f p h hb, Option.bind_some]
  unfold nX
  by_cases hl : s.findIdx p < s.length
  · rw [if_pos hl, decide_eq_false (by omega), cond_false]
    obtain ⟨i, hi⟩ : ∃ i, i = s.findIdx p := ⟨_, rfl⟩
    rw [← hi] at hl ⊢
    have hno : ∀ x ∈ s.take i, (!p x) = true := fun x hx => by
      obtain ⟨j, hj, rfl⟩ := List.getElem_of_mem hx
      simp only [List.length_take] at hj
      rw [List.getElem_take]
      have := List.not_of_lt_findIdx (p := p) (xs := s) (i := j) (by omega)
      simpa using this
    have hyes : p s[i] = true := by
      have := List.findIdx_getElem (p := p) (xs := s) (w := hi ▸ hl)
      simpa [← hi] using this
    have es : s = s.take i ++ [s[i]] ++ s.drop (i + 1) := by
      rw [List.append_assoc, List.singleton_append, ← List.drop_eq_getElem_cons hl, List.take_append_drop]
    have hloop := aEs f p (s.drop (i + 1)) (s.take i) [s[i]] BIG (fun x hx => h x (List.mem_of_mem_drop hx)) (by simp) (by rw [← es]; omega) (cY (by simp; omega))
    have e1 : (s.take i).length = i := by simp; omega
    rw [e1, ← es] at hloop
    rw [cK (by omega)]
    have e2 : i + [s[i]].length = i + 1 := rfl
    rw [e2] at hloop
    rw [hloop]
    congr 1
    conv => rhs; rw [es]
    rw [List.filter_append, List.filter_append, List.filter_eq_self.2 hno]
    simp [hyes]
  · rw [if_neg hl, decide_eq_true rfl, cond_true]
    congr 1
    symm
    refine List.filter_eq_self.2 fun x hx => ?_
    cases hp : p x with
    | false => rfl
    | true => exact absurd (List.findIdx_lt_length_of_exists ⟨x, hx, hp⟩) hl
end del
theorem aEb (a : aP) (t : List aP) (hb : t.length ≤ 1000000) (hr : ∀ x ∈ a :: t, 0 ≤ x.From ∧ x.From ≤ 1000) : iD (a :: t) (fun x y => kR x y) = some (oS t a) := by
  unfold iD
  rw [decide_eq_false (by simp; omega), cond_false, aIf, Option.bind_some]
  have hmf : ∀ (u : List aP) (m : aP), (0 ≤ m.From ∧ m.From ≤ 1000) → (∀ x ∈ u, 0 ≤ x.From ∧ x.From ≤ 1000) → 0 ≤ (oS u m).From ∧ (oS u m).From ≤ 1000 := fun u m h1 h2 => by
    rcases aAm u m with h | h
    · rw [h]; exact h1
    · exact h2 _ h
  have main := kA (fun k i m => eG (a :: t) (fun x y => kR x y) (aP.mk 0 0 0) k (i + 1) m) t (fun m x => bif decide (x.From < m.From) then x else m) (fun m => some m) a ?_ ?_ BIG (cY (by omega))
  · refine Eq.trans main ?_
    rw [yR]
  · intro k i hi m hm
    have hlt : decide ((i : Int) + 1 < ((a :: t).length : Int)) = true := decide_eq_true (by simp; omega)
    have ei : idx (a :: t) ((i : Int) + 1) = some t[i] := by
      have := dG (xs := a :: t) (i := i + 1) (by simp; omega)
      rw [show ((i : Int) + 1) = ((i + 1 : Nat) : Int) by omega, this]; rfl
    rw [yR] at hm
    have hx := hr _ (List.mem_cons_of_mem _ (List.getElem_mem hi))
    have hmb := hmf (t.take i) a (hr a List.mem_cons_self) fun x hx => hr x (List.mem_cons_of_mem _ (List.mem_of_mem_take hx))
    rw [← hm] at hmb
    have ec : kR t[i] m = some (t[i].From - m.From) := by unfold kR; rw [cO (by omega) (by omega)]
    have ed : decide (t[i].From - m.From < 0) = decide (t[i].From < m.From) := by rw [decide_eq_decide]; omega
    have ew : w64 ((i : Int) + 1 + 1) = ((i + 1 : Nat) : Int) + 1 := by rw [cO (by omega) (by omega)]; omega
    rw [eG, hlt, cond_true, ei, Option.bind_some, ec, Option.bind_some, ed, Option.bind_some, ew]
    cases decide (t[i].From < m.From) <;> rfl
  · intro k m
    have hlt : decide ((t.length : Int) + 1 < ((a :: t).length : Int)) = false := decide_eq_false (by simp)
    rw [eG, hlt, cond_false]; rfl
/-- The places of some weeks together. -/
def lV (l : aN) (z : List aE) (p f : Int) (s : Int) (j : Nat) : Int := s + bif decide (kK (iV l z (f + (j : Nat))) p = 0) then l.Players else kK (iV l z (f + (j : Nat))) p
theorem qQ {l : aN} {z : List aE} (h : GL l z) (hP : l.Players ≤ 12) {p f : Int} (hf : 0 ≤ f) : ∀ (L : List Nat) (s : Int), (∀ j ∈ L, f + (j : Nat) ≤ 1000) → 0 ≤ s → 0 ≤ L.foldl (lV l z p f) s ∧ L.foldl (lV l z p f) s ≤ s + 16 * L.length
  | [], s, _, hs => ⟨hs, by simp⟩
  | j :: L, s, hj, hs => by
    have hp := h.players
    have hl := ((h.list (w := f + (j : Nat)) (by omega) (hj j List.mem_cons_self) hP).2.1).len (by omega)
    have hr := vH (iV l z (f + (j : Nat))) p
    have hv : 0 ≤ lV l z p f s j ∧ lV l z p f s j ≤ s + 16 := by
      unfold lV
      cases decide (kK (iV l z (f + (j : Nat))) p = 0) <;> simp <;> omega
    rw [List.foldl_cons]
    have := qQ h hP (p := p) hf L (lV l z p f s j) (fun q hq => hj q (List.mem_cons_of_mem _ hq)) hv.1
    simp only [List.length_cons]
    omega
end Go.Am

end
section
namespace Go.Am

def wH (l : aN) (p : Int) : List aP := l.Frozen.filter fun a => decide (a.Player = p)
def pX (f : aP) : Int := min 12 (f.To - f.From + 1)
/-- The protected ranking. -/
def aDc (l : aN) (z : List aE) (p : Int) : Int × Int := match wH l p with
  | [] => (0, 3)
  | a :: t => (((List.range (pX (oS t a)).toNat).foldl (lV l z p (oS t a).From) 0).tdiv (pX (oS t a)), 0)
theorem yW {l : aN} {z : List aE} (h : GL l z) {p : Int} {a : aP} {t : List aP} (ho : wH l p = a :: t) : (∀ x ∈ a :: t, (0 ≤ x.From ∧ x.From ≤ x.To) ∧ x.To ≤ 400) ∧ t.length ≤ 8 := by
  have hf := (kJ h.led).2.2.2.2.1
  refine ⟨fun x hx => ?_, ?_⟩
  · rw [← ho] at hx
    have := aCd (hf.2 x (List.mem_filter.1 hx).1)
    omega
  · have : (wH l p).length ≤ l.Frozen.length := List.length_filter_le _ _
    rw [ho] at this
    simp at this; omega
theorem aCo {l : aN} {z : List aE} (h : GL l z) {p : Int} {a : aP} {t : List aP} (ho : wH l p = a :: t) : (0 ≤ (oS t a).From ∧ (oS t a).From ≤ (oS t a).To) ∧ (oS t a).To ≤ 400 := by
  have := (yW h ho).1 (oS t a) (by
    rcases aAm t a with h | h
    · rw [h]; exact List.mem_cons_self
    · exact List.mem_cons_of_mem _ h)
  exact this
theorem aEz {l : aN} {z : List aE} (h : GL l z) (hP : l.Players ≤ 12) {p : Int} (ha : qK l p 0 = true) : kT l p = some (aDc l z p) := by
  have hf := (kJ h.led).2.2.2.2.1
  have hPl := h.players
  unfold kT
  rw [aDd h ha, Option.bind_some]
  simp only [pI, decide_true, Bool.not_true, cond_false]
  have hc : hG l.Frozen = some l.Frozen := by
    unfold hG
    rw [kG (by simp; omega)]; rfl
  show (hG l.Frozen).bind _ = _
  rw [hc, Option.bind_some, aKn l.Frozen (fun y9 => nH y9 p) (fun a => !decide (a.Player = p)) (fun _ _ => rfl) (by omega), Option.bind_some]
  have ho : (l.Frozen.filter fun x => !!decide (x.Player = p)) = wH l p := by unfold wH; simp only [Bool.not_not]
  rw [ho]
  unfold aDc
  match hoe : wH l p with
  | [] => rfl
  | a :: t =>
    obtain ⟨h1, h2⟩ := yW h hoe
    have h3 := aCo h hoe
    simp only []
    rw [decide_eq_false (show ¬ (((a :: t).length : Nat) : Int) = 0 by simp; omega), cond_false, aEb a t (by omega) (fun x hx => by have := h1 x hx; omega), Option.bind_some]
    obtain ⟨m, hm⟩ : ∃ m, m = oS t a := ⟨_, rfl⟩
    rw [← hm] at h3 ⊢
    have e1 : min 12 (w64 (w64 (m.To - m.From) + 1)) = pX m := by
      unfold pX
      rw [cO (show -9223372036854775808 ≤ m.To - m.From by omega) (by omega), cO (by omega) (by omega)]
    rw [e1]
    obtain ⟨n, hn⟩ : ∃ n : Nat, pX m = n := ⟨(pX m).toNat, by unfold pX; omega⟩
    have hnw : 1 ≤ n ∧ n ≤ 12 ∧ m.From + (n : Int) ≤ m.To + 1 := by unfold pX at hn; omega
    rw [hn, Int.toNat_natCast]
    have main := kA (fun k i s => gU p n m (eS l z).Ledger.Reports (eS l z).Ledger.Players (eS l z).Ledger.Counts (eS l z).Ledger.Bans (eS l z).Ledger.Frozen k s (m.From + i)) (List.range n) (lV l z p m.From) (fun s => oY n s) 0 ?_ ?_ BIG (cY (by simp; omega))
    · rw [Int.add_zero] at main
      refine Eq.trans main ?_
      have hr := qQ h hP (p := p) h3.1.1 (List.range n) 0 (fun j hj => by have := List.mem_range.1 hj; omega) (Int.le_refl _)
      rw [List.length_range] at hr
      have ht := Int.tdiv_le_self (a := (List.range n).foldl (lV l z p m.From) 0) (n : Int) hr.1
      have ht0 := Int.tdiv_nonneg (a := (List.range n).foldl (lV l z p m.From) 0) (b := (n : Int)) hr.1 (by omega)
      unfold oY
      rw [decide_eq_false (by omega), cO (by omega) (by omega)]; rfl
    · intro k i hi s hs
      have hi' : i < n := by simpa using hi
      have eg : (List.range n)[i] = i := by simp
      have ew : w64 (m.From + (n : Int)) = m.From + n := cO (by omega) (by omega)
      have hlt : decide (m.From + (i : Int) < w64 (m.From + (n : Int))) = true := by rw [ew]; exact decide_eq_true (by omega)
      have e2 : w64 (m.From + (i : Int) + 1) = m.From + ((i + 1 : Nat) : Int) := by rw [cO (by omega) (by omega)]; omega
      have hr := qQ h hP (p := p) h3.1.1 ((List.range n).take i) 0 (fun j hj => by have := List.mem_range.1 (List.mem_of_mem_take hj); omega) (Int.le_refl _)
      rw [← hs] at hr
      have htl : ((List.range n).take i).length ≤ 12 := by simp; omega
      have hpl : kB (cE.mk (aN.mk (eS l z).Ledger.Players (eS l z).Ledger.Counts (eS l z).Ledger.Reports (eS l z).Ledger.Bans (eS l z).Ledger.Frozen)) p (m.From + (i : Int)) = some (kK (iV l z (m.From + (i : Int))) p) := aFy h.rest h.reps h.st (Nat.le_trans h.len (by omega)) (by omega) (by omega) hP p
      have hll := ((h.list (w := m.From + (i : Int)) (by omega) (by omega) hP).2.1).len (by omega)
      have hpr := vH (iV l z (m.From + (i : Int))) p
      rw [gU, hlt, cond_true, hpl, Option.bind_some, e2, eg]
      unfold lV
      by_cases hp0 : kK (iV l z (m.From + (i : Int))) p = 0
      · rw [decide_eq_false (by omega), cond_false, decide_eq_true hp0, cond_true]
        show gU _ _ _ _ _ _ _ _ k (w64 (s + l.Players)) _ = _
        rw [cO (by omega) (by omega)]
      · rw [decide_eq_true (by omega), cond_true, decide_eq_false hp0, cond_false, cO (by omega) (by omega)]
    · intro k s
      have ew : w64 (m.From + (n : Int)) = m.From + n := cO (by omega) (by omega)
      have hlt : decide (m.From + ((List.range n).length : Int) < w64 (m.From + (n : Int))) = false := by rw [ew]; exact decide_eq_false (by simp)
      rw [gU, hlt, cond_false]
theorem aFa {l : aN} (hb : Bd l) {p : Int} (h : jL l p 0 ≠ 0) : kT l p = some (0, jL l p 0) := by
  unfold kT
  rw [aDe hb h, Option.bind_some]
  simp only [pI, decide_eq_false h, Bool.not_false, cond_true]
theorem aCm (p : Int) : ∀ (L : List aP) (s : Int × Int), L.foldl (fun s f => bif decide (f.Player = p) && (decide (s.1 < 0) || decide (f.From < s.1)) then (f.From, f.To) else s) s = (L.filter fun a => decide (a.Player = p)).foldl (fun s f => bif decide (s.1 < 0) || decide (f.From < s.1) then (f.From, f.To) else s) s
  | [], s => rfl
  | x :: L, s => by
    rw [List.foldl_cons, aCm p L]
    by_cases h : x.Player = p
    · rw [List.filter_cons_of_pos (by simpa using h), List.foldl_cons, decide_eq_true h, Bool.true_and]
    · rw [List.filter_cons_of_neg (by simpa using h), decide_eq_false h, Bool.false_and, cond_false]
theorem aAk : ∀ (t : List aP) (m : aP), 0 ≤ m.From → (∀ x ∈ t, 0 ≤ x.From) → t.foldl (fun (s : Int × Int) f => bif decide (s.1 < 0) || decide (f.From < s.1) then (f.From, f.To) else s) (m.From, m.To) = ((oS t m).From, (oS t m).To)
  | [], m, _, _ => rfl
  | x :: t, m, h0, h => by
    rw [List.foldl_cons, oS, decide_eq_false (show ¬ m.From < 0 by omega), Bool.false_or]
    cases hc : decide (x.From < m.From) with
    | true => rw [cond_true, cond_true]; exact aAk t x (h x (by simp)) fun y hy => h y (List.mem_cons_of_mem _ hy)
    | false => rw [cond_false, cond_false]; exact aAk t m h0 fun y hy => h y (List.mem_cons_of_mem _ hy)
theorem aEq {l : aN} {z : List aE} (h : GL l z) (hP : l.Players ≤ 12) {p : Int} (ha : qK l p 0 = true) : gH l p = some (aDc l z p) := by
  have hw := pE ha
  have n0 : (!decide ((0 : Int) = 0)) = false := rfl
  have hf := (kJ h.led).2.2.2.2.1
  have hPl := h.players
  unfold gH
  rw [yI h.bd, Option.bind_some, aAv h hw.1 hw.2, n0, cond_false]
  have main := kA (S := Int × Int) (fun k i s => fJ p l k s.1 s.2 i) l.Frozen (fun s f => bif decide (f.Player = p) && (decide (s.1 < 0) || decide (f.From < s.1)) then (f.From, f.To) else s) (fun s => jR p s.1 s.2 l) (-1, -1) ?_ ?_ BIG (cY (by omega))
  · refine Eq.trans main ?_
    rw [aCm]
    show jR p ((wH l p).foldl _ (-1, -1)).1 ((wH l p).foldl _ (-1, -1)).2 l = _
    unfold aDc
    match hoe : wH l p with
    | [] => rfl
    | a :: t =>
      obtain ⟨h1, h2⟩ := yW h hoe
      have h3 := aCo h hoe
      have e0 : (decide (((-1 : Int), (-1 : Int)).1 < 0) || decide (a.From < ((-1 : Int), (-1 : Int)).1)) = true := by simp
      rw [List.foldl_cons, e0, cond_true, aAk t a (by have := h1 a (by simp); omega) (fun x hx => by have := h1 x (List.mem_cons_of_mem _ hx); omega)]
      simp only []
      obtain ⟨m, hm⟩ : ∃ m, m = oS t a := ⟨_, rfl⟩
      rw [← hm] at h3 ⊢
      obtain ⟨n, hn⟩ : ∃ n : Nat, pX m = n := ⟨(pX m).toNat, by unfold pX; omega⟩
      have hnw : (1 ≤ n ∧ n ≤ 12 ∧ m.From + (n : Int) ≤ m.To + 1) ∧ (n < 12 → m.From + (n : Int) = m.To + 1) := by unfold pX at hn; omega
      rw [hn, Int.toNat_natCast]
      unfold jR
      rw [decide_eq_false (by omega), cond_false]
      have main2 := kA (fun k i s => fK p m.To l k s i (m.From + i)) (List.range n) (lV l z p m.From) (fun s => lM s n) 0 ?_ ?_ BIG (cY (by simp; omega))
      · rw [Int.add_zero] at main2
        refine Eq.trans main2 ?_
        have hr := qQ h hP (p := p) h3.1.1 (List.range n) 0 (fun j hj => by have := List.mem_range.1 hj; omega) (Int.le_refl _)
        rw [List.length_range] at hr
        have ht := Int.tdiv_le_self (a := (List.range n).foldl (lV l z p m.From) 0) (n : Int) hr.1
        have ht0 := Int.tdiv_nonneg (a := (List.range n).foldl (lV l z p m.From) 0) (b := (n : Int)) hr.1 (by omega)
        unfold lM
        rw [decide_eq_false (by omega), cO (by omega) (by omega)]; rfl
      · intro k i hi s hs
        have hi' : i < n := by simpa using hi
        have eg : (List.range n)[i] = i := by simp
        have c1 : decide (m.From + (i : Int) ≤ m.To) = true := decide_eq_true (by omega)
        have c2 : decide ((i : Int) < 12) = true := decide_eq_true (by omega)
        have e2 : w64 (m.From + (i : Int) + 1) = m.From + ((i + 1 : Nat) : Int) := by rw [cO (by omega) (by omega)]; omega
        have hr := qQ h hP (p := p) h3.1.1 ((List.range n).take i) 0 (fun j hj => by have := List.mem_range.1 (List.mem_of_mem_take hj); omega) (Int.le_refl _)
        rw [← hs] at hr
        have htl : ((List.range n).take i).length ≤ 12 := by simp; omega
        have hll := ((h.list (w := m.From + (i : Int)) (by omega) (by omega) hP).2.1).len (by omega)
        have hpr := vH (iV l z (m.From + (i : Int))) p
        rw [fK, c1, cond_true, c2, Option.bind_some, cond_true, aHe h (by omega) (by omega) hP, Option.bind_some, e2, eg, cK (by omega)]
        unfold lV
        cases decide (kK (iV l z (m.From + (i : Int))) p = 0)
        · rw [cond_false, cond_false, cO (by omega) (by omega)]
        · rw [cond_true, cond_true, cO (by omega) (by omega)]
      · intro k s
        rw [List.length_range, fK]
        by_cases h12 : n < 12
        · rw [decide_eq_false (by omega)]; rfl
        · have c2 : decide ((n : Int) < 12) = false := decide_eq_false (by omega)
          rw [c2]
          cases decide (m.From + (n : Int) ≤ m.To) <;> rfl
  · intro k i hi s hs
    have hlt : decide ((i : Int) < (l.Frozen.length : Int)) = true := decide_eq_true (by omega)
    rw [fJ, hlt, cond_true, dG hi, Option.bind_some, gC, Option.bind_some, gW, Option.bind_some, cK (by omega)]
    cases (decide (l.Frozen[i].Player = p) && (decide (s.1 < 0) || decide (l.Frozen[i].From < s.1))) <;> rfl
  · intro k s
    have hlt : decide ((l.Frozen.length : Int) < (l.Frozen.length : Int)) = false := decide_eq_false (by omega)
    rw [fJ, hlt, cond_false]
theorem aEr {l : aN} (hb : Bd l) {p : Int} (h : jL l p 0 ≠ 0) : gH l p = some (0, jL l p 0) := by
  unfold gH
  rw [yI hb, Option.bind_some, decide_eq_false h, Bool.not_false, cond_true]
end Go.Am

end
section
namespace Go.Am
theorem aFm : lT = some true := by kernel_rfl
end Go.Am

end
