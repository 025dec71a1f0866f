/- Layer 7, plain: all slots; the reference's Players. -/
import Derived.Test.YtenffgkkeafnpaaBrPlain4
namespace Go.Am

/-- Valid lucky slips. -/
def LOK (L : List aE) : Prop := ∀ s ∈ L, 0 ≤ s.Player ∧ 0 ≤ s.Old

theorem wH {L : List aE} (hL : LOK L) {T : Nat} {i : Int} : ∀ {n : Nat} {now : Int} {ever : List Int} {U : List aE} {now' : Int} {ever' : List Int} {U' : List aE},
    SI L T i now ever U → gS L i n now ever U = some (now', ever', U') →
    SI L T i now' ever' U' ∧ (∀ x ∈ ever, x ∈ ever') ∧ (now' = now ∨ (now' ∉ ever ∧ 0 ≤ now' ∧ now ≠ -1)) ∧ fP L i now' = []
  | 0, _, _, _, _, _, _, _, h => by simp [gS] at h
  | n + 1, now, ever, U, now', ever', U', hS, h => by
    unfold gS at h
    cases hc : fP L i now with
    | nil =>
      rw [hc] at h
      simp only [Option.some.injEq, Prod.mk.injEq] at h
      obtain ⟨rfl, rfl, rfl⟩ := h
      exact ⟨hS, fun x hx => hx, .inl rfl, hc⟩
    | cons s cs =>
      cases cs with
      | cons s2 cs => simp [hc] at h
      | nil =>
        have hs : s ∈ fP L i now := by rw [hc]; simp
        obtain ⟨m1, m2, m3⟩ := mT.1 hs
        obtain ⟨p1, p2⟩ := hL s m1
        rw [hc] at h
        by_cases hp : s.Player ∈ ever
        · simp [hp] at h
        · simp only [hp, if_false] at h
          obtain ⟨r1, r2, r3, r4⟩ := wH hL (hS.next hs hp) h
          refine ⟨r1, fun x hx => r2 x (List.mem_append_left _ hx), ?_, r4⟩
          rcases r3 with rfl | ⟨a, b, c⟩
          · exact .inr ⟨hp, p1, by omega⟩
          · exact .inr ⟨fun hx => a (List.mem_append_left _ hx), b, by omega⟩

/-- What holds between the slots. -/
structure GI (L : List aE) (S : List Int) (i : Nat) (d ever : List Int) (U : List aE) : Prop where
  un : U.Nodup
  us : ∀ u ∈ U, u ∈ L
  el : ever.length = S.length + U.length
  pl : ∀ u ∈ U, u.Place < i
  len : d.length = S.length
  dr : ∀ j, i ≤ j → d.getD j 0 = S.getD j 0
  mem : ∀ x ∈ d, x ∈ ever
  dup : ∀ a b, a < b → b < d.length → d.getD a 0 = d.getD b 0 → d.getD b 0 = -1
  bye : ∀ a, a < d.length → (d.getD a 0 = -1 ↔ S.getD a 0 = -1)
  don : ∀ a : Nat, a < i → fP L a (d.getD a 0) = []
theorem vN {l : List Int} {i : Nat} (h : i < l.length) : l.getD i 0 ∈ l := by rw [bP h]; exact List.getElem_mem h
theorem GI.start {L : List aE} {S : List Int} {i : Nat} {d ever : List Int} {U : List aE} (h : GI L S i d ever U) (hi : i < S.length) : SI L S.length i (d.getD i 0) ever U :=
  ⟨h.un, h.us, h.mem _ (vN (by rw [h.len]; exact hi)), fun u hu => by have := h.pl u hu; omega, fun u hu e => by have := h.pl u hu; omega, h.el⟩
theorem jH {l : List Int} {i j : Nat} {v : Int} (hi : i < l.length) : (l.set i v).getD j 0 = if j = i then v else l.getD j 0 := by
  by_cases h : j = i
  · subst h; simp [List.getD, hi]
  · simp [List.getD, h, List.getElem?_set, Ne.symm h]
theorem GI.next {L : List aE} (hL : LOK L) {S : List Int} {i : Nat} {d ever : List Int} {U : List aE} (h : GI L S i d ever U) (hi : i < S.length) {n : Nat} {now' : Int} {ever' : List Int} {U' : List aE}
    (hs : gS L i n (d.getD i 0) ever U = some (now', ever', U')) : GI L S (i + 1) (d.set i now') ever' U' := by
  obtain ⟨hS, hev, hn, hc⟩ := wH hL (h.start hi) hs
  have hid : i < d.length := by rw [h.len]; exact hi
  refine ⟨hS.un, hS.us, hS.el, fun u hu => by have := hS.pl u hu; omega, by rw [List.length_set, h.len], fun j hj => ?_, fun x hx => ?_, fun a b hab hb => ?_, fun a ha => ?_, fun a ha => ?_⟩
  · rw [jH hid, if_neg (by omega)]; exact h.dr j (by omega)
  · rcases List.mem_or_eq_of_mem_set hx with hx | rfl
    · exact hev x (h.mem x hx)
    · exact hS.ne
  · rw [List.length_set] at hb
    rw [jH hid, jH hid]
    by_cases ha' : a = i
    · subst ha'
      rw [if_pos rfl, if_neg (by omega)]
      intro e
      rcases hn with hn | ⟨n1, n2, n3⟩
      · rw [hn] at e; exact h.dup a b hab hb e
      · exact absurd (h.mem _ (vN hb)) (e ▸ n1)
    · rw [if_neg ha']
      by_cases hb' : b = i
      · subst hb'
        rw [if_pos rfl]
        intro e
        rcases hn with hn | ⟨n1, n2, n3⟩
        · rw [hn] at e ⊢; exact h.dup a b hab hb e
        · exact absurd (h.mem _ (vN (show a < d.length by omega))) (e ▸ n1)
      · rw [if_neg hb']; exact h.dup a b hab hb
  · rw [List.length_set] at ha
    rw [jH hid]
    by_cases ha' : a = i
    · subst ha'
      rw [if_pos rfl, ← h.bye a ha]
      rcases hn with hn | ⟨n1, n2, n3⟩
      · rw [hn]
      · constructor
        · intro e; omega
        · intro e; exact absurd e n3
    · rw [if_neg ha']; exact h.bye a ha
  · rw [jH hid]
    by_cases ha' : a = i
    · subst ha'; rw [if_pos rfl]; exact hc
    · rw [if_neg ha']; exact h.don a (by omega)

theorem vZ {L : List aE} (hL : LOK L) {S : List Int} : ∀ {n i : Nat} {d ever : List Int} {U : List aE} {d' : List Int} {U' : List aE}, GI L S i d ever U → i + n = S.length → iA L n i d ever U = some (d', U') → ∃ ever', GI L S S.length d' ever' U'
  | 0, i, d, ever, U, d', U', h, hn, he => by
    simp only [iA, Option.some.injEq, Prod.mk.injEq] at he
    obtain ⟨rfl, rfl⟩ := he
    have : i = S.length := by omega
    subst this
    exact ⟨ever, h⟩
  | n + 1, i, d, ever, U, d', U', h, hn, he => by
    unfold iA at he
    cases hs : gS L i (L.length + 1) (d.getD i 0) ever U with
    | none => rw [hs] at he; simp at he
    | some q =>
      obtain ⟨now', ever', U1⟩ := q
      rw [hs] at he
      exact vZ hL (h.next hL (by omega) hs) (by omega) he

theorem vT {l : List aE} : (dD l).length ≤ l.length := by
  have h1 := sB l
  have h2 : (dD l).length ≤ (cA l).length := List.length_filter_le _ _
  omega

section
variable {t : aO} {l : List aE} (hl : l.length ≤ 1000) (h32 : t.Slots.length ≤ 32)

include hl in
theorem aHx (out : List Int) (used : Nat) (hu : used ≤ (dD l).length) : eE (cA l) out BIG used 0 = some (out, decide (used = (dD l).length)) := by
  have hol := sB l
  have hll := vT (l := l)
  have := eQ (S := Int) (fun k j us => eE (cA l) out k us j) (cA l).length (fun j us => some (out, decide (us = ((((cA l).drop j).filter isL).length : Int)))) (fun j us => -(j : Int) ≤ us ∧ us ≤ 1000) ?_ ?_ BIG used (cW (by omega)) ?_
  · rw [List.drop_zero] at this
    have e : decide ((used : Int) = (((cA l).filter isL).length : Int)) = decide (used = (dD l).length) := by
      unfold dD
      rw [Bool.eq_iff_iff]; simp only [decide_eq_true_eq]; omega
    rw [← e]
    exact this
  · intro k j us hj ⟨hI1, hI2⟩ ih
    rw [List.drop_eq_getElem_cons hj, List.filter_cons]
    simp only [eE, Int.ofNat_lt, hj, decide_true, cond_true, cK hj, Option.bind_some, cI (show j < 9223372036854775807 by omega)]
    by_cases hk : (cA l)[j].Kind = 5
    · have hL : isL (cA l)[j] = true := by simp [isL, hk]
      simp only [hk, hL, decide_true, cond_true, if_true]
      rw [eT (by omega) (by omega), ih _ (by omega)]
      simp only [List.length_cons]
      congr 2
      rw [Bool.eq_iff_iff]; simp only [decide_eq_true_eq]; omega
    · have hL : isL (cA l)[j] = false := by simp [isL, hk]
      simp only [hk, hL, decide_false, cond_false, Bool.false_eq_true, if_false]
      exact ih us (by omega)
  · intro k us _
    simp [eE, mO]
  · omega

/-- The outcome of Players. -/
def wB (t : aO) (l : List aE) : Option (List Int × List aE) := iA (dD l) t.Slots.length 0 t.Slots t.Slots []
theorem vD (L : List aE) {S : List Int} (h : tA S) : GI L S 0 S S [] := by
  refine ⟨by simp, by simp, by simp, by simp, rfl, fun _ _ => rfl, fun x h => h, fun a b hab hb e => ?_, fun _ _ => .rfl, by simp⟩
  rw [bP (by omega), bP hb] at e
  rw [bP hb]
  exact h.dup b hb a hab e

include hl h32 in
theorem aGf (hT : tA t.Slots) (hL : LOK (dD l)) : kB t l = some (match wB t l with
    | none => ([], false)
    | some (d, U) => (d, decide (U.length = (dD l).length))) := by
  have hll := vT (l := l)
  unfold kB
  rw [aFx l hl, Option.bind_some, gB (by simp; omega), Option.bind_some, List.nil_append]
  have key : ∀ n i d ever U k, GI (dD l) t.Slots i d ever U → i + n = t.Slots.length → n < k → dO (cA l) t k U.length i (d.take i) ever = some (match iA (dD l) n i d ever U with
      | none => ([], false)
      | some (d, U) => (d, decide (U.length = (dD l).length))) := by
    intro n
    induction n with
    | zero =>
      intro i d ever U k hG hi hk
      cases k with
      | zero => omega
      | succ k =>
        have hlt : decide ((i : Int) < (t.Slots.length : Int)) = false := decide_eq_false (by omega)
        have hta : d.take i = d := List.take_of_length_le (by rw [hG.len]; omega)
        simp only [dO, hlt, cond_false, mM, hta, iA]
        exact aHx hl d U.length (lH hG.un hG.us)
    | succ n ih =>
      intro i d ever U k hG hi hk
      cases k with
      | zero => omega
      | succ k =>
        have hlt : i < t.Slots.length := by omega
        have hid : i < d.length := by rw [hG.len]; exact hlt
        have hnow : t.Slots[i] = d.getD i 0 := by rw [hG.dr i (by omega), bP hlt]
        have hsl := aKq hl h32 (dO (cA l) t k) i (d.take i) ((dD l).length + 1) BIG (d.getD i 0) ever U (hG.start hlt) (by omega) (cW (by omega))
        simp only [dO, Int.ofNat_lt, hlt, decide_true, cond_true, cK hlt, Option.bind_some, hnow, hsl, iA]
        cases hs : gS (dD l) i ((dD l).length + 1) (d.getD i 0) ever U with
        | none => rfl
        | some q =>
          obtain ⟨now', ever', U'⟩ := q
          simp only [kJ, mN]
          rw [gB (by simp; omega), Option.bind_some, cI (by omega)]
          have ht : d.take i ++ [now'] = (d.set i now').take (i + 1) := by
            rw [List.take_succ_eq_append_getElem (by rw [List.length_set]; exact hid), List.take_set_of_le (Nat.le_refl i)]
            simp
          rw [ht]
          exact ih (i + 1) (d.set i now') ever' U' k (hG.next hL hlt hs) (by omega) (by omega)
  have := key t.Slots.length 0 t.Slots t.Slots [] BIG (vD _ hT) (by omega) (cW (by omega))
  simpa [wB] using this
end
end Go.Am
