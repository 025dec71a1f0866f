/- Layer 7, plain: all slots; the reference's Players. -/
import Derived.Test.YtenffgkkeafnpaaBrPlain4
namespace Go.Am

/-- Valid lucky slips. -/
def LOK (L : List aD) : Prop := ∀ s ∈ L, 0 ≤ s.Player ∧ 0 ≤ s.Old

theorem vV {L : List aD} (hL : LOK L) {T : Nat} {i : Int} : ∀ {n : Nat} {now : Int} {ever : List Int} {U : List aD} {now' : Int} {ever' : List Int} {U' : List aD},
    SI L T i now ever U → gI L i n now ever U = some (now', ever', U') →
    SI L T i now' ever' U' ∧ (∀ x ∈ ever, x ∈ ever') ∧ (now' = now ∨ (now' ∉ ever ∧ 0 ≤ now' ∧ now ≠ -1)) ∧ fI L i now' = []
  | 0, _, _, _, _, _, _, _, h => by simp [gI] at h
  | n + 1, now, ever, U, now', ever', U', hS, h => by
    unfold gI at h
    cases hc : fI L i now with
    | nil =>
      rw [hc] at h
      simp only [Option.some.injEq, Prod.mk.injEq] at h
      obtain ⟨rfl, rfl, rfl⟩ := h
      exact ⟨hS, fun x hx => hx, .inl rfl, hc⟩
    | cons s cs =>
      cases cs with
      | cons s2 cs => simp [hc] at h
      | nil =>
        have hs : s ∈ fI L i now := by rw [hc]; simp
        obtain ⟨m1, m2, m3⟩ := mJ.1 hs
        obtain ⟨p1, p2⟩ := hL s m1
        rw [hc] at h
        by_cases hp : s.Player ∈ ever
        · simp [hp] at h
        · simp only [hp, if_false] at h
          obtain ⟨r1, r2, r3, r4⟩ := vV hL (hS.next hs hp) h
          refine ⟨r1, fun x hx => r2 x (List.mem_append_left _ hx), ?_, r4⟩
          rcases r3 with rfl | ⟨a, b, c⟩
          · exact .inr ⟨hp, p1, by omega⟩
          · exact .inr ⟨fun hx => a (List.mem_append_left _ hx), b, by omega⟩

/-- What holds between the slots. -/
structure GI (L : List aD) (S : List Int) (i : Nat) (d ever : List Int) (U : List aD) : Prop where
  un : U.Nodup
  us : ∀ u ∈ U, u ∈ L
  el : ever.length = S.length + U.length
  pl : ∀ u ∈ U, u.Place < i
  len : d.length = S.length
  dr : ∀ j, i ≤ j → d.getD j 0 = S.getD j 0
  mem : ∀ x ∈ d, x ∈ ever
  dup : ∀ a b, a < b → b < d.length → d.getD a 0 = d.getD b 0 → d.getD b 0 = -1
  bye : ∀ a, a < d.length → (d.getD a 0 = -1 ↔ S.getD a 0 = -1)
  don : ∀ a : Nat, a < i → fI L a (d.getD a 0) = []
theorem vD {l : List Int} {i : Nat} (h : i < l.length) : l.getD i 0 ∈ l := by rw [bJ h]; exact List.getElem_mem h
theorem GI.start {L : List aD} {S : List Int} {i : Nat} {d ever : List Int} {U : List aD} (h : GI L S i d ever U) (hi : i < S.length) : SI L S.length i (d.getD i 0) ever U :=
  ⟨h.un, h.us, h.mem _ (vD (by rw [h.len]; exact hi)), fun u hu => by have := h.pl u hu; omega, fun u hu e => by have := h.pl u hu; omega, h.el⟩
theorem jB {l : List Int} {i j : Nat} {v : Int} (hi : i < l.length) : (l.set i v).getD j 0 = if j = i then v else l.getD j 0 := by
  by_cases h : j = i
  · subst h; simp [List.getD, hi]
  · simp [List.getD, h, List.getElem?_set, Ne.symm h]
theorem GI.next {L : List aD} (hL : LOK L) {S : List Int} {i : Nat} {d ever : List Int} {U : List aD} (h : GI L S i d ever U) (hi : i < S.length) {n : Nat} {now' : Int} {ever' : List Int} {U' : List aD}
    (hs : gI L i n (d.getD i 0) ever U = some (now', ever', U')) : GI L S (i + 1) (d.set i now') ever' U' := by
  obtain ⟨hS, hev, hn, hc⟩ := vV hL (h.start hi) hs
  have hid : i < d.length := by rw [h.len]; exact hi
  refine ⟨hS.un, hS.us, hS.el, fun u hu => by have := hS.pl u hu; omega, by rw [List.length_set, h.len], fun j hj => ?_, fun x hx => ?_, fun a b hab hb => ?_, fun a ha => ?_, fun a ha => ?_⟩
  · rw [jB hid, if_neg (by omega)]; exact h.dr j (by omega)
  · rcases List.mem_or_eq_of_mem_set hx with hx | rfl
    · exact hev x (h.mem x hx)
    · exact hS.ne
  · rw [List.length_set] at hb
    rw [jB hid, jB hid]
    by_cases ha' : a = i
    · subst ha'
      rw [if_pos rfl, if_neg (by omega)]
      intro e
      rcases hn with hn | ⟨n1, n2, n3⟩
      · rw [hn] at e; exact h.dup a b hab hb e
      · exact absurd (h.mem _ (vD hb)) (e ▸ n1)
    · rw [if_neg ha']
      by_cases hb' : b = i
      · subst hb'
        rw [if_pos rfl]
        intro e
        rcases hn with hn | ⟨n1, n2, n3⟩
        · rw [hn] at e ⊢; exact h.dup a b hab hb e
        · exact absurd (h.mem _ (vD (show a < d.length by omega))) (e ▸ n1)
      · rw [if_neg hb']; exact h.dup a b hab hb
  · rw [List.length_set] at ha
    rw [jB hid]
    by_cases ha' : a = i
    · subst ha'
      rw [if_pos rfl, ← h.bye a ha]
      rcases hn with hn | ⟨n1, n2, n3⟩
      · rw [hn]
      · constructor
        · intro e; omega
        · intro e; exact absurd e n3
    · rw [if_neg ha']; exact h.bye a ha
  · rw [jB hid]
    by_cases ha' : a = i
    · subst ha'; rw [if_pos rfl]; exact hc
    · rw [if_neg ha']; exact h.don a (by omega)

theorem vN {L : List aD} (hL : LOK L) {S : List Int} : ∀ {n i : Nat} {d ever : List Int} {U : List aD} {d' : List Int} {U' : List aD}, GI L S i d ever U → i + n = S.length → gZ L n i d ever U = some (d', U') → ∃ ever', GI L S S.length d' ever' U'
  | 0, i, d, ever, U, d', U', h, hn, he => by
    simp only [gZ, Option.some.injEq, Prod.mk.injEq] at he
    obtain ⟨rfl, rfl⟩ := he
    have : i = S.length := by omega
    subst this
    exact ⟨ever, h⟩
  | n + 1, i, d, ever, U, d', U', h, hn, he => by
    unfold gZ at he
    cases hs : gI L i (L.length + 1) (d.getD i 0) ever U with
    | none => rw [hs] at he; simp at he
    | some q =>
      obtain ⟨now', ever', U1⟩ := q
      rw [hs] at he
      exact vN hL (h.next hL (by omega) hs) (by omega) he

theorem vJ {l : List aD} : (dB l).length ≤ l.length := by
  have h1 := rP l
  have h2 : (dB l).length ≤ (bV l).length := List.length_filter_le _ _
  omega

section
variable {t : aO} {l : List aD} (hl : l.length ≤ 1000) (h32 : t.Slots.length ≤ 32)

include hl in
theorem aHh (out : List Int) (used : Nat) (hu : used ≤ (dB l).length) : eA (bV l) out BIG used 0 = some (out, decide (used = (dB l).length)) := by
  have hol := rP l
  have hll := vJ (l := l)
  have := fB (S := Int) (fun k j us => eA (bV l) out k us j) (bV l).length (fun j us => some (out, decide (us = ((((bV l).drop j).filter isL).length : Int)))) (fun j us => -(j : Int) ≤ us ∧ us ≤ 1000) ?_ ?_ BIG used (cU (by omega)) ?_
  · rw [List.drop_zero] at this
    have e : decide ((used : Int) = (((bV l).filter isL).length : Int)) = decide (used = (dB l).length) := by
      unfold dB
      rw [Bool.eq_iff_iff]; simp only [decide_eq_true_eq]; omega
    rw [← e]
    exact this
  · intro k j us hj ⟨hI1, hI2⟩ ih
    rw [List.drop_eq_getElem_cons hj, List.filter_cons]
    simp only [eA, Int.ofNat_lt, hj, decide_true, cond_true, cI hj, Option.bind_some, cF (show j < 9223372036854775807 by omega)]
    by_cases hk : (bV l)[j].Kind = 5
    · have hL : isL (bV l)[j] = true := by simp [isL, hk]
      simp only [hk, hL, decide_true, cond_true, if_true]
      rw [eZ (by omega) (by omega), ih _ (by omega)]
      simp only [List.length_cons]
      congr 2
      rw [Bool.eq_iff_iff]; simp only [decide_eq_true_eq]; omega
    · have hL : isL (bV l)[j] = false := by simp [isL, hk]
      simp only [hk, hL, decide_false, cond_false, Bool.false_eq_true, if_false]
      exact ih us (by omega)
  · intro k us _
    simp [eA, mH]
  · omega

/-- The outcome of Players. -/
def vP (t : aO) (l : List aD) : Option (List Int × List aD) := gZ (dB l) t.Slots.length 0 t.Slots t.Slots []
theorem uV (L : List aD) {S : List Int} (h : sM S) : GI L S 0 S S [] := by
  refine ⟨by simp, by simp, by simp, by simp, rfl, fun _ _ => rfl, fun x h => h, fun a b hab hb e => ?_, fun _ _ => .rfl, by simp⟩
  rw [bJ (by omega), bJ hb] at e
  rw [bJ hb]
  exact h.dup b hb a hab e

include hl h32 in
theorem zI (hT : sM t.Slots) (hL : LOK (dB l)) : gP t l = some (match vP t l with
    | none => ([], false)
    | some (d, U) => (d, decide (U.length = (dB l).length))) := by
  have hll := vJ (l := l)
  unfold gP
  rw [aFe l hl, Option.bind_some, iG (by simp; omega), Option.bind_some, List.nil_append]
  have key : ∀ n i d ever U k, GI (dB l) t.Slots i d ever U → i + n = t.Slots.length → n < k → dK (bV l) t k U.length i (d.take i) ever = some (match gZ (dB l) n i d ever U with
      | none => ([], false)
      | some (d, U) => (d, decide (U.length = (dB l).length))) := by
    intro n
    induction n with
    | zero =>
      intro i d ever U k hG hi hk
      cases k with
      | zero => omega
      | succ k =>
        have hlt : decide ((i : Int) < (t.Slots.length : Int)) = false := decide_eq_false (by omega)
        have hta : d.take i = d := List.take_of_length_le (by rw [hG.len]; omega)
        simp only [dK, hlt, cond_false, mF, hta, gZ]
        exact aHh hl d U.length (lE hG.un hG.us)
    | succ n ih =>
      intro i d ever U k hG hi hk
      cases k with
      | zero => omega
      | succ k =>
        have hlt : i < t.Slots.length := by omega
        have hid : i < d.length := by rw [hG.len]; exact hlt
        have hnow : t.Slots[i] = d.getD i 0 := by rw [hG.dr i (by omega), bJ hlt]
        have hsl := aJx hl h32 (dK (bV l) t k) i (d.take i) ((dB l).length + 1) BIG (d.getD i 0) ever U (hG.start hlt) (by omega) (cU (by omega))
        simp only [dK, Int.ofNat_lt, hlt, decide_true, cond_true, cI hlt, Option.bind_some, hnow, hsl, gZ]
        cases hs : gI (dB l) i ((dB l).length + 1) (d.getD i 0) ever U with
        | none => rfl
        | some q =>
          obtain ⟨now', ever', U'⟩ := q
          simp only [kI, mG]
          rw [iG (by simp; omega), Option.bind_some, cF (by omega)]
          have ht : d.take i ++ [now'] = (d.set i now').take (i + 1) := by
            rw [List.take_succ_eq_append_getElem (by rw [List.length_set]; exact hid), List.take_set_of_le (Nat.le_refl i)]
            simp
          rw [ht]
          exact ih (i + 1) (d.set i now') ever' U' k (hG.next hL hlt hs) (by omega) (by omega)
  have := key t.Slots.length 0 t.Slots t.Slots [] BIG (uV _ hT) (by omega) (cU (by omega))
  simpa [vP] using this
end
end Go.Am
