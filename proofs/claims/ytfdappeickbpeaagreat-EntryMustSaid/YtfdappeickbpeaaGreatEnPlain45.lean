/- Plain laws, one behind the other. -/
import Derived.Test.YtfdappeickbpeaaGreatEntryListsLaw
section
namespace Go.Am
section
variable (gf : Int → Bool) (P G : Int)
def gC (xs : List Int) : Nat := (xs.filter gf).length
def uC (xs : List Int) : Nat := (xs.filter fun n => !gf n).length
def okP (acc : List Int) (n : Int) : Bool := decide ((acc.length : Int) < P) && (!gf n || decide (((gC gf acc : Nat) : Int) < G))
def grd (acc : List Int) : List Int → List Int
 | [] => acc
 | n :: t => grd (bif okP gf P G acc n then acc ++ [n] else acc) t
end
theorem aJc (l : aH) : ∀ (t acc : List Int), qF l acc t = grd (fun n => (pl l n).guard) (plc l) l.Field.Guards acc t
 | [], _ => rfl
 | n :: t, acc => by rw [qF, grd]; exact aJc l t _
section
variable {gf : Int → Bool} {P G : Int}
theorem vZ (xs : List Int) : uC gf xs + gC gf xs = xs.length := by
 induction xs with
 | nil => rfl
 | cons n t ih =>
  unfold uC gC at *
  rw [List.filter_cons, List.filter_cons]
  cases gf n <;> simp <;> omega
theorem qS (xs ys : List Int) : gC gf (xs ++ ys) = gC gf xs + gC gf ys := by unfold gC; rw [List.filter_append, List.length_append]
theorem xI (xs ys : List Int) : uC gf (xs ++ ys) = uC gf xs + uC gf ys := by unfold uC; rw [List.filter_append, List.length_append]
theorem qT (n : Int) : gC gf [n] = if gf n then 1 else 0 := by unfold gC; cases h : gf n <;> simp [h]
theorem xJ (n : Int) : uC gf [n] = if gf n then 0 else 1 := by unfold uC; cases h : gf n <;> simp [h]
theorem aLr (acc xs ys : List Int) : grd gf P G acc (xs ++ ys) = grd gf P G (grd gf P G acc xs) ys := by
 induction xs generalizing acc with
 | nil => rfl
 | cons n t ih => rw [List.cons_append, grd, grd, ih]
theorem wC (acc t : List Int) : ∃ s, grd gf P G acc t = acc ++ s ∧ s.Sublist t := by
 induction t generalizing acc with
 | nil => exact ⟨[], by simp [grd], List.Sublist.refl _⟩
 | cons n t ih =>
  rw [grd]
  cases okP gf P G acc n with
  | false =>
   obtain ⟨s, h1, h2⟩ := ih acc
   exact ⟨s, h1, h2.cons n⟩
  | true =>
   obtain ⟨s, h1, h2⟩ := ih (acc ++ [n])
   exact ⟨n :: s, by rw [cond_true, h1]; simp, h2.cons_cons n⟩
theorem aIt (acc t : List Int) (h : P ≤ (acc.length : Int)) : grd gf P G acc t = acc := by
 induction t with
 | nil => rfl
 | cons n t ih =>
  have : okP gf P G acc n = false := by unfold okP; rw [decide_eq_false (by omega), Bool.false_and]
  rw [grd, this, cond_false, ih]
theorem aGy (t acc : List Int) (hG : ((gC gf acc : Nat) : Int) ≤ G) (h : (acc.length : Int) + uC gf t + min ((gC gf t : Nat) : Int) (G - gC gf acc) < P) :
  (uC gf (grd gf P G acc t) = uC gf acc + uC gf t) ∧ ((gC gf (grd gf P G acc t) : Nat) : Int) = min (((gC gf acc + gC gf t : Nat) : Int)) G := by
 induction t generalizing acc with
 | nil => simp [grd, uC, gC] at hG ⊢; omega
 | cons n t ih =>
  have e1 : uC gf (n :: t) = uC gf [n] + uC gf t := xI [n] t
  have e2 : gC gf (n :: t) = gC gf [n] + gC gf t := qS [n] t
  rw [xJ] at e1
  rw [qT] at e2
  rw [grd]
  cases hg : gf n with
  | false =>
   rw [hg] at e1 e2
   simp only [Bool.false_eq_true, if_false] at e1 e2
   have ho : okP gf P G acc n = true := by
    unfold okP
    rw [hg, decide_eq_true (by omega)]; rfl
   have a1 := xI (gf := gf) acc [n]
   have a2 := qS (gf := gf) acc [n]
   rw [xJ, hg, if_neg (by simp)] at a1
   rw [qT, hg, if_neg (by simp)] at a2
   rw [ho, cond_true]
   have k := ih (acc ++ [n]) (by omega) (by rw [List.length_append, List.length_singleton]; omega)
   omega
  | true =>
   rw [hg] at e1 e2
   simp only [if_true] at e1 e2
   by_cases hlt : ((gC gf acc : Nat) : Int) < G
   ·have ho : okP gf P G acc n = true := by
     unfold okP
     rw [decide_eq_true (by omega), decide_eq_true hlt, Bool.or_true]; rfl
    have a1 := xI (gf := gf) acc [n]
    have a2 := qS (gf := gf) acc [n]
    rw [xJ, hg, if_pos rfl] at a1
    rw [qT, hg, if_pos rfl] at a2
    rw [ho, cond_true]
    have k := ih (acc ++ [n]) (by omega) (by rw [List.length_append, List.length_singleton]; omega)
    omega
   ·have ho : okP gf P G acc n = false := by
     unfold okP
     rw [hg, decide_eq_false hlt, Bool.not_true, Bool.or_false, Bool.and_false]
    rw [ho, cond_false]
    have k := ih acc hG (by omega)
    omega
theorem aIu (t acc : List Int) (hG : ((gC gf acc : Nat) : Int) ≤ G) (h : P ≤ (acc.length : Int) + uC gf t + min ((gC gf t : Nat) : Int) (G - gC gf acc)) : P ≤ ((grd gf P G acc t).length : Int) := by
 induction t generalizing acc with
 | nil => simp [grd, uC, gC] at hG h ⊢; omega
 | cons n t ih =>
  have e1 : uC gf (n :: t) = uC gf [n] + uC gf t := xI [n] t
  have e2 : gC gf (n :: t) = gC gf [n] + gC gf t := qS [n] t
  rw [xJ] at e1
  rw [qT] at e2
  by_cases hf : P ≤ (acc.length : Int)
  ·rw [aIt acc _ hf]; exact hf
  ·rw [grd]
   cases hg : gf n with
   | false =>
    rw [hg] at e1 e2
    simp only [Bool.false_eq_true, if_false] at e1 e2
    have ho : okP gf P G acc n = true := by
     unfold okP
     rw [hg, decide_eq_true (by omega)]; rfl
    have a2 := qS (gf := gf) acc [n]
    rw [qT, hg, if_neg (by simp)] at a2
    rw [ho, cond_true]
    exact ih (acc ++ [n]) (by omega) (by rw [List.length_append, List.length_singleton]; omega)
   | true =>
    rw [hg] at e1 e2
    simp only [if_true] at e1 e2
    by_cases hlt : ((gC gf acc : Nat) : Int) < G
    ·have ho : okP gf P G acc n = true := by
      unfold okP
      rw [decide_eq_true (by omega), decide_eq_true hlt, Bool.or_true]; rfl
     have a2 := qS (gf := gf) acc [n]
     rw [qT, hg, if_pos rfl] at a2
     rw [ho, cond_true]
     exact ih (acc ++ [n]) (by omega) (by rw [List.length_append, List.length_singleton]; omega)
    ·have ho : okP gf P G acc n = false := by
      unfold okP
      rw [hg, decide_eq_false hlt, Bool.not_true, Bool.or_false, Bool.and_false]
     rw [ho, cond_false]
     exact ih acc hG (by omega)
def cnd (P G : Int) (pg : Bool) (u g : Nat) : Prop := (u : Int) + min (g : Int) G < P ∧ (pg = true → min (g : Int) G < G)
theorem aOp {B A : List Int} {p : Int} (hG : 0 ≤ G) (hB : p ∉ B) (hA : p ∉ A) : p ∈ grd gf P G [] (B ++ p :: A) ↔ cnd P G (gf p) (uC gf B) (gC gf B) := by
 have z1 : gC gf [] = 0 := rfl
 have z2 : uC gf [] = 0 := rfl
 rw [aLr, grd]
 obtain ⟨s, h1, h2⟩ := wC (gf := gf) (P := P) (G := G) [] B
 have hpB : p ∉ grd gf P G [] B := by rw [h1]; simp; exact fun hm => hB (h2.subset hm)
 generalize hacc : grd gf P G [] B = acc at hpB
 have hin : p ∈ grd gf P G (bif okP gf P G acc p then acc ++ [p] else acc) A ↔ okP gf P G acc p = true := by
  obtain ⟨s2, h3, h4⟩ := wC (gf := gf) (P := P) (G := G) (bif okP gf P G acc p then acc ++ [p] else acc) A
  rw [h3]
  cases okP gf P G acc p with
  | true => simp
  | false =>
   simp
   exact ⟨hpB, fun hm => hA (h4.subset hm)⟩
 rw [hin]
 have hsum := vZ (gf := gf) acc
 by_cases hc : (([] : List Int).length : Int) + uC gf B + min ((gC gf B : Nat) : Int) (G - gC gf []) < P
 ·have k := aGy (gf := gf) (P := P) (G := G) B [] (by rw [z1]; omega) hc
  rw [hacc, z1, z2] at k
  rw [z1] at hc
  simp only [List.length_nil] at hc
  unfold okP cnd
  simp only [Bool.and_eq_true, Bool.or_eq_true, Bool.not_eq_true', decide_eq_true_eq]
  constructor
  ·rintro ⟨a, b⟩
   refine ⟨by omega, fun hg => ?_⟩
   rcases b with b | b
   ·rw [b] at hg; cases hg
   ·omega
  ·rintro ⟨a, b⟩
   refine ⟨by omega, ?_⟩
   cases hg : gf p with
   | false => exact .inl rfl
   | true => have := b hg; exact .inr (by omega)
 ·have k := aIu (gf := gf) (P := P) (G := G) B [] (by rw [z1]; omega) (by omega)
  rw [hacc] at k
  rw [z1] at hc
  simp only [List.length_nil] at hc
  have ho : okP gf P G acc p = false := by unfold okP; rw [decide_eq_false (by omega), Bool.false_and]
  rw [ho]
  constructor
  ·intro h; cases h
  ·rintro ⟨a, _⟩; omega
def Fe (P G : Int) (pg : Bool) (u g n : Nat) : Prop := ∃ x y, x ≤ u ∧ y ≤ g ∧ x + y = n ∧ cnd P G pg (u - x) (g - y)
theorem aFf {pg : Bool} {u g : Nat} : Fe P G pg u g 0 ↔ cnd P G pg u g := by
 constructor
 ·rintro ⟨x, y, _, _, h, hc⟩
  obtain rfl : x = 0 := by omega
  obtain rfl : y = 0 := by omega
  exact hc
 ·intro h; exact ⟨0, 0, by omega, by omega, rfl, h⟩
theorem aVj {pg : Bool} {u g n : Nat} (hu : 0 < u) (h : Fe P G pg (u - 1) g n) : Fe P G pg u g (n + 1) := by
 obtain ⟨x, y, h1, h2, h3, h4⟩ := h
 exact ⟨x + 1, y, by omega, h2, by omega, by rw [show u - (x + 1) = u - 1 - x by omega]; exact h4⟩
theorem aVi {pg : Bool} {u g n : Nat} (hg : 0 < g) (h : Fe P G pg u (g - 1) n) : Fe P G pg u g (n + 1) := by
 obtain ⟨x, y, h1, h2, h3, h4⟩ := h
 exact ⟨x, y + 1, h1, by omega, by omega, by rw [show g - (y + 1) = g - 1 - y by omega]; exact h4⟩
end
end Go.Am
end
section
namespace Go.Am
section
variable {gf : Int → Bool} {P G : Int}
theorem xX {xs : List Int} (hn : xs.Nodup) {k : Int} : uC gf (xs.filter fun n => !decide (n = k)) = if k ∈ xs ∧ gf k = false then uC gf xs - 1 else uC gf xs := by
 unfold uC
 rw [List.filter_filter, show (xs.filter fun a => !gf a && !decide (a = k)) = (xs.filter fun n => !gf n).filter fun a => !decide (a = k) by rw [List.filter_filter]; exact List.filter_congr fun a _ => Bool.and_comm _ _]
 by_cases h : k ∈ xs ∧ gf k = false
 ·rw [if_pos h]
  have := aGs (hn.filter fun n => !gf n) (n := k) (List.mem_filter.2 ⟨h.1, by simp [h.2]⟩)
  omega
 ·rw [if_neg h, List.filter_eq_self.2 fun a ha => ?_]
  have h2 := List.mem_filter.1 ha
  by_cases e : a = k
  ·exact absurd ⟨e ▸ h2.1, by rw [← e]; simpa using h2.2⟩ h
  ·simp [e]
theorem xR {xs : List Int} (hn : xs.Nodup) {k : Int} : gC gf (xs.filter fun n => !decide (n = k)) = if k ∈ xs ∧ gf k = true then gC gf xs - 1 else gC gf xs := by
 unfold gC
 rw [List.filter_filter, show (xs.filter fun a => gf a && !decide (a = k)) = (xs.filter fun n => gf n).filter fun a => !decide (a = k) by rw [List.filter_filter]; exact List.filter_congr fun a _ => Bool.and_comm _ _]
 by_cases h : k ∈ xs ∧ gf k = true
 ·rw [if_pos h]
  have := aGs (hn.filter fun n => gf n) (n := k) (List.mem_filter.2 ⟨h.1, h.2⟩)
  have e : (xs.filter gf) = xs.filter fun n => gf n := rfl
  rw [e]
  omega
 ·rw [if_neg h, List.filter_eq_self.2 fun a ha => ?_]
  have h2 := List.mem_filter.1 ha
  by_cases e : a = k
  ·exact absurd ⟨e ▸ h2.1, by rw [← e]; simpa using h2.2⟩ h
  ·simp [e]
theorem aPw {xs : List Int} {k : Int} (h : k ∈ xs) (hg : gf k = false) : 0 < uC gf xs := by
 unfold uC
 exact List.length_pos_of_mem (List.mem_filter.2 ⟨h, by simp [hg]⟩)
theorem aOn {xs : List Int} {k : Int} (h : k ∈ xs) (hg : gf k = true) : 0 < gC gf xs := by
 unfold gC
 exact List.length_pos_of_mem (List.mem_filter.2 ⟨h, hg⟩)
theorem aSd {pg : Bool} {B : List Int} (hn : B.Nodup) {k : Int} {n : Nat} (h : Fe P G pg (uC gf (B.filter fun n => !decide (n = k))) (gC gf (B.filter fun n => !decide (n = k))) n) : ∃ m, m ≤ n + 1 ∧ Fe P G pg (uC gf B) (gC gf B) m := by
 rw [xX hn, xR hn] at h
 by_cases hk : k ∈ B
 ·cases hg : gf k with
  | false =>
   rw [if_pos ⟨hk, hg⟩, if_neg (by simp [hg])] at h
   exact ⟨n + 1, Nat.le_refl _, aVj (aPw hk hg) h⟩
  | true =>
   rw [if_neg (by simp [hg]), if_pos ⟨hk, hg⟩] at h
   exact ⟨n + 1, Nat.le_refl _, aVi (aOn hk hg) h⟩
 ·rw [if_neg (by simp [hk]), if_neg (by simp [hk])] at h
  exact ⟨n, by omega, h⟩
theorem aAw (b : Bool) : ∀ (t acc : List Int) {m : Int}, m ∈ grd gf P G acc t → m ∉ acc → gf m = b → (∀ a ∈ acc, gf a ≠ b) → ∃ k, t.find? (fun n => decide (gf n = b)) = some k ∧ k ∈ grd gf P G acc t
 | [], acc, m, hm, ha, _, _ => absurd hm ha
 | n :: t, acc, m, hm, ha, hb, hno => by
  rw [List.find?_cons]
  by_cases e : gf n = b
  ·rw [decide_eq_true e]
   refine ⟨n, rfl, ?_⟩
   rw [grd] at hm ⊢
   cases ho : okP gf P G acc n with
   | true =>
    rw [cond_true]
    obtain ⟨s, h1, _⟩ := wC (gf := gf) (P := P) (G := G) (acc ++ [n]) t
    rw [h1]; simp
   | false =>
    rw [ho, cond_false] at hm
    exfalso
    unfold okP at ho
    by_cases hp : (acc.length : Int) < P
    ·rw [decide_eq_true hp, Bool.true_and, Bool.or_eq_false_iff, Bool.not_eq_false', decide_eq_false_iff_not] at ho
     have hbt : b = true := by rw [← e]; exact ho.1
     subst hbt
     have z : gC gf acc = 0 := by
      unfold gC
      rw [List.length_eq_zero_iff, List.filter_eq_nil_iff]
      exact fun a haa => hno a haa
     have key : ∀ (t acc : List Int), ¬ ((gC gf acc : Nat) : Int) < G → ∀ x ∈ grd gf P G acc t, x ∈ acc ∨ gf x = false := by
      intro t
      induction t with
      | nil => intro acc _ x hx; exact .inl hx
      | cons y t ih =>
       intro acc hG x hx
       rw [grd] at hx
       cases hy : gf y with
       | true =>
        have : okP gf P G acc y = false := by unfold okP; rw [hy, decide_eq_false hG, Bool.not_true, Bool.or_false, Bool.and_false]
        rw [this, cond_false] at hx
        exact ih acc hG x hx
       | false =>
        cases hoy : okP gf P G acc y with
        | false => rw [hoy, cond_false] at hx; exact ih acc hG x hx
        | true =>
         rw [hoy, cond_true] at hx
         have a2 := qS (gf := gf) acc [y]
         rw [qT, hy, if_neg (by simp)] at a2
         rcases ih (acc ++ [y]) (by rw [a2]; exact hG) x hx with h | h
         ·rcases List.mem_append.1 h with h | h
          ·exact .inl h
          ·rw [List.mem_singleton.1 h]; exact .inr hy
         ·exact .inr h
     rcases key t acc (by omega) m hm with h | h
     ·exact ha h
     ·rw [hb] at h; cases h
    ·rw [aIt acc t (by omega)] at hm
     exact ha hm
  ·rw [decide_eq_false e]
   rw [grd] at hm ⊢
   have hmn : m ≠ n := fun e2 => e (e2 ▸ hb)
   refine aAw b t _ hm ?_ hb fun a haa => ?_
   ·cases okP gf P G acc n with
    | false => exact ha
    | true => rw [cond_true, List.mem_append, List.mem_singleton]; exact fun h => h.elim ha hmn
   ·cases ho : okP gf P G acc n with
    | false => rw [ho] at haa; exact hno a haa
    | true =>
     rw [ho, cond_true, List.mem_append, List.mem_singleton] at haa
     rcases haa with h | h
     ·exact hno a h
     ·rw [h]; exact e
theorem aKo {q : Int → Bool} {B A : List Int} {p : Int} (h : ∃ m ∈ B, q m = true) : (B ++ p :: A).find? q = B.find? q := by
 obtain ⟨m, hm, hq⟩ := h
 rw [List.find?_append]
 cases hf : B.find? q with
 | none => exact absurd hq (by simpa using List.find?_eq_none.1 hf m hm)
 | some k => rfl
theorem aSe {B A : List Int} {p : Int} (hP : 1 ≤ P) (hG : 0 ≤ G) (hn : (B ++ p :: A).Nodup) {n : Nat} (h : Fe P G (gf p) (uC gf B) (gC gf B) (n + 1)) (hmin : ∀ m, m < n + 1 → ¬ Fe P G (gf p) (uC gf B) (gC gf B) m) :
  ∃ b k, (B ++ p :: A).find? (fun n => decide (gf n = b)) = some k ∧ k ∈ grd gf P G [] (B ++ p :: A) ∧ k ∈ B ∧ Fe P G (gf p) (uC gf (B.filter fun n => !decide (n = k))) (gC gf (B.filter fun n => !decide (n = k))) n := by
 have n1 := List.nodup_append.1 hn
 obtain ⟨x, y, hx, hy, hxy, hc⟩ := h
 have first : ∀ b, (∃ m ∈ B, gf m = b) → ∃ k, B.find? (fun n => decide (gf n = b)) = some k ∧ k ∈ B ∧ gf k = b ∧ (B ++ p :: A).find? (fun n => decide (gf n = b)) = some k := fun b ⟨m, hm, hb⟩ => by
  have hfb := aKo (q := fun n => decide (gf n = b)) (A := A) (p := p) ⟨m, hm, decide_eq_true hb⟩
  cases hf : B.find? (fun n => decide (gf n = b)) with
  | none => exact absurd (decide_eq_true hb) (List.find?_eq_none.1 hf m hm)
  | some k =>
   have := List.find?_some hf
   exact ⟨k, rfl, List.mem_of_find?_eq_some hf, by simpa using this, hfb.trans hf⟩
 have hu1 : 0 < x → ∃ m ∈ B, gf m = false := fun h0 => by
  have : 0 < (B.filter fun n => !gf n).length := by have : uC gf B = (B.filter fun n => !gf n).length := rfl; omega
  obtain ⟨m, hm⟩ := List.exists_mem_of_length_pos this
  have := List.mem_filter.1 hm
  exact ⟨m, this.1, by simpa using this.2⟩
 have hg1 : 0 < y → ∃ m ∈ B, gf m = true := fun h0 => by
  have : 0 < (B.filter gf).length := by have : gC gf B = (B.filter gf).length := rfl; omega
  obtain ⟨m, hm⟩ := List.exists_mem_of_length_pos this
  have := List.mem_filter.1 hm
  exact ⟨m, this.1, this.2⟩
 have useU : ∀ k, k ∈ B → gf k = false → 0 < x → Fe P G (gf p) (uC gf (B.filter fun n => !decide (n = k))) (gC gf (B.filter fun n => !decide (n = k))) n := fun k hk hg h0 => by
  rw [xX n1.1, xR n1.1, if_pos ⟨hk, hg⟩, if_neg (by simp [hg])]
  exact ⟨x - 1, y, by omega, hy, by omega, by rw [show uC gf B - 1 - (x - 1) = uC gf B - x by omega]; exact hc⟩
 have useG : ∀ k, k ∈ B → gf k = true → 0 < y → Fe P G (gf p) (uC gf (B.filter fun n => !decide (n = k))) (gC gf (B.filter fun n => !decide (n = k))) n := fun k hk hg h0 => by
  rw [xX n1.1, xR n1.1, if_neg (by simp [hg]), if_pos ⟨hk, hg⟩]
  exact ⟨x, y - 1, hx, by omega, by omega, by rw [show gC gf B - 1 - (y - 1) = gC gf B - y by omega]; exact hc⟩
 by_cases hU : 0 < x ∧ ∃ m ∈ grd gf P G [] (B ++ p :: A), gf m = false
 ·obtain ⟨h0, m, hm, hgm⟩ := hU
  obtain ⟨k, hk1, hk2, hk3, hk4⟩ := first false (hu1 h0)
  obtain ⟨k2, hk5, hk6⟩ := aAw false (B ++ p :: A) [] hm (by simp) hgm (by simp)
  rw [hk4] at hk5
  obtain rfl : k = k2 := by simpa using hk5
  exact ⟨false, k, hk4, hk6, hk2, useU k hk2 hk3 h0⟩
 ·by_cases hg0 : 0 < y ∧ ∃ m ∈ grd gf P G [] (B ++ p :: A), gf m = true
  ·obtain ⟨h0, m, hm, hgm⟩ := hg0
   obtain ⟨k, hk1, hk2, hk3, hk4⟩ := first true (hg1 h0)
   obtain ⟨k2, hk5, hk6⟩ := aAw true (B ++ p :: A) [] hm (by simp) hgm (by simp)
   rw [hk4] at hk5
   obtain rfl : k = k2 := by simpa using hk5
   exact ⟨true, k, hk4, hk6, hk2, useG k hk2 hk3 h0⟩
  ·exfalso
   have z1 : gC gf [] = 0 := rfl
   have z2 : uC gf [] = 0 := rfl
   obtain ⟨s2, h3, h4⟩ := wC (gf := gf) (P := P) (G := G) (grd gf P G [] B) (p :: A)
   have hsub : ∀ m ∈ grd gf P G [] B, m ∈ grd gf P G [] (B ++ p :: A) := fun m hm => by rw [aLr, h3]; simp [hm]
   have hsum := vZ (gf := gf) (grd gf P G [] B)
   have hnot : ¬ cnd P G (gf p) (uC gf B) (gC gf B) := fun hcc => hmin 0 (by omega) (aFf.2 hcc)
   have zero : ∀ b, (¬ ∃ m ∈ grd gf P G [] (B ++ p :: A), gf m = b) → ((grd gf P G [] B).filter fun n => decide (gf n = b)) = [] := fun b hno => by
    rw [List.filter_eq_nil_iff]
    intro m hm e
    exact hno ⟨m, hsub m hm, by simpa using e⟩
   have zu : (¬ ∃ m ∈ grd gf P G [] (B ++ p :: A), gf m = false) → uC gf (grd gf P G [] B) = 0 := fun hno => by
    have := zero false hno
    have e : ((grd gf P G [] B).filter fun n => !gf n) = (grd gf P G [] B).filter fun n => decide (gf n = false) := List.filter_congr fun a _ => by cases gf a <;> rfl
    unfold uC
    rw [e, this]; rfl
   have zg : (¬ ∃ m ∈ grd gf P G [] (B ++ p :: A), gf m = true) → gC gf (grd gf P G [] B) = 0 := fun hno => by
    have := zero true hno
    have e : ((grd gf P G [] B).filter gf) = (grd gf P G [] B).filter fun n => decide (gf n = true) := List.filter_congr fun a _ => by cases gf a <;> rfl
    unfold gC
    rw [e, this]; rfl
   obtain ⟨hc1, hc2⟩ := hc
   by_cases hroom : (([] : List Int).length : Int) + uC gf B + min ((gC gf B : Nat) : Int) (G - gC gf []) < P
   ·have k := aGy (gf := gf) (P := P) (G := G) B [] (by rw [z1]; omega) hroom
    rw [z1, z2] at k
    rw [z1] at hroom
    simp only [List.length_nil] at hroom
    by_cases h0 : 0 < x
    ·have := zu fun hh => hU ⟨h0, hh⟩
     omega
    ·have hy0 : 0 < y := by omega
     have := zg fun hh => hg0 ⟨hy0, hh⟩
     have hg2 : 0 < gC gf B := by omega
     have hG0 : G = 0 := by omega
     refine hnot ⟨by omega, fun hpg => ?_⟩
     have := hc2 hpg
     omega
   ·have k := aIu (gf := gf) (P := P) (G := G) B [] (by rw [z1]; omega) (by omega)
    have hlen : (grd gf P G [] B).length ≤ uC gf B + gC gf B := by
     obtain ⟨s, h5, h6⟩ := wC (gf := gf) (P := P) (G := G) [] B
     rw [h5]; simp
     have := h6.length_le
     have := vZ (gf := gf) B
     omega
    have hsl : (grd gf P G [] B).Sublist B := by
     obtain ⟨s, h5, h6⟩ := wC (gf := gf) (P := P) (G := G) [] B
     rw [h5]; simpa using h6
    have hul : uC gf (grd gf P G [] B) ≤ uC gf B := by unfold uC; exact (hsl.filter _).length_le
    have hgl : gC gf (grd gf P G [] B) ≤ gC gf B := by unfold gC; exact (hsl.filter _).length_le
    have hcap : ((gC gf (grd gf P G [] B) : Nat) : Int) ≤ G := by
     have : ∀ (t acc : List Int), ((gC gf acc : Nat) : Int) ≤ G → ((gC gf (grd gf P G acc t) : Nat) : Int) ≤ G := by
      intro t
      induction t with
      | nil => intro acc h; exact h
      | cons n t ih =>
       intro acc h
       rw [grd]
       refine ih _ ?_
       cases ho : okP gf P G acc n with
       | false => exact h
       | true =>
        rw [cond_true, qS, qT]
        unfold okP at ho
        cases hg : gf n with
        | false => simp; exact h
        | true =>
         rw [hg] at ho
         simp only [Bool.not_true, Bool.false_or, Bool.and_eq_true, decide_eq_true_eq] at ho
         simp only [if_true]
         omega
     exact this B [] (by rw [z1]; omega)
    by_cases h0 : 0 < x
    ·have e1 := zu fun hh => hU ⟨h0, hh⟩
     by_cases hy0 : 0 < y
     ·have e2 := zg fun hh => hg0 ⟨hy0, hh⟩
      omega
     ·obtain rfl : y = 0 := by omega
      rw [Nat.sub_zero] at hc1
      omega
    ·obtain rfl : x = 0 := by omega
     have hy0 : 0 < y := by omega
     have e2 := zg fun hh => hg0 ⟨hy0, hh⟩
     rw [Nat.sub_zero] at hc1
     omega
end
end Go.Am
end
section
namespace Go.Am
def aHp (Q : Nat → Prop) (r : Int) : Prop := (r = 61 ∧ ∀ n, ¬ Q n) ∨ ∃ n : Nat, r = n ∧ n ≤ 60 ∧ Q n ∧ ∀ m, m < n → ¬ Q m
def fes (l : aH) (p : Int) (u g : Nat) (x y : Nat) : Prop := x ≤ u ∧ y ≤ g ∧ cnd (plc l) l.Field.Guards (pl l p).guard (u - x) (g - y)
def aHs (l : aH) (p : Int) (u g : Nat) (b : Int) (Z : Nat → Nat → Prop) : Prop := (b = 61 ∨ ∃ x y, fes l p u g x y ∧ b = ((x + y : Nat) : Int)) ∧ ∀ x y, Z x y → fes l p u g x y → b ≤ ((x + y : Nat) : Int)
theorem aNr {l : aH} (h : WF l) (again : Int → Int → Option Int) (p : Int) (u g x : Nat) (hu : u + g ≤ 60) (hx : x ≤ u) (t36 : Int) (Gl : Option Int → Prop)
  (hk : ∀ b, 0 ≤ b ∧ b ≤ 61 → aHs l p u g b (fun x' _ => x' < x + 1) → Gl (again b ((x + 1 : Nat) : Int))) (b : Int) (hb : 0 ≤ b ∧ b ≤ 61) (hs : aHs l p u g b (fun x' _ => x' < x)) :
  Gl (dP again l p (u : Int) (g : Int) (x : Int) t36 (x : Int) (w64 ((g : Int) + 1)) BIG b 0) := by
 have hp := oH h
 have hG := aAo h
 have hG2 : l.Field.Guards ≤ 32 := by
  have := h.fd
  unfold qG at this
  simp only [Bool.and_eq_true, rZ] at this
  omega
 have hg1 : w64 ((g : Int) + 1) = ((g + 1 : Nat) : Int) := bU (by omega)
 rw [hg1]
 refine qV (S := Int) (fun k j b => dP again l p (u : Int) (g : Int) (x : Int) t36 (x : Int) ((g + 1 : Nat) : Int) k b j) (g + 1) Gl (fun y b => 0 ≤ b ∧ b ≤ 61 ∧ y ≤ g + 1 ∧ aHs l p u g b (fun x' y' => x' < x ∨ (x' = x ∧ y' < y))) (fun k y b hy hI ih => ?_) (fun k y b hy hI => ?_) BIG 0 b (dC (by omega)) ⟨hb.1, hb.2, by omega, hs.1, fun x' y' hz hf => hs.2 x' y' (by omega) hf⟩
 ·obtain ⟨h1, h2, h3, h4, h5⟩ := hI
  simp only [dP, show decide ((y : Int) < ((g + 1 : Nat) : Int)) = true from decide_eq_true (by omega), cond_true, qX h, Option.bind_some, lE, jQ, bU (show y < 9223372036854775807 by omega)]
  rw [cR (n := (u : Int) - (x : Int)) (by omega) (by omega), cR (n := (g : Int) - (y : Int)) (by omega) (by omega), cR (n := (u : Int) - (x : Int) + min ((g : Int) - (y : Int)) l.Field.Guards) (by omega) (by omega), cR (n := (x : Int) + (y : Int)) (by omega) (by omega), aBg]
  have hcd : (decide ((u : Int) - (x : Int) + min ((g : Int) - (y : Int)) l.Field.Guards < plc l) && (!(pl l p).guard || decide (min ((g : Int) - (y : Int)) l.Field.Guards < l.Field.Guards))) = true ↔ fes l p u g x y := by
   unfold fes cnd
   rw [show ((u - x : Nat) : Int) = (u : Int) - x by omega, show ((g - y : Nat) : Int) = (g : Int) - y by omega]
   simp only [Bool.and_eq_true, Bool.or_eq_true, Bool.not_eq_true', decide_eq_true_eq]
   constructor
   ·rintro ⟨a, c⟩
    refine ⟨hx, by omega, a, fun hgd => ?_⟩
    rcases c with c | c
    ·rw [c] at hgd; cases hgd
    ·exact c
   ·rintro ⟨_, _, a, c⟩
    refine ⟨a, ?_⟩
    cases hgd : (pl l p).guard with
    | false => exact .inl rfl
    | true => exact .inr (c hgd)
  cases hc : decide ((u : Int) - (x : Int) + min ((g : Int) - (y : Int)) l.Field.Guards < plc l) && (!(pl l p).guard || decide (min ((g : Int) - (y : Int)) l.Field.Guards < l.Field.Guards)) with
  | true =>
   rw [cond_true]
   have hf := hcd.1 hc
   refine ih _ ⟨by omega, by omega, by omega, ?_, fun x' y' hz hf' => ?_⟩
   ·by_cases hle : b ≤ (x : Int) + (y : Int)
    ·rw [Int.min_eq_left hle]; exact h4
    ·rw [Int.min_eq_right (by omega)]; exact .inr ⟨x, y, hf, by omega⟩
   ·by_cases he : x' = x ∧ y' = y
    ·obtain ⟨rfl, rfl⟩ := he; omega
    ·have := h5 x' y' (by omega) hf'; omega
  | false =>
   rw [cond_false]
   refine ih _ ⟨h1, h2, by omega, h4, fun x' y' hz hf' => ?_⟩
   by_cases he : x' = x ∧ y' = y
   ·obtain ⟨rfl, rfl⟩ := he
    rw [hcd.2 hf'] at hc; cases hc
   ·exact h5 x' y' (by omega) hf'
 ·obtain ⟨h1, h2, h3, h4, h5⟩ := hI
  obtain rfl : y = g + 1 := by omega
  simp only [dP, show decide (((g + 1 : Nat) : Int) < ((g + 1 : Nat) : Int)) = false from decide_eq_false (by omega), cond_false, mK, mJ, bU (show x < 9223372036854775807 by omega)]
  refine hk b ⟨h1, h2⟩ ⟨h4, fun x' y' hz hf' => h5 x' y' ?_ hf'⟩
  have := hf'.2.1
  omega
theorem aNq {l : aH} (h : WF l) (p : Int) (u g : Nat) (hu : u + g ≤ 60) : ∃ r, fN l p (u : Int) (g : Int) = some r ∧ aHp (Fe (plc l) l.Field.Guards (pl l p).guard u g) r := by
 unfold fN
 rw [bU (by omega)]
 refine qV (S := Int) (fun k j b => dE l p (u : Int) (g : Int) ((u + 1 : Nat) : Int) k b j) (u + 1) (fun o => ∃ r, o = some r ∧ aHp (Fe (plc l) l.Field.Guards (pl l p).guard u g) r) (fun x b => 0 ≤ b ∧ b ≤ 61 ∧ x ≤ u + 1 ∧ aHs l p u g b (fun x' _ => x' < x)) (fun k x b hx hI ih => ?_) (fun k x b hx hI => ?_) BIG 0 61 (dC (by omega)) ⟨by omega, by omega, by omega, .inl rfl, fun x' y' hz => by omega⟩
 ·obtain ⟨h1, h2, h3, h4⟩ := hI
  simp only [dE, show decide ((x : Int) < ((u + 1 : Nat) : Int)) = true from decide_eq_true (by omega), cond_true]
  exact aNr h (fun b j => dE l p (u : Int) (g : Int) ((u + 1 : Nat) : Int) k b j) p u g x hu (by omega) _ (fun o => ∃ r, o = some r ∧ aHp (Fe (plc l) l.Field.Guards (pl l p).guard u g) r) (fun b hb hs => ih b ⟨hb.1, hb.2, by omega, hs⟩) b ⟨h1, h2⟩ h4
 ·obtain ⟨h1, h2, h3, h4, h5⟩ := hI
  obtain rfl : x = u + 1 := by omega
  simp only [dE, show decide (((u + 1 : Nat) : Int) < ((u + 1 : Nat) : Int)) = false from decide_eq_false (by omega), cond_false, mI]
  refine ⟨b, rfl, ?_⟩
  have low : ∀ n, Fe (plc l) l.Field.Guards (pl l p).guard u g n → b ≤ (n : Int) ∧ n ≤ 60 := fun n hn => by
   obtain ⟨x, y, a1, a2, a3, a4⟩ := hn
   have := h5 x y (by omega) ⟨a1, a2, a4⟩
   omega
  rcases h4 with h4 | ⟨x, y, hf, he⟩
  ·refine .inl ⟨h4, fun n hn => ?_⟩
   have := low n hn; omega
  ·refine .inr ⟨x + y, he, by have := hf.1; have := hf.2.1; omega, ⟨x, y, hf.1, hf.2.1, rfl, hf.2.2⟩, fun m hm hn => ?_⟩
   have := low m hn; omega
theorem aNp {l : aH} (h : WF l) (p : Int) {B A : List Int} (hE : bF l = B ++ p :: A) (hB : p ∉ B) :
  eR l p (bF l) ((bF l).length : Int) BIG 0 0 0 = fN l p ((uC (fun n => (pl l n).guard) B : Nat) : Int) ((gC (fun n => (pl l n).guard) B : Nat) : Int) := by
 have hlen := kF h
 have hBl : B.length < (bF l).length := by rw [hE]; simp
 have hget : ∀ i (hi : i < B.length), (bF l)[i]'(by omega) = B[i] := fun i hi => by
  simp only [hE]; exact List.getElem_append_left hi
 have hgetp : (bF l)[B.length]'hBl = p := by simp [hE]
 have key := kB (S := Nat × Nat) (fun k j s => eR l p (bF l) ((bF l).length : Int) k (s.1 : Int) (s.2 : Int) j) B.length (fun j s => fN l p ((s.1 + uC (fun n => (pl l n).guard) (B.drop j) : Nat) : Int) ((s.2 + gC (fun n => (pl l n).guard) (B.drop j) : Nat) : Int)) (fun j s => s.1 + s.2 ≤ j) (fun k j s hj hI ih => ?_) (fun k s _ => ?_) BIG (0, 0) (dC (by omega)) (by simp)
 ·simpa using key
 ·have hjl : j < (bF l).length := by omega
  simp only [eR, show decide ((j : Int) < ((bF l).length : Int)) = true from decide_eq_true (by omega), cond_true, cV hjl, Option.bind_some, bU (show j < 9223372036854775807 by omega), aBg]
  rw [hget j hj, decide_eq_false (fun e : B[j] = p => hB (e ▸ List.getElem_mem hj)), cond_false, List.drop_eq_getElem_cons hj]
  have e1 : uC (fun n => (pl l n).guard) (B[j] :: B.drop (j + 1)) = uC (fun n => (pl l n).guard) [B[j]] + uC (fun n => (pl l n).guard) (B.drop (j + 1)) := xI [B[j]] _
  have e2 : gC (fun n => (pl l n).guard) (B[j] :: B.drop (j + 1)) = gC (fun n => (pl l n).guard) [B[j]] + gC (fun n => (pl l n).guard) (B.drop (j + 1)) := qS [B[j]] _
  rw [xJ] at e1
  rw [qT] at e2
  cases hg : (pl l B[j]).guard with
  | true =>
   rw [hg, if_pos rfl] at e1 e2
   rw [cond_true, bU (by omega), e1, e2, show s.1 + (0 + uC (fun n => (pl l n).guard) (B.drop (j + 1))) = s.1 + uC (fun n => (pl l n).guard) (B.drop (j + 1)) by omega, show s.2 + (1 + gC (fun n => (pl l n).guard) (B.drop (j + 1))) = s.2 + 1 + gC (fun n => (pl l n).guard) (B.drop (j + 1)) by omega]
   exact ih (s.1, s.2 + 1) (by simp only; omega)
  | false =>
   rw [hg, if_neg (by simp)] at e1 e2
   rw [cond_false, bU (by omega), e1, e2, show s.1 + (1 + uC (fun n => (pl l n).guard) (B.drop (j + 1))) = s.1 + 1 + uC (fun n => (pl l n).guard) (B.drop (j + 1)) by omega, show s.2 + (0 + gC (fun n => (pl l n).guard) (B.drop (j + 1))) = s.2 + gC (fun n => (pl l n).guard) (B.drop (j + 1)) by omega]
   exact ih (s.1 + 1, s.2) (by simp only; omega)
 ·simp only [eR, show decide ((B.length : Int) < ((bF l).length : Int)) = true from decide_eq_true (by omega), cond_true, cV hBl, Option.bind_some, hgetp, decide_true, List.drop_length]
  rfl
theorem aNs {l : aH} (h : WF l) (p : Int) {B A : List Int} (hE : bF l = B ++ p :: A) (hB : p ∉ B) :
  ∃ r, iT l p = some r ∧ aHp (Fe (plc l) l.Field.Guards (pl l p).guard (uC (fun n => (pl l n).guard) B) (gC (fun n => (pl l n).guard) B)) r := by
 unfold iT
 rw [sZ h, Option.bind_some, aNp h p hE hB]
 refine aNq h p _ _ ?_
 have := vZ (gf := fun n => (pl l n).guard) B
 have h2 := kF h
 rw [hE] at h2
 simp at h2
 omega
end Go.Am
end
section
namespace Go.Am
def rch {κ : Type} (inn : κ → List Int) (stp : Bool → κ → Option κ) (p : Int) : κ → Nat → Prop
 | k, 0 => p ∈ inn k
 | k, n + 1 => p ∉ inn k ∧ ∃ b k', stp b k = some k' ∧ rch inn stp p k' n
def aUg {κ : Type} (inn : κ → List Int) (stp : Bool → κ → Option κ) (p : Int) (k : κ) : Prop := p ∉ inn k ∧ stp false k = none ∧ stp true k = none
structure Sim (f : aP) (hour p : Int) {κ : Type} (gf : Int → Bool) (R : Nat → aL → κ → Prop) (inn : κ → List Int) (stp : Bool → κ → Option κ) (sz : κ → Nat) (Z : Nat) : Prop where
 hin : ∀ {n s k}, R n s k → s.In = inn k
 len : ∀ {n s k}, R n s k → (inn k).length ≤ 1000
 pat : ∀ {n s k}, R n s k → ∀ m ∈ inn k, ∃ i q, sB s m = some i ∧ idx s.People i = some q ∧ q.Player = m ∧ q.Guard = gf m
 no : ∀ {n s k b}, R n s k → stp b k = none → ∀ m ∈ inn k, gf m ≠ b
 yes : ∀ {n s k b k'}, R n s k → n < Z → stp b k = some k' → ∃ m s', (inn k).find? (fun n => decide (gf n = b)) = some m ∧ aDv f s hour m = some s' ∧ R (n + 1) s' k' ∧ sz k' < sz k
 dup : ∀ {n s k s' k'}, R n s k → R n s' k' → inn k = inn k' → k = k' ∨ (aUg inn stp p k ∧ aUg inn stp p k')
section
variable {f : aP} {hour p : Int} {κ : Type} {gf : Int → Bool} {R : Nat → aL → κ → Prop} {inn : κ → List Int} {stp : Bool → κ → Option κ} {sz : κ → Nat} {Z : Nat} (M : Sim f hour p gf R inn stp sz Z)
include M
end
end Go.Am
end
section
namespace Go.Am
section
variable {f : aP} {hour p : Int} {κ : Type} {gf : Int → Bool} {R : Nat → aL → κ → Prop} {inn : κ → List Int} {stp : Bool → κ → Option κ} {sz : κ → Nat} {Z : Nat}
def Cov (R : Nat → aL → κ → Prop) (inn : κ → List Int) (stp : Bool → κ → Option κ) (p : Int) (n : Nat) (l : List aL) (k' : κ) : Prop := ∀ m, rch inn stp p k' m → ∃ s ∈ l, ∃ k, R n s k ∧ rch inn stp p k m
variable (M : Sim f hour p gf R inn stp sz Z)
include M
omit M in
theorem Cov.mono {n : Nat} {l l2 : List aL} {k : κ} (h : Cov R inn stp p n l k) (hs : ∀ x ∈ l, x ∈ l2) : Cov R inn stp p n l2 k := fun m hm => by
 obtain ⟨s, h1, h2⟩ := h m hm
 exact ⟨s, hs s h1, h2⟩
end
end Go.Am
end
section
namespace Go.Am
def cW (hour k : Int) : aG := aG.mk 0 hour 4 k 0
theorem aLv (L : aH) (hour k n : Int) : pl (bJ L (cW hour k)) n = bif decide (n = k) then aA.mk (pl L k).entered (pl L k).guard (pl L k).rank (pl L k).turn true (pl L k).signed false (pl L k).had else pl L n := yS L _ n
theorem rL (L : aH) (hour k n : Int) : (pl (bJ L (cW hour k)) n).guard = (pl L n).guard ∧ (pl (bJ L (cW hour k)) n).entered = (pl L n).entered ∧ (pl (bJ L (cW hour k)) n).rank = (pl L n).rank ∧ (pl (bJ L (cW hour k)) n).turn = (pl L n).turn ∧ (pl (bJ L (cW hour k)) n).signed = (pl L n).signed ∧ (pl (bJ L (cW hour k)) n).had = (pl L n).had := by
 rw [aLv]
 by_cases e : n = k
 ·subst e; rw [decide_eq_true rfl]; exact ⟨rfl, rfl, rfl, rfl, rfl, rfl⟩
 ·rw [decide_eq_false e]; exact ⟨rfl, rfl, rfl, rfl, rfl, rfl⟩
theorem aJr (L : aH) (hour k n : Int) : isE (bJ L (cW hour k)).players n = (isE L.players n && !decide (n = k)) := by
 have hf := rL L hour k n
 rw [qU, qU, hf.2.1, hf.2.2.2.2.2]
 have hq : (pl (bJ L (cW hour k)) n).quit = ((pl L n).quit || decide (n = k)) := by
  rw [aLv]
  by_cases e : n = k
  ·subst e; rw [decide_eq_true rfl]; simp
  ·rw [decide_eq_false e]; simp
 rw [hq]
 cases (pl L n).entered <;> cases (pl L n).quit <;> cases (pl L n).had <;> cases decide (n = k) <;> rfl
theorem xV {L : aH} {hour k : Int} (h : WF L) (h2 : WF (bJ L (cW hour k))) : bF (bJ L (cW hour k)) = (bF L).filter fun n => !decide (n = k) := by
 have hk : ∀ n, dQ (bJ L (cW hour k)) n = dQ L n := fun n => by
  have hf := rL L hour k n
  unfold dQ
  rw [hf.2.2.1, hf.2.2.2.1]
 refine jN (key := dQ L) ?_ ((nW h).filter _) fun n => ?_
 ·refine (nW h2).imp fun {a b} hab => ?_
  rw [hk, hk] at hab; exact hab
 ·rw [gF, List.mem_filter, gF, aJr, Bool.and_eq_true]
theorem aDn {L : aH} {hour k : Int} (hw : (pl L k).wild = false) : plc (bJ L (cW hour k)) = plc L := by
 unfold plc
 rw [nU, (zT L _).2, (pH L _).2.1]
 have : (pl L (cW hour k).Player).wild = false := hw
 rw [this]
 simp
theorem aFw {hour k : Int} (hh : wi hour 0 9999 = true) (hk : wi k 0 999 = true) : eZ (cW hour k) = true := by
 unfold eZ cW
 simp only [hh, hk]
 rfl
theorem aBc {f : aP} {l : List aG} {hour : Int} {L : aH} (A : AF f l hour L) {m : Int} (hm : isE L.players m = true) : (pl L m).wild = false := by
 cases hw : (pl L m).wild with
 | false => rfl
 | true =>
  have := (A.wh m).1 ((A.wd.fl m).2 hw)
  rw [qU, this] at hm
  simp at hm
end Go.Am
end
section
namespace Go.Am
theorem aCn {xs : List Int} (h : xs.Nodup) (a : Nat) : (xs.filter fun m => !decide (m ∈ xs.take a)) = xs.drop a := by
 have e := List.take_append_drop a xs
 have hn : (xs.take a ++ xs.drop a).Nodup := by rw [e]; exact h
 have hd := (List.nodup_append.1 hn).2.2
 have key : ∀ T D : List Int, (∀ m ∈ T, ∀ m' ∈ D, m ≠ m') → ((T ++ D).filter fun m => !decide (m ∈ T)) = D := fun T D hh => by
  rw [List.filter_append, List.filter_eq_nil_iff.2 fun m hm => by simp [hm], List.nil_append, List.filter_eq_self.2 fun m hm => by simp; exact fun h2 => hh m h2 m hm rfl]
 have := key (xs.take a) (xs.drop a) hd
 rw [e] at this
 exact this
section
variable (E0 : List Int) (gf : Int → Bool)
def Us : List Int := E0.filter fun n => !gf n
def Gs : List Int := E0.filter gf
def eab (k : Nat × Nat) : List Int := E0.filter fun m => !decide (m ∈ (Us E0 gf).take k.1) && !decide (m ∈ (Gs E0 gf).take k.2)
end
section
variable {E0 : List Int} {gf : Int → Bool}
theorem aVb (hn : E0.Nodup) (k : Nat × Nat) : (eab E0 gf k).filter (fun n => !gf n) = (Us E0 gf).drop k.1 := by
 rw [← aCn (xs := Us E0 gf) (hn.filter _) k.1]
 unfold eab
 show _ = List.filter _ (E0.filter fun n => !gf n)
 rw [List.filter_filter, List.filter_filter]
 refine List.filter_congr fun m _ => ?_
 cases hg : gf m with
 | true => simp
 | false =>
  have : m ∉ (Gs E0 gf).take k.2 := fun hm => by
   have := (List.mem_filter.1 (List.mem_of_mem_take hm)).2
   rw [hg] at this; cases this
  rw [decide_eq_false this]
  simp [Us]
theorem aVa (hn : E0.Nodup) (k : Nat × Nat) : (eab E0 gf k).filter gf = (Gs E0 gf).drop k.2 := by
 rw [← aCn (xs := Gs E0 gf) (hn.filter _) k.2]
 unfold eab
 show _ = List.filter _ (E0.filter gf)
 rw [List.filter_filter, List.filter_filter]
 refine List.filter_congr fun m _ => ?_
 cases hg : gf m with
 | false => simp
 | true =>
  have : m ∉ (Us E0 gf).take k.1 := fun hm => by
   have := (List.mem_filter.1 (List.mem_of_mem_take hm)).2
   rw [hg] at this; cases this
  rw [decide_eq_false this]
  simp [Gs]
theorem aOk {α : Type} (q : α → Bool) (xs : List α) : xs.find? q = (xs.filter q).head? := by
 induction xs with
 | nil => rfl
 | cons a t ih =>
  rw [List.find?_cons, List.filter_cons]
  cases q a
  ·exact ih
  ·rfl
theorem aGf (hn : E0.Nodup) (k : Nat × Nat) (b : Bool) : (eab E0 gf k).find? (fun n => decide (gf n = b)) = bif b then (Gs E0 gf)[k.2]? else (Us E0 gf)[k.1]? := by
 rw [aOk]
 cases b with
 | true =>
  rw [show ((eab E0 gf k).filter fun n => decide (gf n = true)) = (eab E0 gf k).filter gf from List.filter_congr fun a _ => by cases gf a <;> rfl, aVa hn, cond_true, List.head?_drop]
 | false =>
  rw [show ((eab E0 gf k).filter fun n => decide (gf n = false)) = (eab E0 gf k).filter (fun n => !gf n) from List.filter_congr fun a _ => by cases gf a <;> rfl, aVb hn, cond_false, List.head?_drop]
theorem aHj {xs : List Int} {a : Nat} {k : Int} (h : xs[a]? = some k) (m : Int) : decide (m ∈ xs.take (a + 1)) = (decide (m ∈ xs.take a) || decide (m = k)) := by
 have ha : a < xs.length := (List.getElem?_eq_some_iff.1 h).1
 have hk : xs[a] = k := (List.getElem?_eq_some_iff.1 h).2
 rw [List.take_succ_eq_append_getElem ha, hk, Bool.eq_iff_iff]
 simp
theorem aIi (k : Nat × Nat) (b : Bool) {m : Int} (h : (bif b then (Gs E0 gf)[k.2]? else (Us E0 gf)[k.1]?) = some m) : eab E0 gf (bif b then (k.1, k.2 + 1) else (k.1 + 1, k.2)) = (eab E0 gf k).filter fun n => !decide (n = m) := by
 unfold eab
 rw [List.filter_filter]
 refine List.filter_congr fun n _ => ?_
 cases b with
 | true =>
  rw [cond_true] at h
  simp only [cond_true]
  rw [aHj h]
  cases decide (n ∈ (Us E0 gf).take k.1) <;> cases decide (n ∈ (Gs E0 gf).take k.2) <;> cases decide (n = m) <;> rfl
 | false =>
  rw [cond_false] at h
  simp only [cond_false]
  rw [aHj h]
  cases decide (n ∈ (Us E0 gf).take k.1) <;> cases decide (n ∈ (Gs E0 gf).take k.2) <;> cases decide (n = m) <;> rfl
theorem aRy : (Us E0 gf).length + (Gs E0 gf).length = E0.length := vZ (gf := gf) E0
end
end Go.Am
end
section
namespace Go.Am
section
variable (f : aP) (L0 : aH) (i0 : Nat)
def gfL (L : aH) (m : Int) : Bool := (pl L m).guard
end
theorem aDl {L : aH} (h : L.frozen = false) : aW L = grd (gfL L) (plc L) L.Field.Guards [] (bF L) := by
 unfold aW
 rw [h, cond_false]
 exact aJc L (bF L) []
theorem aEo {f : aP} {L : aH} {i : Nat} (h : eQ f L i) : (bF L).length ≤ i := by
 unfold bF
 rw [(iL _ _).length_eq]
 unfold qY
 rw [List.length_map]
 exact Nat.le_trans (List.length_filter_le _ _) h.cn.pls
end Go.Am
end
section
namespace Go.Am
section
variable (gf : Int → Bool) (P G : Int)
def elg (g : Nat) (n : Int) : Bool := !gf n || decide ((g : Int) < G)
def qK : Nat → List Int → List Int → List Int × List Int
 | 0, I, A => (I, A)
 | k + 1, I, A => if (I.length : Int) < P then (match A.find? (elg gf G (gC gf I)) with
  | none => (I, A)
  | some n => qK k (I ++ [n]) (A.filter fun m => !decide (m = n))) else (I, A)
def aDq (b : Bool) (k : List Int × List Int) : Option (List Int × List Int) := match k.1.find? (fun n => decide (gf n = b)) with
 | none => none
 | some q => some (qK gf P G 100 (k.1.filter fun m => !decide (m = q)) k.2)
end
def fM (L : aH) (I : List Int) : List Int := (bF L).filter fun n => (pl L n).signed && !decide (n ∈ I)
theorem aMx {L : aH} (I : List Int) : (bF L).find? (iC L I) = (fM L I).find? (elg (gfL L) L.Field.Guards (gC (gfL L) I)) := by
 unfold fM
 rw [List.find?_filter]
 congr 1
 funext n
 show iC L I n = _
 unfold iC elg
 rw [show gd L I = gC (gfL L) I from rfl]
 rw [Bool.eq_iff_iff]
 simp [gfL]
theorem aNn {L : aH} (I : List Int) (n : Int) : fM L (I ++ [n]) = (fM L I).filter fun m => !decide (m = n) := by
 unfold fM
 rw [List.filter_filter]
 refine List.filter_congr fun m _ => ?_
 by_cases h1 : m ∈ I <;> by_cases h2 : m = n <;> simp [h1, h2]
theorem aLq {L : aH} (first : List Int) : ∀ (k : Nat) (late : List Int), (first ++ fT L first k late, fM L (first ++ fT L first k late)) = qK (gfL L) (plc L) L.Field.Guards k (first ++ late) (fM L (first ++ late))
 | 0, late => rfl
 | k + 1, late => by
  rw [fT, qK]
  by_cases hp : ((first ++ late).length : Int) < plc L
  ·rw [decide_eq_true hp, cond_true, if_pos hp, aMx]
   cases (fM L (first ++ late)).find? (elg (gfL L) L.Field.Guards (gC (gfL L) (first ++ late))) with
   | none => rfl
   | some n =>
    have := aLq (L := L) first k (late ++ [n])
    rw [← List.append_assoc, aNn] at this
    exact this
  ·rw [decide_eq_false hp, cond_false, if_neg hp]
theorem aHc {f : aP} {L : aH} {i : Nat} (h : eQ f L i) (hf : L.frozen = true) (hm : MS L) {hour q : Int} (hq : q ∈ aW L) (hw : (pl L q).wild = false) (h2 : WF (bJ L (cW hour q))) :
  (aW (bJ L (cW hour q)), fM (bJ L (cW hour q)) (aW (bJ L (cW hour q)))) = qK (gfL L) (plc L) L.Field.Guards 100 ((aW L).filter fun m => !decide (m = q)) (fM L (aW L)) := by
 have hfz : (bif decide (L.Field.Freeze < (cW hour q).Hour) then cC L else L) = L := by
  unfold cC
  rw [hf]
  cases decide (L.Field.Freeze < (cW hour q).Hour) <;> rfl
 have ht := jO L (cW hour q)
 have est : bJ L (cW hour q) = jL (bC L (cW hour q)) := by
  unfold bJ
  simp only
  rw [hfz, ht.2.1, hf, cond_true]
 generalize hL2 : bC L (cW hour q) = L2 at est ht
 have hpl : ∀ n, pl L2 n = pl (bJ L (cW hour q)) n := fun n => by rw [est]; rfl
 have hE2 : bF L2 = bF (bJ L (cW hour q)) := by rw [est]; rfl
 have hpc : plc L2 = plc (bJ L (cW hour q)) := by rw [est]; rfl
 have hgf : gfL L2 = gfL L := funext fun n => by unfold gfL; rw [hpl]; exact (rL L hour q n).1
 have hfr2 : L2.frozen = true := ht.2.1.trans hf
 have hmain : aW L = L.first ++ L.late := by unfold aW; rw [hf]; rfl
 have hen := xV h.wf h2
 have hmem : ∀ m ∈ aW L, isE L2.players m = !decide (m = q) := fun m hmm => by
  have := aJr L hour q m
  rw [hm m hmm, Bool.true_and] at this
  rw [← this, est]; rfl
 have hfilt : ∀ xs : List Int, (∀ x ∈ xs, x ∈ aW L) → xs.filter (fun n => isE L2.players n) = xs.filter fun m => !decide (m = q) := fun xs hx => List.filter_congr fun m hmm => hmem m (hx m hmm)
 have e1 : L2.first.filter (fun n => isE L2.players n) = L.first.filter fun m => !decide (m = q) := by
  rw [ht.2.2.1]; exact hfilt _ fun x hx => by rw [hmain]; simp [hx]
 have e2 : L2.late.filter (fun n => isE L2.players n) = L.late.filter fun m => !decide (m = q) := by
  rw [ht.2.2.2]; exact hfilt _ fun x hx => by rw [hmain]; simp [hx]
 have e3 : aW (bJ L (cW hour q)) = (L.first.filter fun m => !decide (m = q)) ++ fT L2 (L.first.filter fun m => !decide (m = q)) 100 (L.late.filter fun m => !decide (m = q)) := by
  rw [est]
  unfold aW
  rw [show (jL L2).frozen = true from hfr2, cond_true, ← e1, ← e2]
  rfl
 have e4 : ∀ I, fM (bJ L (cW hour q)) I = fM L2 I := fun I => by rw [est]; rfl
 rw [e4, e3]
 have k := aLq (L := L2) (L.first.filter fun m => !decide (m = q)) 100 (L.late.filter fun m => !decide (m = q))
 rw [k, hgf, hpc, aDn hw, ht.1, ← List.filter_append, ← hmain]
 congr 1
 unfold fM
 rw [hE2, hen, List.filter_filter]
 refine List.filter_congr fun m hmm => ?_
 rw [hpl, (rL L hour q m).2.2.2.2.1]
 by_cases e : m = q
 ·subst e
  simp [hq]
 ·have : m ∈ (aW L).filter (fun m => !decide (m = q)) ↔ m ∈ aW L := by simp [e]
  rw [show decide (m ∈ (aW L).filter fun m => !decide (m = q)) = decide (m ∈ aW L) from decide_eq_decide.2 this, decide_eq_false e]
  simp
end Go.Am
end
section
namespace Go.Am
section
variable (I0 A0 : List Int) (gf : Int → Bool)
end
section
variable {I0 A0 : List Int} {gf : Int → Bool} {P G : Int}
theorem aGj (Q : List Int → List Int → Prop) (hst : ∀ I A x, Q I A → A.find? (elg gf G (gC gf I)) = some x → Q (I ++ [x]) (A.filter fun m => !decide (m = x))) : ∀ (k : Nat) (I A : List Int), Q I A → Q (qK gf P G k I A).1 (qK gf P G k I A).2
 | 0, _, _, h => h
 | k + 1, I, A, h => by
  rw [qK]
  by_cases hp : (I.length : Int) < P
  ·rw [if_pos hp]
   cases hf : A.find? (elg gf G (gC gf I)) with
   | none => exact h
   | some x => exact aGj Q hst k _ _ (hst I A x h hf)
  ·rw [if_neg hp]; exact h
theorem aGg (hn : A0.Nodup) {m c g : Nat} {x : Int} (h : (eab A0 gf (m, c)).find? (elg gf G g) = some x) : (gf x = false → (Us A0 gf)[m]? = some x) ∧ (gf x = true → (Gs A0 gf)[c]? = some x) := by
 have hx := List.find?_some h
 have key : ∀ {q q2 : Int → Bool} {xs : List Int}, xs.find? q = some x → q2 x = true → (∀ y ∈ xs, q2 y = true → q y = true) → xs.find? q2 = some x := by
  intro q q2 xs
  induction xs with
  | nil => intro h; simp at h
  | cons a t ih =>
   intro h h2 h3
   rw [List.find?_cons] at h ⊢
   cases hq2 : q2 a with
   | true =>
    rw [h3 a (by simp) hq2] at h
    exact h
   | false =>
    cases hq : q a with
    | true =>
     rw [hq] at h
     obtain rfl : a = x := by simpa using h
     rw [h2] at hq2; cases hq2
    | false => rw [hq] at h; exact ih h h2 fun y hy => h3 y (by simp [hy])
 constructor
 ·intro hg
  have := key (q2 := fun n => decide (gf n = false)) h (decide_eq_true hg) fun y _ hy => by
   unfold elg; rw [decide_eq_true_eq] at hy; rw [hy]; rfl
  rw [aGf hn] at this
  exact this
 ·intro hg
  have hlt : decide ((g : Int) < G) = true := by
   unfold elg at hx
   rw [hg] at hx
   simpa using hx
  have := key (q2 := fun n => decide (gf n = true)) h (decide_eq_true hg) fun y _ hy => by
   unfold elg; rw [hlt, Bool.or_true]
  rw [aGf hn] at this
  exact this
end
section
variable (f : aP) (L0 : aH) (i0 : Nat)
end
theorem aFq {f : aP} {L : aH} {s : aL} {i : Nat} (h : StE f L s i) : (aW L ++ fM L (aW L)).Nodup := by
 refine List.nodup_append.2 ⟨h.pk.nd, (jK h.good.wf).filter _, fun a ha b hb e => ?_⟩
 subst e
 have := (List.mem_filter.1 hb).2
 simp [ha] at this
end Go.Am
end
section
namespace Go.Am
structure Spt where
 u : Nat
 g : Nat
 m : Nat
 c : Nat
def Spt.e (x : Spt) : aO := aO.mk (x.u : Int) (x.g : Int) (x.m : Int) (x.c : Int)
section
variable (A0 : List Int) (gf : Int → Bool) (P G p : Int)
def iY : Nat → Spt → Option Spt
 | 0, s => some s
 | k + 1, s => if (s.u : Int) + s.g < P then (match (eab A0 gf (s.m, s.c)).find? (elg gf G s.g) with
  | none => some s
  | some n => if n = p then none else if gf n = true then iY k ⟨s.u, s.g + 1, s.m, s.c + 1⟩ else iY k ⟨s.u + 1, s.g, s.m + 1, s.c⟩) else some s
end
section
variable {A0 : List Int} {gf : Int → Bool} {P G p : Int}
theorem aVl (j : Nat) (hj : j < A0.length) (hg : gf A0[j] = false) : (Us A0 gf)[uC gf (A0.take j)]? = some A0[j] := by
 have e : Us A0 gf = (A0.take j).filter (fun n => !gf n) ++ A0[j] :: (A0.drop (j + 1)).filter (fun n => !gf n) := by
  unfold Us
  conv => lhs; rw [← List.take_append_drop j A0, List.drop_eq_getElem_cons hj, List.filter_append, List.filter_cons_of_pos (by simp [hg])]
 rw [e]
 unfold uC
 rw [List.getElem?_append_right (Nat.le_refl _), Nat.sub_self]; rfl
theorem aVk (j : Nat) (hj : j < A0.length) (hg : gf A0[j] = true) : (Gs A0 gf)[gC gf (A0.take j)]? = some A0[j] := by
 have e : Gs A0 gf = (A0.take j).filter gf ++ A0[j] :: (A0.drop (j + 1)).filter gf := by
  unfold Gs
  conv => lhs; rw [← List.take_append_drop j A0, List.drop_eq_getElem_cons hj, List.filter_append, List.filter_cons_of_pos (by simp [hg])]
 rw [e]
 unfold gC
 rw [List.getElem?_append_right (Nat.le_refl _), Nat.sub_self]; rfl
theorem aCs {xs : List Int} (hn : xs.Nodup) {i m : Nat} {x : Int} (h : xs[i]? = some x) : x ∈ xs.take m ↔ i < m := by
 obtain ⟨hi, he⟩ := List.getElem?_eq_some_iff.1 h
 constructor
 ·intro hm
  obtain ⟨j, hj, hje⟩ := List.mem_take_iff_getElem.1 hm
  have : j = i := (List.getElem_inj hn).1 (hje.trans he.symm)
  omega
 ·intro hlt
  exact List.mem_take_iff_getElem.2 ⟨i, by omega, he⟩
theorem aUi (hn : A0.Nodup) (j : Nat) (hj : j < A0.length) (m c : Nat) : (!decide (A0[j] ∈ (Us A0 gf).take m) && !decide (A0[j] ∈ (Gs A0 gf).take c)) = bif gf A0[j] then decide (c ≤ gC gf (A0.take j)) else decide (m ≤ uC gf (A0.take j)) := by
 cases hg : gf A0[j] with
 | true =>
  have h1 : A0[j] ∉ (Us A0 gf).take m := fun hm => by
   have := (List.mem_filter.1 (List.mem_of_mem_take hm)).2
   rw [hg] at this; cases this
  have h2 := aCs (m := c) (hn.filter gf) (aVk j hj hg)
  rw [decide_eq_false h1, cond_true, Bool.not_false, Bool.true_and, Bool.eq_iff_iff, Bool.not_eq_true', decide_eq_false_iff_not, decide_eq_true_eq]
  show ¬ A0[j] ∈ (A0.filter gf).take c ↔ _
  rw [h2]; omega
 | false =>
  have h1 : A0[j] ∉ (Gs A0 gf).take c := fun hm => by
   have := (List.mem_filter.1 (List.mem_of_mem_take hm)).2
   rw [hg] at this; cases this
  have h2 := aCs (m := m) (hn.filter fun n => !gf n) (aVl j hj hg)
  rw [decide_eq_false h1, cond_false, Bool.not_false, Bool.and_true, Bool.eq_iff_iff, Bool.not_eq_true', decide_eq_false_iff_not, decide_eq_true_eq]
  show ¬ A0[j] ∈ (A0.filter fun n => !gf n).take m ↔ _
  rw [h2]; omega
theorem aTw (j : Nat) (hj : j < A0.length) : uC gf (A0.take (j + 1)) = uC gf (A0.take j) + (if gf A0[j] then 0 else 1) ∧ gC gf (A0.take (j + 1)) = gC gf (A0.take j) + (if gf A0[j] then 1 else 0) := by
 rw [List.take_succ_eq_append_getElem hj, xI, qS, xJ, qT]
 exact ⟨rfl, rfl⟩
end
theorem aTb {L : aH} (again : aO → aO → Option (aO × Bool)) (A0 : List Int) (hn : A0.Nodup) (hl : A0.length ≤ 60) (p : Int) (s : Spt) (hs : s.u ≤ 1000 ∧ s.g ≤ 1000 ∧ s.m ≤ 1000 ∧ s.c ≤ 1000) (nx : aO) :
  dN again L A0 p A0 (A0.length : Int) BIG 0 0 false 0 s.e nx = (match (eab A0 (gfL L) (s.m, s.c)).find? (elg (gfL L) L.Field.Guards s.g) with
   | none => some (s.e, false)
   | some n => if n = p then some (s.e, true) else if gfL L n = true then again (Spt.e ⟨s.u, s.g + 1, s.m, s.c + 1⟩) nx else again (Spt.e ⟨s.u + 1, s.g, s.m + 1, s.c⟩) nx) := by
 refine qV (S := Int × Int) (fun k j x => dN again L A0 p A0 (A0.length : Int) k x.1 x.2 false j s.e nx) A0.length (fun r => r = (match (eab A0 (gfL L) (s.m, s.c)).find? (elg (gfL L) L.Field.Guards s.g) with
   | none => some (s.e, false)
   | some n => if n = p then some (s.e, true) else if gfL L n = true then again (Spt.e ⟨s.u, s.g + 1, s.m, s.c + 1⟩) nx else again (Spt.e ⟨s.u + 1, s.g, s.m + 1, s.c⟩) nx)) (fun j x => j ≤ A0.length ∧ x.1 = ((min (uC (gfL L) (A0.take j)) s.m : Nat) : Int) ∧ x.2 = ((min (gC (gfL L) (A0.take j)) s.c : Nat) : Int) ∧ (eab A0 (gfL L) (s.m, s.c)) = ((A0.take j).filter fun m => !decide (m ∈ (Us A0 (gfL L)).take s.m) && !decide (m ∈ (Gs A0 (gfL L)).take s.c)) ++ ((A0.drop j).filter fun m => !decide (m ∈ (Us A0 (gfL L)).take s.m) && !decide (m ∈ (Gs A0 (gfL L)).take s.c)) ∧ ∀ m ∈ ((A0.take j).filter fun m => !decide (m ∈ (Us A0 (gfL L)).take s.m) && !decide (m ∈ (Gs A0 (gfL L)).take s.c)), elg (gfL L) L.Field.Guards s.g m = false)
  (fun k j x hj hI ih => ?_) (fun k j x hj hI => ?_) BIG 0 (0, 0) (dC (by omega)) ⟨by omega, by simp [uC], by simp [gC], by simp [eab], by simp⟩
 ·obtain ⟨h1, h2, h3, h4, h5⟩ := hI
  have hat := aUi (gf := gfL L) hn j hj s.m s.c
  have hut := aTw (gf := gfL L) j hj
  have hdr := List.drop_eq_getElem_cons hj
  have hul : uC (gfL L) (A0.take j) + gC (gfL L) (A0.take j) = (A0.take j).length := vZ (gf := gfL L) _
  have htl := List.length_take_le j A0
  have hpre : ∀ P2 : Int → Bool, P2 A0[j] = true → (((A0.take j).filter P2) ++ ((A0.drop j).filter P2)) = (A0.take j).filter P2 ++ A0[j] :: (A0.drop (j + 1)).filter P2 := fun P2 hP => by rw [hdr, List.filter_cons_of_pos hP]
  have hnext : ∀ P2 : Int → Bool, (((A0.take j).filter P2) ++ ((A0.drop j).filter P2)) = (A0.take (j + 1)).filter P2 ++ (A0.drop (j + 1)).filter P2 := fun P2 => by
   rw [hdr, List.take_succ_eq_append_getElem hj, List.filter_append, List.append_assoc]
   congr 1
   cases hp2 : P2 A0[j]
   ·rw [List.filter_cons_of_neg (by simp [hp2]), List.filter_cons_of_neg (by simp [hp2]), List.filter_nil, List.nil_append]
   ·rw [List.filter_cons_of_pos hp2, List.filter_cons_of_pos hp2, List.filter_nil, List.singleton_append]
  have hmem : ∀ {Q : Int → Bool} {m : Int}, m ∈ (A0.take (j + 1)).filter Q → m ∈ (A0.take j).filter Q ∨ (m = A0[j] ∧ Q A0[j] = true) := fun {Q m} hm => by
   rw [List.take_succ_eq_append_getElem hj, List.filter_append] at hm
   rcases List.mem_append.1 hm with hm | hm
   ·exact .inl hm
   ·have := List.mem_filter.1 hm
    have e := List.mem_singleton.1 this.1
    exact .inr ⟨e, e ▸ this.2⟩
  simp only [dN, show decide ((j : Int) < (A0.length : Int)) = true from decide_eq_true (by omega), cond_true, cV hj, Option.bind_some, aBg, jQ, bU (show j < 9223372036854775807 by omega)]
  have hgg : (pl L A0[j]).guard = gfL L A0[j] := rfl
  rw [hgg]
  cases hg : gfL L A0[j] with
  | true =>
   rw [hg] at hat hut
   rw [cond_true] at hat
   rw [if_pos rfl, if_pos rfl] at hut
   by_cases hc : gC (gfL L) (A0.take j) < s.c
   ·rw [show (true && decide (x.2 < s.e.covered)) = true by rw [h3, Bool.true_and]; exact decide_eq_true (by show ((min (gC (gfL L) (A0.take j)) s.c : Nat) : Int) < (s.c : Int); omega), cond_true, cR (by rw [h3]; omega) (by rw [h3]; omega)]
    refine ih (x.1, x.2 + 1) ⟨by omega, by rw [h2, hut.1]; rfl, by rw [h3, hut.2]; omega, by rw [h4, hnext], fun m hm => ?_⟩
    rcases hmem hm with hm | ⟨_, hm⟩
    ·exact h5 m hm
    ·rw [hat, decide_eq_false (by omega)] at hm; cases hm
   ·rw [show (true && decide (x.2 < s.e.covered)) = false by rw [h3, Bool.true_and]; exact decide_eq_false (by show ¬ ((min (gC (gfL L) (A0.take j)) s.c : Nat) : Int) < (s.c : Int); omega), cond_false, Bool.not_true, Bool.false_and, cond_false, Bool.true_and]
    rw [decide_eq_true (show s.c ≤ gC (gfL L) (A0.take j) by omega)] at hat
    by_cases hG : L.Field.Guards ≤ (s.g : Int)
    ·rw [show decide (L.Field.Guards ≤ s.e.guarded) = true from decide_eq_true hG, cond_true]
     refine ih x ⟨by omega, by rw [h2, hut.1]; rfl, by rw [h3, hut.2]; omega, by rw [h4, hnext], fun m hm => ?_⟩
     rcases hmem hm with hm | ⟨e, hm⟩
     ·exact h5 m hm
     ·rw [e]
      unfold elg
      rw [hg, decide_eq_false (by omega)]; rfl
    ·rw [show decide (L.Field.Guards ≤ s.e.guarded) = false from decide_eq_false hG, cond_false]
     have hf : (eab A0 (gfL L) (s.m, s.c)).find? (elg (gfL L) L.Field.Guards s.g) = some A0[j] := by
      rw [h4, hpre (fun m => !decide (m ∈ (Us A0 (gfL L)).take s.m) && !decide (m ∈ (Gs A0 (gfL L)).take s.c)) hat, List.find?_append, List.find?_eq_none.2 fun m hm => by rw [h5 m hm]; simp, Option.none_or, List.find?_cons]
      have : elg (gfL L) L.Field.Guards s.g A0[j] = true := by unfold elg; rw [hg, decide_eq_true (by omega)]; rfl
      rw [this]
     rw [hf]
     simp only
     by_cases hp : A0[j] = p
     ·rw [decide_eq_true hp, cond_true, if_pos hp]
     ·rw [decide_eq_false hp, cond_false, if_neg hp, if_pos hg]
      simp only [cond_true, eD, Bool.not_true, cond_false, gV]
      show again (aO.mk (s.u : Int) (w64 ((s.g : Int) + 1)) (s.m : Int) (w64 ((s.c : Int) + 1))) nx = _
      rw [bU (by omega), bU (by omega)]; rfl
  | false =>
   rw [hg] at hat hut
   rw [cond_false] at hat
   rw [if_neg (by simp), if_neg (by simp)] at hut
   rw [Bool.false_and, cond_false, Bool.not_false, Bool.true_and]
   by_cases hc : uC (gfL L) (A0.take j) < s.m
   ·rw [show decide (x.1 < s.e.moved) = true by rw [h2]; exact decide_eq_true (by show ((min (uC (gfL L) (A0.take j)) s.m : Nat) : Int) < (s.m : Int); omega), cond_true, cR (by rw [h2]; omega) (by rw [h2]; omega)]
    refine ih (x.1 + 1, x.2) ⟨by omega, by rw [h2, hut.1]; omega, by rw [h3, hut.2]; rfl, by rw [h4, hnext], fun m hm => ?_⟩
    rcases hmem hm with hm | ⟨_, hm⟩
    ·exact h5 m hm
    ·rw [hat, decide_eq_false (by omega)] at hm; cases hm
   ·rw [show decide (x.1 < s.e.moved) = false by rw [h2]; exact decide_eq_false (by show ¬ ((min (uC (gfL L) (A0.take j)) s.m : Nat) : Int) < (s.m : Int); omega), cond_false, Bool.false_and, cond_false]
    rw [decide_eq_true (show s.m ≤ uC (gfL L) (A0.take j) by omega)] at hat
    have hf : (eab A0 (gfL L) (s.m, s.c)).find? (elg (gfL L) L.Field.Guards s.g) = some A0[j] := by
     rw [h4, hpre (fun m => !decide (m ∈ (Us A0 (gfL L)).take s.m) && !decide (m ∈ (Gs A0 (gfL L)).take s.c)) hat, List.find?_append, List.find?_eq_none.2 fun m hm => by rw [h5 m hm]; simp, Option.none_or, List.find?_cons]
     have : elg (gfL L) L.Field.Guards s.g A0[j] = true := by unfold elg; rw [hg]; rfl
     rw [this]
    rw [hf]
    simp only
    by_cases hp : A0[j] = p
    ·rw [decide_eq_true hp, cond_true, if_pos hp]
    ·rw [decide_eq_false hp, cond_false, if_neg hp, if_neg (by rw [hg]; simp)]
     simp only [cond_false, eD, Bool.not_true, gV]
     show again (aO.mk (w64 ((s.u : Int) + 1)) (s.g : Int) (w64 ((s.m : Int) + 1)) (s.c : Int)) nx = _
     rw [bU (by omega), bU (by omega)]; rfl
 ·obtain ⟨h1, h2, h3, h4, h5⟩ := hI
  obtain rfl : j = A0.length := by omega
  rw [List.take_length, List.drop_length, List.filter_nil, List.append_nil] at h4
  rw [List.take_length] at h5
  simp only [dN, show decide ((A0.length : Int) < (A0.length : Int)) = false from decide_eq_false (by omega), cond_false, eD, Bool.not_false, cond_true]
  rw [List.find?_eq_none.2 fun m hm => by rw [h5 m (h4 ▸ hm)]; simp]
theorem aSo {L : aH} (h : WF L) (A0 : List Int) (hn : A0.Nodup) (hl : A0.length ≤ 60) (p : Int) : ∀ (d k K : Nat) (s : Spt), (plc L - ((s.u : Int) + s.g)).toNat ≤ d → d < K → d ≤ k → (s.u + s.g ≤ 500 ∧ s.m ≤ 500 ∧ s.c ≤ 500 ∧ s.m + s.c + d ≤ 500) → ∀ nx,
  (match iY A0 (gfL L) (plc L) L.Field.Guards p k s with
   | none => ∃ s2, eE L A0 p K s.e nx = some (s2, true)
   | some s2 => eE L A0 p K s.e nx = some (s2.e, false)) := by
 have hp := oH h
 intro d
 induction d with
 | zero =>
  intro k K s hd hK hk hb nx
  obtain ⟨K, rfl⟩ : ∃ q, K = q + 1 := ⟨K - 1, by omega⟩
  have hge : ¬ (s.u : Int) + s.g < plc L := by omega
  have hf : iY A0 (gfL L) (plc L) L.Field.Guards p k s = some s := by
   cases k with
   | zero => rfl
   | succ k => rw [iY, if_neg hge]
  rw [hf]
  simp only [eE, qX h, Option.bind_some]
  rw [show decide (w64 (s.e.free + s.e.guarded) < plc L) = false by
   show decide (w64 ((s.u : Int) + (s.g : Int)) < plc L) = false
   rw [cR (by omega) (by omega)]; exact decide_eq_false hge]
  rfl
 | succ d ih =>
  intro k K s hd hK hk hb nx
  obtain ⟨K, rfl⟩ : ∃ q, K = q + 1 := ⟨K - 1, by omega⟩
  obtain ⟨k, rfl⟩ : ∃ q, k = q + 1 := ⟨k - 1, by omega⟩
  rw [iY]
  simp only [eE, qX h, Option.bind_some]
  have hww : w64 (s.e.free + s.e.guarded) = (s.u : Int) + s.g := by
   show w64 ((s.u : Int) + (s.g : Int)) = _
   exact cR (by omega) (by omega)
  rw [hww]
  by_cases hlt : (s.u : Int) + s.g < plc L
  ·rw [if_pos hlt, decide_eq_true hlt, cond_true, aTb _ A0 hn hl p s (by omega) nx]
   cases hf : (eab A0 (gfL L) (s.m, s.c)).find? (elg (gfL L) L.Field.Guards s.g) with
   | none => rfl
   | some n =>
    simp only
    by_cases hnp : n = p
    ·rw [if_pos hnp, if_pos hnp]
     exact ⟨s.e, rfl⟩
    ·rw [if_neg hnp, if_neg hnp]
     by_cases hg : gfL L n = true
     ·rw [if_pos hg, if_pos hg]
      exact ih k K ⟨s.u, s.g + 1, s.m, s.c + 1⟩ (by simp only; omega) (by omega) (by omega) (by simp only; omega) nx
     ·rw [if_neg hg, if_neg hg]
      exact ih k K ⟨s.u + 1, s.g, s.m + 1, s.c⟩ (by simp only; omega) (by omega) (by omega) (by simp only; omega) nx
  ·rw [if_neg hlt, decide_eq_false hlt]
   rfl
end Go.Am
end
section
namespace Go.Am
theorem Spt.inj {x y : Spt} (h : x.e = y.e) : x = y := by
 unfold Spt.e at h
 injection h with a b c d
 cases x; cases y
 simp only [Spt.mk.injEq] at *
 omega
section
variable (F : Spt → Option Spt)
def gS (b : Bool) (s : Spt) : Option (Option Spt) := bif b then (if s.g = 0 then none else some (F ⟨s.u, s.g - 1, s.m, s.c⟩)) else (if s.u = 0 then none else some (F ⟨s.u - 1, s.g, s.m, s.c⟩))
def rS : Nat → Spt → Prop
 | 0, _ => False
 | n + 1, s => ∃ b, (gS F b s = some none ∧ n = 0) ∨ ∃ s', gS F b s = some (some s') ∧ rS n s'
def aHy (s0 : Spt) (o : Option Int) : Prop := (∃ D : Nat, o = some (D : Int) ∧ rS F D s0 ∧ ∀ m, m < D → ¬ rS F m s0) ∨ (o = some 61 ∧ ∀ m, ¬ rS F m s0)
end
structure SzS (F : Spt → Option Spt) (sz : Spt → Nat) (Bd : Spt → Prop) : Prop where
 dn : ∀ {b s s'}, Bd s → gS F b s = some (some s') → sz s' < sz s ∧ Bd s'
section
variable {F : Spt → Option Spt} {sz : Spt → Nat} {Bd : Spt → Prop}
structure LvS (F : Spt → Option Spt) (sz : Spt → Nat) (Bd : Spt → Prop) (s0 : Spt) (n : Nat) (now : List Spt) : Prop where
 ok : ∀ s ∈ now, Bd s ∧ (∀ m, rS F m s → rS F (n + m) s0) ∧ sz s + n ≤ sz s0
 cov : ∀ D, rS F D s0 → (∀ m, m < D → ¬ rS F m s0) → n < D → ∃ s ∈ now, rS F (D - n) s
 low : ∀ m, m ≤ n → ¬ rS F m s0
def SnS (F : Spt → Option Spt) (s0 : Spt) (n : Nat) (nx : List Spt) (sn : List (aO × Int)) : Prop := ∀ s : Spt, 1 ≤ aE s.e 0 sn → s ∈ nx ∨ ∃ j, j ≤ n ∧ ∀ m, rS F m s → rS F (j + m) s0
def CnS (sn : List (aO × Int)) (T : Nat) : Prop := ∀ x, 0 ≤ aE x 0 sn ∧ aE x 0 sn ≤ (T : Int)
theorem aPk {s0 : Spt} {n : Nat} {nx : List Spt} {sn : List (aO × Int)} {T : Nat} {t : Spt} (hs : SnS F s0 n nx sn) (hc : CnS sn T) (hT : T ≤ 9000000000000) :
  CnS (bY t.e (w64 (aE t.e 0 sn + 1)) sn) (T + 1) ∧ aE t.e 0 (bY t.e (w64 (aE t.e 0 sn + 1)) sn) = aE t.e 0 sn + 1 ∧
  (aE t.e 0 sn + 1 = 1 → SnS F s0 n (nx ++ [t]) (bY t.e (w64 (aE t.e 0 sn + 1)) sn)) ∧ (aE t.e 0 sn + 1 ≠ 1 → SnS F s0 n nx (bY t.e (w64 (aE t.e 0 sn + 1)) sn)) := by
 have ht := hc t.e
 have hw : w64 (aE t.e 0 sn + 1) = aE t.e 0 sn + 1 := cR (by omega) (by omega)
 rw [hw]
 have hself : aE t.e 0 (bY t.e (aE t.e 0 sn + 1) sn) = aE t.e 0 sn + 1 := by rw [oP, decide_eq_true rfl, cond_true]
 refine ⟨fun x => ?_, hself, fun h1 s hsn => ?_, fun h1 s hsn => ?_⟩
 ·rw [oP]
  have hx := hc x
  cases decide (x = t.e) with
  | true => rw [cond_true]; omega
  | false => rw [cond_false]; omega
 ·rw [oP] at hsn
  by_cases e : s.e = t.e
  ·obtain rfl := Spt.inj e
   exact .inl (by simp)
  ·rw [decide_eq_false e, cond_false] at hsn
   rcases hs s hsn with h | h
   ·exact .inl (by simp [h])
   ·exact .inr h
 ·rw [oP] at hsn
  by_cases e : s.e = t.e
  ·obtain rfl := Spt.inj e
   exact hs s (by omega)
  ·rw [decide_eq_false e, cond_false] at hsn
   exact hs s hsn
end
section
variable {L : aH} {A0 : List Int} {p : Int} {F : Spt → Option Spt} {sz : Spt → Nat} {Bd : Spt → Prop}
def uX (L : aH) (A0 : List Int) (p : Int) (F : Spt → Option Spt) (s : Spt) : Prop := match F s with
 | none => ∃ s2, iB s.e L A0 p = some (s2, true)
 | some s2 => iB s.e L A0 p = some (s2.e, false)
theorem aDu (hF : ∀ b s s', Bd s → (bif b then s' = Spt.mk s.u (s.g - 1) s.m s.c ∧ s.g ≠ 0 else s' = Spt.mk (s.u - 1) s.g s.m s.c ∧ s.u ≠ 0) → uX L A0 p F s')
  (a0 : List aO → Int → List (aO × Int) → Option Int) (a2 : Int → List aO → List (aO × Int) → Option Int) (many t42 t43 : Int) (t41 : List aO) (s : Spt) (hb : Bd s) (hsl : s.u ≤ 1000 ∧ s.g ≤ 1000) (b : Bool) (K : Nat) (nx : List Spt) (sn : List (aO × Int)) (hl : nx.length ≤ 4000000000000)
  {s0 : Spt} {n T : Nat} (hs : SnS F s0 n nx sn) (hc : CnS sn T) (hT : T ≤ 9000000000000) :
  (gS F b s = some none ∧ bT a0 a2 L A0 p many t41 t42 t43 s.e (K + 1) (bif b then 1 else 0) (nx.map Spt.e) sn = some many) ∨
  (gS F b s ≠ some none ∧ ∃ nx' sn', bT a0 a2 L A0 p many t41 t42 t43 s.e (K + 1) (bif b then 1 else 0) (nx.map Spt.e) sn = bT a0 a2 L A0 p many t41 t42 t43 s.e K (bif b then 2 else 1) (nx'.map Spt.e) sn' ∧
   SnS F s0 n nx' sn' ∧ CnS sn' (T + 1) ∧ nx'.length ≤ nx.length + 1 ∧ (∀ x ∈ nx, x ∈ nx') ∧ (∀ x ∈ nx', x ∈ nx ∨ gS F b s = some (some x)) ∧ (∀ x, 1 ≤ aE x 0 sn → 1 ≤ aE x 0 sn') ∧ ∀ t, gS F b s = some (some t) → 1 ≤ aE t.e 0 sn') := by
 have c2 : decide ((bif b then (1 : Int) else 0) < 2) = true := by cases b <;> rfl
 have c1 : decide ((bif b then (1 : Int) else 0) = 1) = b := by cases b <;> rfl
 have c3 : w64 ((bif b then (1 : Int) else 0) + 1) = (bif b then 2 else 1) := by cases b <;> rfl
 rw [bT, c2, cond_true, c1, c3]
 have hkeep : ∃ nx' sn', bT a0 a2 L A0 p many t41 t42 t43 s.e K (bif b then 2 else 1) (nx.map Spt.e) sn = bT a0 a2 L A0 p many t41 t42 t43 s.e K (bif b then 2 else 1) (nx'.map Spt.e) sn' ∧
   SnS F s0 n nx' sn' ∧ CnS sn' (T + 1) ∧ nx'.length ≤ nx.length + 1 ∧ (∀ x ∈ nx, x ∈ nx') ∧ (∀ x ∈ nx', x ∈ nx ∨ gS F b s = some (some x)) ∧ (∀ x, 1 ≤ aE x 0 sn → 1 ≤ aE x 0 sn') :=
  ⟨nx, sn, rfl, hs, fun x => by have := hc x; omega, by omega, fun x hx => hx, fun x hx => .inl hx, fun x hx => hx⟩
 have go : ∀ s' : Spt, uX L A0 p F s' → gS F b s = some (F s') →
   ∀ rest, rest = (iB s'.e L A0 p).bind (fun r17 => bif r17.2 then (some many) else (bif decide ((aE r17.1 0 (bY r17.1 (w64 ((aE r17.1 0 sn) + 1)) sn)) = 1) then ((app 32 (nx.map Spt.e) ([r17.1])).bind fun x18 => bT a0 a2 L A0 p many t41 t42 t43 s.e K (bif b then 2 else 1) x18 (bY r17.1 (w64 ((aE r17.1 0 sn) + 1)) sn)) else bT a0 a2 L A0 p many t41 t42 t43 s.e K (bif b then 2 else 1) (nx.map Spt.e) (bY r17.1 (w64 ((aE r17.1 0 sn) + 1)) sn))) →
   (gS F b s = some none ∧ rest = some many) ∨ (gS F b s ≠ some none ∧ ∃ nx' sn', rest = bT a0 a2 L A0 p many t41 t42 t43 s.e K (bif b then 2 else 1) (nx'.map Spt.e) sn' ∧
   SnS F s0 n nx' sn' ∧ CnS sn' (T + 1) ∧ nx'.length ≤ nx.length + 1 ∧ (∀ x ∈ nx, x ∈ nx') ∧ (∀ x ∈ nx', x ∈ nx ∨ gS F b s = some (some x)) ∧ (∀ x, 1 ≤ aE x 0 sn → 1 ≤ aE x 0 sn') ∧ ∀ t, gS F b s = some (some t) → 1 ≤ aE t.e 0 sn') := by
  intro s' hok hst rest hr
  unfold uX at hok
  cases hfs : F s' with
  | none =>
   rw [hfs] at hok
   obtain ⟨s2, e⟩ := hok
   rw [hfs] at hst
   rw [e, Option.bind_some, cond_true] at hr
   exact .inl ⟨hst, hr⟩
  | some t =>
   rw [hfs] at hok
   rw [hfs] at hst
   rw [hok, Option.bind_some, cond_false] at hr
   have k := aPk (t := t) hs hc hT
   rw [k.2.1] at hr
   have htt := hc t.e
   have hmono : ∀ x, 1 ≤ aE x 0 sn → 1 ≤ aE x 0 (bY t.e (w64 (aE t.e 0 sn + 1)) sn) := fun x hx => by
    rw [oP]
    cases decide (x = t.e) with
    | true => rw [cond_true, cR (by omega) (by omega)]; omega
    | false => exact hx
   have hcov : ∀ t', gS F b s = some (some t') → 1 ≤ aE t'.e 0 (bY t.e (w64 (aE t.e 0 sn + 1)) sn) := fun t' ht' => by
    rw [hst] at ht'
    obtain rfl : t = t' := by simpa using ht'
    rw [k.2.1]; omega
   refine .inr ⟨by rw [hst]; simp, ?_⟩
   by_cases h1 : aE t.e 0 sn + 1 = 1
   ·rw [decide_eq_true h1, cond_true, eN (by simp; omega), Option.bind_some] at hr
    refine ⟨nx ++ [t], _, by rw [hr, List.map_append]; rfl, k.2.2.1 h1, k.1, by simp, fun x hx => by simp [hx], fun x hx => ?_, hmono, hcov⟩
    rcases List.mem_append.1 hx with hx | hx
    ·exact .inl hx
    ·rw [List.mem_singleton.1 hx]; exact .inr hst
   ·rw [decide_eq_false h1, cond_false] at hr
    exact ⟨nx, _, hr, k.2.2.2 h1, k.1, by omega, fun x hx => hx, fun x hx => .inl hx, hmono, hcov⟩
 cases b with
 | true =>
  simp only [cond_true]
  by_cases hz : s.g = 0
  ·right
   have hst : gS F true s = none := by unfold gS; rw [cond_true, if_pos hz]
   refine ⟨by rw [hst]; simp, ?_⟩
   have hg : decide (w64 (s.e.guarded - 1) < 0) = true := by
    show decide (w64 ((s.g : Int) - 1) < 0) = true
    rw [hz]; rfl
   rw [hg, cond_true, Option.bind_some, cond_true]
   obtain ⟨nx', sn', e, k1, k2, k3, k4, k5, k6⟩ := hkeep
   exact ⟨nx', sn', e, k1, k2, k3, k4, k5, k6, fun t ht => by rw [hst] at ht; cases ht⟩
  ·have hst : gS F true s = some (F ⟨s.u, s.g - 1, s.m, s.c⟩) := by unfold gS; rw [cond_true, if_neg hz]
   have hw : w64 (s.e.guarded - 1) = ((s.g - 1 : Nat) : Int) := by
    show w64 ((s.g : Int) - 1) = _
    rw [cR (by omega) (by omega)]; omega
   rw [hw, decide_eq_false (show ¬ ((s.g - 1 : Nat) : Int) < 0 by omega), cond_false, Option.bind_some, show decide (s.e.free < 0) = false from decide_eq_false (by show ¬ (s.u : Int) < 0; omega), cond_false]
   exact go ⟨s.u, s.g - 1, s.m, s.c⟩ (hF true s _ hb ⟨rfl, hz⟩) hst _ rfl
 | false =>
  simp only [cond_false]
  by_cases hz : s.u = 0
  ·right
   have hst : gS F false s = none := by unfold gS; rw [cond_false, if_pos hz]
   refine ⟨by rw [hst]; simp, ?_⟩
   have hg : decide (s.e.guarded < 0) = false := decide_eq_false (by show ¬ (s.g : Int) < 0; omega)
   have hu : decide (w64 (s.e.free - 1) < 0) = true := by
    show decide (w64 ((s.u : Int) - 1) < 0) = true
    rw [hz]; rfl
   rw [hg, cond_false, hu, Option.bind_some, cond_true]
   obtain ⟨nx', sn', e, k1, k2, k3, k4, k5, k6⟩ := hkeep
   exact ⟨nx', sn', e, k1, k2, k3, k4, k5, k6, fun t ht => by rw [hst] at ht; cases ht⟩
  ·have hst : gS F false s = some (F ⟨s.u - 1, s.g, s.m, s.c⟩) := by unfold gS; rw [cond_false, if_neg hz]
   have hw : w64 (s.e.free - 1) = ((s.u - 1 : Nat) : Int) := by
    show w64 ((s.u : Int) - 1) = _
    rw [cR (by omega) (by omega)]; omega
   rw [show decide (s.e.guarded < 0) = false from decide_eq_false (by show ¬ (s.g : Int) < 0; omega), cond_false, hw, decide_eq_false (show ¬ ((s.u - 1 : Nat) : Int) < 0 by omega), Option.bind_some, cond_false]
   exact go ⟨s.u - 1, s.g, s.m, s.c⟩ (hF false s _ hb ⟨rfl, hz⟩) hst _ rfl
end
end Go.Am
end
section
namespace Go.Am
section
variable {L : aH} {A0 : List Int} {p : Int} {F : Spt → Option Spt} {sz : Spt → Nat} {Bd : Spt → Prop}
theorem aNv (hF : ∀ b s s', Bd s → (bif b then s' = Spt.mk s.u (s.g - 1) s.m s.c ∧ s.g ≠ 0 else s' = Spt.mk (s.u - 1) s.g s.m s.c ∧ s.u ≠ 0) → uX L A0 p F s')
  (a0 : List aO → Int → List (aO × Int) → Option Int) (a2 : Int → List aO → List (aO × Int) → Option Int) (many t42 : Int) {j : Nat} (hj : j < 4611686018427387904) (t41 : List aO) (s : Spt) (hb : Bd s) (hsl : s.u ≤ 1000 ∧ s.g ≤ 1000) (nx : List Spt) (sn : List (aO × Int)) (hl : nx.length ≤ 3900000000000)
  {s0 : Spt} {n T : Nat} (hs : SnS F s0 n nx sn) (hc : CnS sn T) (hT : T ≤ 8900000000000) :
  ((∃ b, gS F b s = some none) ∧ bT a0 a2 L A0 p many t41 t42 (j : Int) s.e BIG 0 (nx.map Spt.e) sn = some many) ∨
  ((∀ b, gS F b s ≠ some none) ∧ ∃ nx' sn', bT a0 a2 L A0 p many t41 t42 (j : Int) s.e BIG 0 (nx.map Spt.e) sn = a2 ((j + 1 : Nat) : Int) (nx'.map Spt.e) sn' ∧
   SnS F s0 n nx' sn' ∧ CnS sn' (T + 2) ∧ nx'.length ≤ nx.length + 2 ∧ (∀ x ∈ nx, x ∈ nx') ∧ (∀ x ∈ nx', x ∈ nx ∨ ∃ b, gS F b s = some (some x)) ∧ (∀ x, 1 ≤ aE x 0 sn → 1 ≤ aE x 0 sn') ∧ ∀ b t, gS F b s = some (some t) → 1 ≤ aE t.e 0 sn') := by
 obtain ⟨K, hK⟩ : ∃ K, BIG = K + 1 + 1 + 1 := ⟨BIG - 3, by unfold BIG; omega⟩
 rw [hK]
 have h0 := aDu hF a0 a2 many t42 (j : Int) t41 s hb hsl false (K + 1 + 1) nx sn (by omega) hs hc (by omega)
 simp only [cond_false] at h0
 rcases h0 with ⟨e1, e2⟩ | ⟨e1, nx1, sn1, e2, k1, k2, k3, k4, k5, k6, k7⟩
 ·exact .inl ⟨⟨false, e1⟩, e2⟩
 ·rw [e2]
  have h1 := aDu hF a0 a2 many t42 (j : Int) t41 s hb hsl true (K + 1) nx1 sn1 (by omega) k1 k2 (by omega)
  simp only [cond_true] at h1
  rcases h1 with ⟨d1, d2⟩ | ⟨d1, nx2, sn2, d2, q1, q2, q3, q4, q5, q6, q7⟩
  ·exact .inl ⟨⟨true, d1⟩, d2⟩
  ·refine .inr ⟨fun b => by cases b; exact e1; exact d1, nx2, sn2, ?_, q1, q2, by omega, fun x hx => q4 x (k4 x hx), fun x hx => ?_, fun x hx => q6 x (k6 x hx), fun b t ht => ?_⟩
   ·rw [d2, bT, decide_eq_false (show ¬ (2 : Int) < 2 by omega), cond_false]
    unfold oY oX
    rw [bU (by omega)]
   ·rcases q5 x hx with h | h
    ·rcases k5 x h with h | h
     ·exact .inl h
     ·exact .inr ⟨false, h⟩
    ·exact .inr ⟨true, h⟩
   ·cases b with
    | false => exact q6 _ (k7 t ht)
    | true => exact q7 t ht
theorem aNu (hF : ∀ b s s', Bd s → (bif b then s' = Spt.mk s.u (s.g - 1) s.m s.c ∧ s.g ≠ 0 else s' = Spt.mk (s.u - 1) s.g s.m s.c ∧ s.u ≠ 0) → uX L A0 p F s') (hZ : SzS F sz Bd) (hB : ∀ s, Bd s → s.u ≤ 1000 ∧ s.g ≤ 1000)
  (a0 : List aO → Int → List (aO × Int) → Option Int) (now : List Spt) (sn : List (aO × Int)) {s0 : Spt} {n : Nat} (hn : n ≤ 1000) (hl : now.length ≤ 1000000000000) {T : Nat} (hT : T + 2 * now.length ≤ 8000000000000) (hlv : LvS F sz Bd s0 n now) (hs : SnS F s0 n [] sn) (hc : CnS sn T)
  (hnext : ∀ (nx : List Spt) (sn' : List (aO × Int)), LvS F sz Bd s0 (n + 1) nx → SnS F s0 (n + 1) [] sn' → CnS sn' (T + 2 * now.length) → nx.length ≤ 2 * now.length → aHy F s0 (a0 (nx.map Spt.e) ((n + 1 + 1 : Nat) : Int) sn')) :
  aHy F s0 (eF a0 L A0 p ((n + 1 : Nat) : Int) (now.map Spt.e) ((now.map Spt.e).length : Int) BIG 0 [] sn) := by
 refine qV (S := List Spt × List (aO × Int)) (fun K j x => eF a0 L A0 p ((n + 1 : Nat) : Int) (now.map Spt.e) ((now.map Spt.e).length : Int) K j (x.1.map Spt.e) x.2) now.length (aHy F s0)
  (fun j x => j ≤ now.length ∧ SnS F s0 n x.1 x.2 ∧ CnS x.2 (T + 2 * j) ∧ x.1.length ≤ 2 * j ∧ (∀ y ∈ x.1, Bd y ∧ (∀ m, rS F m y → rS F (n + 1 + m) s0) ∧ sz y + (n + 1) ≤ sz s0) ∧ ∀ s ∈ now.take j, (∀ b, gS F b s ≠ some none) ∧ ∀ b t, gS F b s = some (some t) → 1 ≤ aE t.e 0 x.2) (fun K j x hj hI ih => ?_) (fun K j x hj hI => ?_) BIG 0 ([], sn) (dC (by omega)) ⟨by omega, hs, hc, by simp, by simp, by simp⟩
 ·obtain ⟨h1, h2, h3, h4, h5, h6⟩ := hI
  have hjl : j < (now.map Spt.e).length := by simpa using hj
  have hget : (now.map Spt.e)[j] = now[j].e := List.getElem_map _
  have hok := hlv.ok _ (List.getElem_mem hj)
  simp only [eF, show decide ((j : Int) < ((now.map Spt.e).length : Int)) = true from decide_eq_true (by omega), cond_true, cV hjl, Option.bind_some, hget]
  rcases aNv hF a0 (eF a0 L A0 p ((n + 1 : Nat) : Int) (now.map Spt.e) ((now.map Spt.e).length : Int) K) ((n + 1 : Nat) : Int) ((now.map Spt.e).length : Int) (j := j) (by omega) (now.map Spt.e) now[j] hok.1 (hB _ hok.1) x.1 x.2 (by omega) h2 h3 (by omega) with ⟨⟨b, e1⟩, e2⟩ | ⟨e1, nx', sn', e2, k1, k2, k3, k4, k5, k6, k7⟩
  ·rw [e2]
   refine .inl ⟨n + 1, rfl, hok.2.1 1 ⟨b, .inl ⟨e1, rfl⟩⟩, fun m hm => hlv.low m (by omega)⟩
  ·rw [e2]
   refine ih (nx', sn') ⟨by omega, k1, fun y => by have := k2 y; omega, by simp only; omega, fun y hy => ?_, fun s hs2 => ?_⟩
   ·rcases k5 y hy with h | ⟨b, h⟩
    ·exact h5 y h
    ·have hd := hZ.dn hok.1 h
     refine ⟨hd.2, fun m hm => ?_, by omega⟩
     have := hok.2.1 (m + 1) ⟨b, .inr ⟨y, h, hm⟩⟩
     rw [show n + 1 + m = n + (m + 1) by omega]; exact this
   ·rw [List.take_succ_eq_append_getElem hj] at hs2
    rcases List.mem_append.1 hs2 with hs2 | hs2
    ·exact ⟨(h6 s hs2).1, fun b t ht => k6 _ ((h6 s hs2).2 b t ht)⟩
    ·rw [List.mem_singleton.1 hs2]; exact ⟨e1, k7⟩
 ·obtain ⟨h1, h2, h3, h4, h5, h6⟩ := hI
  obtain rfl : j = now.length := by omega
  rw [List.take_length] at h6
  simp only [eF, show decide ((now.length : Int) < ((now.map Spt.e).length : Int)) = false from decide_eq_false (by simp), cond_false]
  unfold oW oV
  rw [bU (by omega)]
  have low1 : ∀ m, m ≤ n + 1 → ¬ rS F m s0 := fun m hm hr => by
   by_cases hmn : m ≤ n
   ·exact hlv.low m hmn hr
   ·obtain rfl : m = n + 1 := by omega
    obtain ⟨s, hs2, hr2⟩ := hlv.cov (n + 1) hr (fun m hm => hlv.low m (by omega)) (by omega)
    rw [show n + 1 - n = 0 + 1 by omega] at hr2
    obtain ⟨b, ⟨hb, _⟩ | ⟨s', _, hb⟩⟩ := hr2
    ·exact (h6 s hs2).1 b hb
    ·exact hb
  refine hnext x.1 x.2 ⟨h5, fun D hD hmin hlt => ?_, low1⟩ (fun s hs2 => ?_) h3 h4
  ·obtain ⟨s, hs2, hr2⟩ := hlv.cov D hD hmin (by omega)
   rw [show D - n = (D - (n + 1)) + 1 by omega] at hr2
   obtain ⟨b, ⟨_, hb⟩ | ⟨s', hb, hr3⟩⟩ := hr2
   ·omega
   ·rcases h2 s' ((h6 s hs2).2 b s' hb) with h | ⟨q, hq, h⟩
    ·exact ⟨s', h, hr3⟩
    ·exact absurd (h _ hr3) (hmin _ (by omega))
  ·rcases h2 s hs2 with h | ⟨q, hq, h⟩
   ·exact .inr ⟨n + 1, Nat.le_refl _, (h5 s h).2.1⟩
   ·exact .inr ⟨q, by omega, h⟩
theorem aNt (hF : ∀ b s s', Bd s → (bif b then s' = Spt.mk s.u (s.g - 1) s.m s.c ∧ s.g ≠ 0 else s' = Spt.mk (s.u - 1) s.g s.m s.c ∧ s.u ≠ 0) → uX L A0 p F s') (hZ : SzS F sz Bd) (hB : ∀ s, Bd s → s.u ≤ 1000 ∧ s.g ≤ 1000) {s0 : Spt} (hsz : sz s0 ≤ 30) : ∀ (d n K : Nat) (now : List Spt) (sn : List (aO × Int)), sz s0 + 1 - n = d → n ≤ sz s0 + 1 → d < K → LvS F sz Bd s0 n now → SnS F s0 n [] sn → CnS sn (2 ^ (n + 2)) → now.length ≤ 2 ^ n →
  aHy F s0 (eS L A0 p K (now.map Spt.e) ((n + 1 : Nat) : Int) sn) := by
 have none_at : ∀ n, LvS F sz Bd s0 n [] → ∀ m, ¬ rS F m s0 := fun n hlv => by
  have key : ∀ N m, m ≤ N → ¬ rS F m s0 := by
   intro N
   induction N with
   | zero => intro m hm; exact hlv.low m (by omega)
   | succ N ih =>
    intro m hm hr
    by_cases hmN : m ≤ N
    ·exact ih m hmN hr
    ·obtain rfl : m = N + 1 := by omega
     by_cases hle : N + 1 ≤ n
     ·exact hlv.low _ hle hr
     ·obtain ⟨s, hs, _⟩ := hlv.cov (N + 1) hr (fun m hm => ih m (by omega)) (by omega)
      simp at hs
  exact fun m => key m m (Nat.le_refl _)
 intro d
 induction d with
 | zero =>
  intro n K now sn hd hn hK hlv _ _ _
  obtain ⟨K, rfl⟩ : ∃ q, K = q + 1 := ⟨K - 1, by omega⟩
  have : now = [] := by
   cases now with
   | nil => rfl
   | cons s t => have := (hlv.ok s (by simp)).2.2; omega
  subst this
  exact .inr ⟨rfl, none_at n hlv⟩
 | succ d ih =>
  intro n K now sn hd hn hK hlv hs hc hl
  obtain ⟨K, rfl⟩ : ∃ q, K = q + 1 := ⟨K - 1, by omega⟩
  cases hnl : now with
  | nil =>
   rw [hnl] at hlv
   exact .inr ⟨rfl, none_at n hlv⟩
  | cons s t =>
   rw [← hnl]
   have hpos : 0 < (now.map Spt.e).length := by rw [hnl]; simp
   have hp1 : 2 ^ n ≤ 2 ^ 30 := Nat.pow_le_pow_right (by omega) (by omega)
   have hp2 : 2 ^ (n + 2) ≤ 2 ^ 32 := Nat.pow_le_pow_right (by omega) (by omega)
   have e30 : (2 : Nat) ^ 30 = 1073741824 := by decide
   have e32 : (2 : Nat) ^ 32 = 4294967296 := by decide
   simp only [eS, show decide ((0 : Int) < ((now.map Spt.e).length : Int)) = true from decide_eq_true (by omega), cond_true]
   refine aNu hF hZ hB _ now sn (by omega) (by omega) (T := 2 ^ (n + 2)) (by omega) hlv hs hc fun nx sn' h1 h2 h3 h4 => ?_
   refine ih (n + 1) K nx sn' (by omega) (by omega) (by omega) h1 h2 (fun y => ?_) ?_
   ·have := h3 y
    rw [show n + 1 + 2 = (n + 2) + 1 by omega, Nat.pow_succ]
    have e : 2 ^ (n + 2) = 2 ^ n * 4 := by rw [Nat.pow_add]
    omega
   ·rw [Nat.pow_succ]; omega
end
section
variable {A0 : List Int} {gf : Int → Bool} {P G p : Int}
def BdS (A0 : List Int) (gf : Int → Bool) (s : Spt) : Prop := s.m ≤ (Us A0 gf).length ∧ s.c ≤ (Gs A0 gf).length ∧ s.u + s.g ≤ 200
def szS (A0 : List Int) (s : Spt) : Nat := s.u + s.g + (A0.length - (s.m + s.c))
theorem aGp (hn : A0.Nodup) (hP : P ≤ 92) : ∀ (k : Nat) (s t : Spt), BdS A0 gf s → iY A0 gf P G p k s = some t → BdS A0 gf t ∧ szS A0 t = szS A0 s := by
 intro k
 induction k with
 | zero => intro s t hb h; simp only [iY, Option.some.injEq] at h; subst h; exact ⟨hb, rfl⟩
 | succ k ih =>
  intro s t hb h
  have hlen := aRy (E0 := A0) (gf := gf)
  rw [iY] at h
  split at h
  ·rename_i hlt
   split at h
   ·simp only [Option.some.injEq] at h; subst h; exact ⟨hb, rfl⟩
   ·rename_i n hf
    have hx := aGg hn hf
    split at h
    ·cases h
    ·split at h
     ·rename_i _ hg
      have h2 := (List.getElem?_eq_some_iff.1 (hx.2 hg)).1
      obtain ⟨a, b, c⟩ := hb
      have := ih ⟨s.u, s.g + 1, s.m, s.c + 1⟩ t ⟨a, (by show s.c + 1 ≤ _; omega), (by show s.u + (s.g + 1) ≤ 200; omega)⟩ h
      refine ⟨this.1, this.2.trans ?_⟩
      unfold szS; simp only; omega
     ·rename_i _ hg
      have h2 := (List.getElem?_eq_some_iff.1 (hx.1 (by simpa using hg))).1
      obtain ⟨a, b, c⟩ := hb
      have := ih ⟨s.u + 1, s.g, s.m + 1, s.c⟩ t ⟨(by show s.m + 1 ≤ _; omega), b, (by show s.u + 1 + s.g ≤ 200; omega)⟩ h
      refine ⟨this.1, this.2.trans ?_⟩
      unfold szS; simp only; omega
  ·simp only [Option.some.injEq] at h; subst h; exact ⟨hb, rfl⟩
theorem aPs (hn : A0.Nodup) (hP : P ≤ 92) : SzS (iY A0 gf P G p 100) (szS A0) (BdS A0 gf) := by
 refine ⟨fun {b s s'} hb h => ?_⟩
 obtain ⟨h1, h2, h3⟩ := hb
 unfold gS at h
 cases b with
 | true =>
  rw [cond_true] at h
  split at h
  ·cases h
  ·rename_i hg
   have := aGp hn hP 100 ⟨s.u, s.g - 1, s.m, s.c⟩ s' ⟨h1, h2, (by show s.u + (s.g - 1) ≤ 200; omega)⟩ (Option.some.inj h)
   refine ⟨?_, this.1⟩
   rw [this.2]; unfold szS; simp only; omega
 | false =>
  rw [cond_false] at h
  split at h
  ·cases h
  ·rename_i hg
   have := aGp hn hP 100 ⟨s.u - 1, s.g, s.m, s.c⟩ s' ⟨h1, h2, (by show s.u - 1 + s.g ≤ 200; omega)⟩ (Option.some.inj h)
   refine ⟨?_, this.1⟩
   rw [this.2]; unfold szS; simp only; omega
end
def sp0 (L : aH) : Spt := ⟨uC (gfL L) (aW L), gC (gfL L) (aW L), 0, 0⟩
theorem aNw {f : aP} {L : aH} {i : Nat} (h : eQ f L i) (hi : i ≤ 20) (hm : MS L) (hnd : (aW L).Nodup) (p : Int) : ∃ r, mD L p = some r ∧ aHy (iY (fM L (aW L)) (gfL L) (plc L) L.Field.Guards p 100) (sp0 L) (some r) := by
 have hw := h.wf
 have hp := oH hw
 have hml := sS h
 have hlen := aEo h
 have hA : (fM L (aW L)).Nodup := (jK hw).filter _
 have hAl : (fM L (aW L)).length ≤ 20 := by
  have := List.length_filter_le (fun n => (pl L n).signed && !decide (n ∈ aW L)) (bF L)
  unfold fM; omega
 have hsub : (aW L).length ≤ (bF L).length := hnd.length_le_of_subset fun n hn => gF.2 (hm n hn)
 have hsum := vZ (gf := gfL L) (aW L)
 have hboth : (aW L).length + (fM L (aW L)).length ≤ 20 := by
  have hnn : (aW L ++ fM L (aW L)).Nodup := List.nodup_append.2 ⟨hnd, hA, fun a ha b hb e => by
   subst e
   have := (List.mem_filter.1 hb).2
   simp [ha] at this⟩
  have := hnn.length_le_of_subset (l₂ := bF L) fun n hn => by
   rcases List.mem_append.1 hn with hn | hn
   ·exact gF.2 (hm n hn)
   ·exact (List.mem_filter.1 hn).1
  rw [List.length_append] at this
  omega
 have hdel : cA (uJ L) (fun y7 => jG y7 L) = some (fM L (aW L)) := by
  rw [aAj (uJ L) (fun y7 => jG y7 L) (fun n => !(pl L n).signed) (fun x _ => rfl) (by have := aJl hw; omega)]
  unfold uJ fM
  rw [List.filter_filter]
  congr 1
  refine List.filter_congr fun m _ => ?_
  cases (pl L m).signed <;> cases decide (m ∈ aW L) <;> rfl
 have hB : ∀ s, BdS (fM L (aW L)) (gfL L) s → s.u ≤ 1000 ∧ s.g ≤ 1000 := fun s hs => by have := hs.2.2; omega
 have hF : ∀ b s s', BdS (fM L (aW L)) (gfL L) s → (bif b then s' = Spt.mk s.u (s.g - 1) s.m s.c ∧ s.g ≠ 0 else s' = Spt.mk (s.u - 1) s.g s.m s.c ∧ s.u ≠ 0) → uX L (fM L (aW L)) p (iY (fM L (aW L)) (gfL L) (plc L) L.Field.Guards p 100) s' := fun b s s' hs hh => by
  have hug := aRy (E0 := fM L (aW L)) (gf := gfL L)
  obtain ⟨a1, a2, a3⟩ := hs
  have hb : s'.u + s'.g ≤ 500 ∧ s'.m ≤ 500 ∧ s'.c ≤ 500 ∧ s'.m + s'.c + 100 ≤ 500 := by
   cases b with
   | true => obtain ⟨rfl, _⟩ := hh; simp only; omega
   | false => obtain ⟨rfl, _⟩ := hh; simp only; omega
  have k := aSo hw (fM L (aW L)) hA (by omega) p 100 100 BIG s' (by omega) (by decide) (Nat.le_refl _) hb (aO.mk 0 0 0 0)
  unfold uX
  cases hfs : iY (fM L (aW L)) (gfL L) (plc L) L.Field.Guards p 100 s' with
  | none => rw [hfs] at k; exact k
  | some t => rw [hfs] at k; exact k
 have hsz : szS (fM L (aW L)) (sp0 L) ≤ 30 := by
  unfold szS sp0
  simp only
  omega
 have key := aNt hF (aPs hA hp.2) hB hsz (szS (fM L (aW L)) (sp0 L) + 1) 0 BIG [sp0 L] [] (by omega) (by omega) (dC (by omega))
  ⟨fun s hs => by
   rw [List.mem_singleton.1 hs]
   exact ⟨⟨Nat.zero_le _, Nat.zero_le _, by unfold sp0; simp only; omega⟩, fun m hm => by rw [Nat.zero_add]; exact hm, by omega⟩, fun D hD _ _ => ⟨sp0 L, by simp, by rw [Nat.sub_zero]; exact hD⟩, fun m hm => by
   have : m = 0 := by omega
   subst this
   exact fun h => h⟩
  (fun s hs => by simp [aE] at hs) (fun x => by simp [aE]) (by simp)
 unfold mD
 rw [zI h, Option.bind_some, aAx L _ (by omega), Option.bind_some, aJm h, Option.bind_some, hdel, Option.bind_some]
 have e0 : (aO.mk (w64 (((aW L).length : Int) - ((gd L (aW L) : Nat) : Int))) ((gd L (aW L) : Nat) : Int) 0 0) = (sp0 L).e := by
  have hgd : gd L (aW L) = gC (gfL L) (aW L) := rfl
  rw [hgd, cR (by omega) (by omega), show ((aW L).length : Int) - ((gC (gfL L) (aW L) : Nat) : Int) = ((uC (gfL L) (aW L) : Nat) : Int) by omega]
  rfl
 rw [e0]
 rcases key with ⟨D, e, h1, h2⟩ | ⟨e, h1⟩
 ·exact ⟨(D : Int), e, .inl ⟨D, rfl, h1, h2⟩⟩
 ·exact ⟨61, e, .inr ⟨rfl, h1⟩⟩
end Go.Am
end
section
namespace Go.Am
section
variable {A0 : List Int} {gf : Int → Bool} {P G p : Int}
structure Qs (A0 : List Int) (gf : Int → Bool) (p : Int) (s : Spt) (k : List Int × List Int) : Prop where
 u : s.u = uC gf k.1
 g : s.g = gC gf k.1
 a : k.2 = eab A0 gf (s.m, s.c)
 b : s.m ≤ (Us A0 gf).length ∧ s.c ≤ (Gs A0 gf).length
 p : p ∉ k.1
 n : (k.1 ++ k.2).Nodup
theorem aMl : ∀ (k : Nat) (I A : List Int) {x : Int}, x ∈ I → x ∈ (qK gf P G k I A).1 := fun k I A x hx =>
 aGj (gf := gf) (P := P) (G := G) (fun I2 _ => x ∈ I2) (fun I2 A2 y h _ => List.mem_append.2 (.inl h)) k I A hx
theorem xQ (hn : A0.Nodup) : ∀ (k : Nat) (s : Spt) (I A : List Int), Qs A0 gf p s (I, A) → (match iY A0 gf P G p k s with
  | none => p ∈ (qK gf P G k I A).1
  | some t => Qs A0 gf p t (qK gf P G k I A)) := by
 intro k
 induction k with
 | zero => intro s I A h; exact h
 | succ k ih =>
  intro s I A h
  have hsum := vZ (gf := gf) I
  have hu := h.u
  have hg := h.g
  have ha := h.a
  simp only at hu hg ha
  have hlen : (s.u : Int) + s.g = (I.length : Int) := by omega
  rw [iY, qK, hlen]
  by_cases hlt : (I.length : Int) < P
  ·rw [if_pos hlt, if_pos hlt, ← hg, ha]
   cases hf : (eab A0 gf (s.m, s.c)).find? (elg gf G s.g) with
   | none =>
    simp only
    rw [← ha]; exact h
   | some n =>
    simp only
    have hx := aGg hn hf
    have hnA : n ∈ A := by rw [ha]; exact List.mem_of_find?_eq_some hf
    by_cases hnp : n = p
    ·rw [if_pos hnp]
     exact aMl k _ _ (by rw [hnp]; simp)
    ·rw [if_neg hnp]
     have nd := h.n
     simp only at nd
     have nd1 := List.nodup_append.1 nd
     have hnI : n ∉ I := fun hm => nd1.2.2 n hm n hnA rfl
     have hp2 : p ∉ I ++ [n] := by
      rw [List.mem_append, List.mem_singleton, not_or]
      exact ⟨h.p, fun e => hnp e.symm⟩
     have nd2 : (I ++ [n] ++ (eab A0 gf (s.m, s.c)).filter fun m => !decide (m = n)).Nodup := by
      rw [← ha]
      refine List.nodup_append.2 ⟨List.nodup_append.2 ⟨nd1.1, by simp, fun a h1 b h2 e => ?_⟩, nd1.2.1.filter _, fun a h1 b h2 e => ?_⟩
      ·rw [List.mem_singleton.1 h2] at e
       exact hnI (e ▸ h1)
      ·have h3 := List.mem_filter.1 h2
       rcases List.mem_append.1 h1 with h1 | h1
       ·exact nd1.2.2 a h1 b h3.1 e
       ·have := h3.2
        rw [← e, List.mem_singleton.1 h1] at this
        simp at this
     have a1 := xI (gf := gf) I [n]
     have a2 := qS (gf := gf) I [n]
     rw [xJ] at a1
     rw [qT] at a2
     by_cases hgn : gf n = true
     ·rw [if_pos hgn]
      rw [hgn, if_pos rfl] at a1 a2
      have h5 := hx.2 hgn
      have h6 := (List.getElem?_eq_some_iff.1 h5).1
      exact ih ⟨s.u, s.g + 1, s.m, s.c + 1⟩ _ _ ⟨by show s.u = uC gf (I ++ [n]); omega, by show s.g + 1 = gC gf (I ++ [n]); omega, (aIi (E0 := A0) (gf := gf) (s.m, s.c) true h5).symm, ⟨h.b.1, h6⟩, hp2, nd2⟩
     ·have hgf : gf n = false := by simpa using hgn
      rw [if_neg hgn]
      rw [hgf, if_neg (by simp)] at a1 a2
      have h5 := hx.1 hgf
      have h6 := (List.getElem?_eq_some_iff.1 h5).1
      exact ih ⟨s.u + 1, s.g, s.m + 1, s.c⟩ _ _ ⟨by show s.u + 1 = uC gf (I ++ [n]); omega, by show s.g = gC gf (I ++ [n]); omega, (aIi (E0 := A0) (gf := gf) (s.m, s.c) false h5).symm, ⟨h6, h.b.2⟩, hp2, nd2⟩
  ·rw [if_neg hlt, if_neg hlt]; exact h
theorem aBi {s : Spt} {I A : List Int} (h : Qs A0 gf p s (I, A)) {q : Int} (hq : q ∈ I) : (if gf q then s.g ≠ 0 else s.u ≠ 0) ∧ Qs A0 gf p (if gf q then ⟨s.u, s.g - 1, s.m, s.c⟩ else ⟨s.u - 1, s.g, s.m, s.c⟩) (I.filter fun m => !decide (m = q), A) := by
 have nd := h.n
 simp only at nd
 have nd1 := List.nodup_append.1 nd
 have hu := h.u
 have hg := h.g
 simp only at hu hg
 have f1 := xX (gf := gf) nd1.1 (k := q)
 have f2 := xR (gf := gf) nd1.1 (k := q)
 have hp2 : p ∉ I.filter fun m => !decide (m = q) := fun hm => h.p (List.mem_filter.1 hm).1
 have nd2 : ((I.filter fun m => !decide (m = q)) ++ A).Nodup := List.nodup_append.2 ⟨nd1.1.filter _, nd1.2.1, fun a h1 b h2 => nd1.2.2 a (List.mem_filter.1 h1).1 b h2⟩
 cases hgq : gf q with
 | true =>
  have := aOn hq hgq
  rw [if_neg (by simp [hgq])] at f1
  rw [if_pos ⟨hq, hgq⟩] at f2
  refine ⟨by simp; omega, ?_⟩
  rw [if_pos rfl]
  exact ⟨by show s.u = uC gf (I.filter fun m => !decide (m = q)); omega, by show s.g - 1 = gC gf (I.filter fun m => !decide (m = q)); omega, h.a, h.b, hp2, nd2⟩
 | false =>
  have := aPw hq hgq
  rw [if_pos ⟨hq, hgq⟩] at f1
  rw [if_neg (by simp [hgq])] at f2
  refine ⟨by simp; omega, ?_⟩
  rw [if_neg (by simp)]
  exact ⟨by show s.u - 1 = uC gf (I.filter fun m => !decide (m = q)); omega, by show s.g = gC gf (I.filter fun m => !decide (m = q)); omega, h.a, h.b, hp2, nd2⟩
theorem aMo (I : List Int) (b : Bool) : (I.find? (fun n => decide (gf n = b)) = none ↔ (bif b then gC gf I = 0 else uC gf I = 0)) := by
 rw [List.find?_eq_none]
 cases b with
 | true =>
  show _ ↔ (I.filter gf).length = 0
  rw [List.length_eq_zero_iff, List.filter_eq_nil_iff]
  simp
 | false =>
  show _ ↔ (I.filter fun n => !gf n).length = 0
  rw [List.length_eq_zero_iff, List.filter_eq_nil_iff]
  simp
theorem aHi (hn : A0.Nodup) {s : Spt} {k : List Int × List Int} (h : Qs A0 gf p s k) (b : Bool) : (aDq gf P G b k = none ∧ gS (iY A0 gf P G p 100) b s = none) ∨ ∃ k' o, aDq gf P G b k = some k' ∧ gS (iY A0 gf P G p 100) b s = some o ∧ (match o with | none => p ∈ k'.1 | some t => Qs A0 gf p t k') := by
 obtain ⟨I, A⟩ := k
 have hu := h.u
 have hg := h.g
 simp only at hu hg
 have hfc := aMo (gf := gf) I b
 unfold aDq
 cases hf : I.find? (fun n => decide (gf n = b)) with
 | none =>
  have := hfc.1 hf
  left
  refine ⟨rfl, ?_⟩
  unfold gS
  cases b with
  | true => rw [cond_true] at this ⊢; rw [if_pos (by omega)]
  | false => rw [cond_false] at this ⊢; rw [if_pos (by omega)]
 | some q =>
  right
  have hq := List.mem_of_find?_eq_some hf
  have hgq : gf q = b := by have := List.find?_some hf; simpa using this
  have hr := aBi h hq
  rw [hgq] at hr
  refine ⟨_, gS (iY A0 gf P G p 100) b s |>.getD none, rfl, ?_⟩
  cases b with
  | true =>
   rw [if_pos rfl, if_pos rfl] at hr
   have e : gS (iY A0 gf P G p 100) true s = some (iY A0 gf P G p 100 ⟨s.u, s.g - 1, s.m, s.c⟩) := by unfold gS; rw [cond_true, if_neg hr.1]
   rw [e]
   exact ⟨rfl, xQ hn 100 _ _ _ hr.2⟩
  | false =>
   rw [if_neg (by simp), if_neg (by simp)] at hr
   have e : gS (iY A0 gf P G p 100) false s = some (iY A0 gf P G p 100 ⟨s.u - 1, s.g, s.m, s.c⟩) := by unfold gS; rw [cond_false, if_neg hr.1]
   rw [e]
   exact ⟨rfl, xQ hn 100 _ _ _ hr.2⟩
theorem aJt (hn : A0.Nodup) : ∀ (n : Nat) (s : Spt) (k : List Int × List Int), Qs A0 gf p s k → (rch Prod.fst (aDq gf P G) p k n ↔ rS (iY A0 gf P G p 100) n s) := by
 intro n
 induction n with
 | zero => intro s k h; exact ⟨fun hm => absurd hm h.p, fun hm => absurd hm (fun x => x)⟩
 | succ n ih =>
  intro s k h
  constructor
  ·rintro ⟨_, b, k', hb, hr⟩
   rcases aHi (P := P) (G := G) hn h b with ⟨e, _⟩ | ⟨k2, o, e1, e2, e3⟩
   ·rw [e] at hb; cases hb
   ·rw [hb] at e1
    obtain rfl : k' = k2 := by simpa using e1
    cases o with
    | none =>
     refine ⟨b, .inl ⟨e2, ?_⟩⟩
     cases n with
     | zero => rfl
     | succ n => exact absurd e3 hr.1
    | some t => exact ⟨b, .inr ⟨t, e2, (ih t k' e3).1 hr⟩⟩
  ·rintro ⟨b, hb⟩
   refine ⟨h.p, b, ?_⟩
   rcases aHi (P := P) (G := G) hn h b with ⟨_, e⟩ | ⟨k2, o, e1, e2, e3⟩
   ·rcases hb with ⟨hb, _⟩ | ⟨t, hb, _⟩ <;> (rw [e] at hb; cases hb)
   ·rcases hb with ⟨hb, hn0⟩ | ⟨t, hb, hr⟩
    ·rw [hb] at e2
     obtain rfl : none = o := by simpa using e2
     subst hn0
     exact ⟨k2, e1, e3⟩
    ·rw [hb] at e2
     obtain rfl : some t = o := by simpa using e2
     exact ⟨k2, e1, (ih t k2 e3).2 hr⟩
theorem aVe {F : Spt → Option Spt} {sz : Spt → Nat} {Bd : Spt → Prop} (hZ : SzS F sz Bd) (hpos : ∀ b s, gS F b s ≠ none → 1 ≤ sz s) : ∀ (n : Nat) (s : Spt), Bd s → rS F n s → n ≤ sz s := by
 intro n
 induction n with
 | zero => intro s _ _; exact Nat.zero_le _
 | succ n ih =>
  rintro s hb ⟨b, ⟨h1, h2⟩ | ⟨t, h1, h2⟩⟩
  ·have := hpos b s (by rw [h1]; simp)
   omega
  ·have hd := hZ.dn hb h1
   have := ih t hd.2 h2
   omega
end
end Go.Am
end
section
namespace Go.Am
theorem aIs {f : aP} {l : List aG} (h : VL f l) {hour : Int} (hz : f.Freeze < hour) : (aZ f l hour).frozen = true := by
 have hT := nV l
 have hlen := h.len
 obtain ⟨_, _, ga⟩ := sO hour (cN l) (dB f) 0 (gX h.fd) (by omega) fun x hx => h.nt x ((dR x).1 hx)
 unfold aZ kU
 rw [ga.fd, decide_eq_true hz, cond_true]
 unfold cC
 cases hf : (nI hour (dB f) (cN l)).frozen with
 | false => rfl
 | true => exact hf
theorem aPo {L : aH} {p : Int} : ((nT L p).1 = 1 ↔ p ∈ aW L) ∧ ((nT L p).1 = 3 → p ∈ uJ L) := by
 have key : ∀ xs : List Int, decide (0 ≤ fA (fun x => decide (p = x)) xs) = decide (p ∈ xs) := fun xs => by
  rw [aAp, Bool.eq_iff_iff, List.any_eq_true, decide_eq_true_eq]
  constructor
  ·rintro ⟨x, hx, e⟩; rw [decide_eq_true_eq] at e; rw [e]; exact hx
  ·intro h; exact ⟨p, h, decide_eq_true rfl⟩
 unfold nT rC
 rw [key, key, key]
 by_cases h1 : p ∈ aW L
 ·rw [decide_eq_true h1, cond_true]; simp [h1]
 ·rw [decide_eq_false h1, cond_false]
  by_cases h2 : p ∈ L.wilds
  ·rw [decide_eq_true h2, cond_true]; simp [h1]
  ·rw [decide_eq_false h2, cond_false]
   by_cases h3 : p ∈ uJ L
   ·rw [decide_eq_true h3, cond_true]; simp [h1, h3]
   ·rw [decide_eq_false h3, cond_false]; simp [h1]
end Go.Am
end
section
namespace Go.Am
def RcU (L : aH) (p : Int) (n : Nat) : Prop := ∃ B A, bF L = B ++ p :: A ∧ Fe (plc L) L.Field.Guards (gfL L p) (uC (gfL L) B) (gC (gfL L) B) n
def Rc (L : aH) (p : Int) (n : Nat) : Prop := bif L.frozen then rch Prod.fst (aDq (gfL L) (plc L) L.Field.Guards) p (aW L, fM L (aW L)) n else RcU L p n
theorem aFd {p : Int} : ∀ {B A B2 A2 : List Int}, B ++ p :: A = B2 ++ p :: A2 → p ∉ B → p ∉ B2 → B = B2 ∧ A = A2
 | [], A, [], A2, h, _, _ => by simp at h; exact ⟨rfl, h⟩
 | [], A, b :: B2, A2, h, _, h2 => by simp at h; exact absurd h.1.symm (fun e => h2 (by simp [e]))
 | b :: B, A, [], A2, h, h1, _ => by simp at h; exact absurd h.1 (fun e => h1 (by simp [e]))
 | b :: B, A, b2 :: B2, A2, h, h1, h2 => by
  simp at h
  have := aFd h.2 (fun hm => h1 (by simp [hm])) (fun hm => h2 (by simp [hm]))
  exact ⟨by rw [h.1, this.1], this.2⟩
theorem wH {L : aH} (h : WF L) {p : Int} {B A : List Int} (hE : bF L = B ++ p :: A) (n : Nat) : RcU L p n ↔ Fe (plc L) L.Field.Guards (gfL L p) (uC (gfL L) B) (gC (gfL L) B) n := by
 have hn := jK h
 constructor
 ·rintro ⟨B2, A2, e, hf⟩
  rw [hE] at e hn
  have h1 : p ∉ B := fun hm => (List.nodup_append.1 hn).2.2 p hm p (by simp) rfl
  rw [e] at hn
  have h2 : p ∉ B2 := fun hm => (List.nodup_append.1 hn).2.2 p hm p (by simp) rfl
  have := aFd e h1 h2
  rw [this.1]; exact hf
 ·intro hf; exact ⟨B, A, hE, hf⟩
theorem aEq {f : aP} {l : List aG} (h : VL f l) (hl : l.length ≤ 20) {hour p : Int} (hh : wi hour 0 9999 = true) (hp : wi p 0 999 = true) :
  (∃ n : Nat, dD f l hour p = some ((n : Int), 0) ∧ p ∈ bF (aZ f l hour) ∧ n ≤ 60 ∧ Rc (aZ f l hour) p n ∧ ∀ m, m < n → ¬ Rc (aZ f l hour) p m) ∨
  (dD f l hour p = some (0, 3) ∧ (p ∉ bF (aZ f l hour) ∨ ∀ m, ¬ Rc (aZ f l hour) p m)) := by
 obtain ⟨s0, i0, eA, hi0, hS⟩ := aOa h hour
 have A := aft h hour
 obtain ⟨j, hj, g⟩ := A.good
 have hw := g.wf
 have hpl := oH hw
 have hG := aAo hw
 have hst := aPo (L := aZ f l hour) (p := p)
 have hin : p ∈ aW (aZ f l hour) → Rc (aZ f l hour) p 0 := fun hm => by
  unfold Rc
  cases hf : (aZ f l hour).frozen with
  | true => exact hm
  | false =>
   rw [cond_false]
   obtain ⟨B, A2, hE⟩ := List.append_of_mem (gF.2 (A.ms p hm))
   have hn := jK hw
   rw [hE] at hn
   have n1 := List.nodup_append.1 hn
   have hpB : p ∉ B := fun hm => n1.2.2 p hm p (by simp) rfl
   have hpA : p ∉ A2 := (List.nodup_cons.1 n1.2.1).1
   refine ⟨B, A2, hE, aFf.2 ?_⟩
   rw [aDl hf, hE] at hm
   exact (aOp hG hpB hpA).1 hm
 unfold dD
 rw [aCc, oR.2 h, hh, hp]
 simp only [decide_true, Bool.not_true, cond_false, Bool.or_self, Option.bind_some]
 rw [aDp g hj, Option.bind_some]
 by_cases h1 : (nT (aZ f l hour) p).1 = 1
 ·left
  have hm := hst.1.1 h1
  rw [decide_eq_true h1, cond_true]
  exact ⟨0, rfl, gF.2 (A.ms p hm), by omega, hin hm, fun m hm => by omega⟩
 ·rw [decide_eq_false h1, cond_false]
  have hpm : p ∉ aW (aZ f l hour) := fun hm => h1 (hst.1.2 hm)
  by_cases h3 : (nT (aZ f l hour) p).1 = 3
  ·have hpE := (List.mem_filter.1 (hst.2 h3)).1
   rw [decide_eq_true h3, cond_true, Option.bind_some, cond_true]
   cases hf : (aZ f l hour).frozen with
   | false =>
    rw [cond_false]
    obtain ⟨B, A2, hE⟩ := List.append_of_mem hpE
    have hn := jK hw
    rw [hE] at hn
    have hpB : p ∉ B := fun hm => (List.nodup_append.1 hn).2.2 p hm p (by simp) rfl
    obtain ⟨r, e, hr⟩ := aNs hw p hE hpB
    rw [e, Option.bind_some]
    have hiff : ∀ n, Rc (aZ f l hour) p n ↔ Fe (plc (aZ f l hour)) (aZ f l hour).Field.Guards (pl (aZ f l hour) p).guard (uC (fun n => (pl (aZ f l hour) n).guard) B) (gC (fun n => (pl (aZ f l hour) n).guard) B) n := fun n => by
     unfold Rc
     rw [hf, cond_false]
     exact wH hw hE n
    rcases hr with ⟨hr, hno⟩ | ⟨n, hr, hn60, h4, h5⟩
    ·right
     rw [hr]
     exact ⟨rfl, .inr fun m hm => hno m ((hiff m).1 hm)⟩
    ·left
     rw [hr, decide_eq_false (by omega), cond_false]
     exact ⟨n, rfl, hpE, hn60, (hiff n).2 h4, fun m hm hq => h5 m hm ((hiff m).1 hq)⟩
   | true =>
    rw [cond_true]
    have hnd := aFq hS
    have hA := (List.nodup_append.1 hnd).2.1
    have hlen := aEo hS.good
    obtain ⟨r, e, hr⟩ := aNw hS.good (by omega) hS.ms hS.pk.nd p
    rw [e, Option.bind_some]
    have hQ : Qs (fM (aZ f l hour) (aW (aZ f l hour))) (gfL (aZ f l hour)) p (sp0 (aZ f l hour)) (aW (aZ f l hour), fM (aZ f l hour) (aW (aZ f l hour))) := ⟨rfl, rfl, by
     show _ = eab _ _ (0, 0)
     unfold eab
     rw [List.filter_eq_self.2 fun m _ => by simp], ⟨Nat.zero_le _, Nat.zero_le _⟩, hpm, hnd⟩
    have hiff : ∀ n, Rc (aZ f l hour) p n ↔ rS (iY (fM (aZ f l hour) (aW (aZ f l hour))) (gfL (aZ f l hour)) (plc (aZ f l hour)) (aZ f l hour).Field.Guards p 100) n (sp0 (aZ f l hour)) := fun n => by
     unfold Rc
     rw [hf, cond_true]
     exact aJt (P := plc (aZ f l hour)) (G := (aZ f l hour).Field.Guards) hA n _ _ hQ
    have hboth : (aW (aZ f l hour)).length + (fM (aZ f l hour) (aW (aZ f l hour))).length ≤ 20 := by
     have := hnd.length_le_of_subset (l₂ := bF (aZ f l hour)) fun n hn => by
      rcases List.mem_append.1 hn with hn | hn
      ·exact gF.2 (hS.ms n hn)
      ·exact (List.mem_filter.1 hn).1
     rw [List.length_append] at this
     omega
    have hle : ∀ n, rS (iY (fM (aZ f l hour) (aW (aZ f l hour))) (gfL (aZ f l hour)) (plc (aZ f l hour)) (aZ f l hour).Field.Guards p 100) n (sp0 (aZ f l hour)) → n ≤ 60 := fun n hn => by
     have hs := vZ (gf := gfL (aZ f l hour)) (aW (aZ f l hour))
     have := aVe (aPs (gf := gfL (aZ f l hour)) (G := (aZ f l hour).Field.Guards) (p := p) hA hpl.2) (fun b s hb => by
      unfold gS at hb
      unfold szS
      cases b with
      | true => rw [cond_true] at hb; by_cases h0 : s.g = 0; rw [if_pos h0] at hb; exact absurd rfl hb; omega
      | false => rw [cond_false] at hb; by_cases h0 : s.u = 0; rw [if_pos h0] at hb; exact absurd rfl hb; omega) n _ ⟨Nat.zero_le _, Nat.zero_le _, by unfold sp0; simp only; omega⟩ hn
     have h2 : szS (fM (aZ f l hour) (aW (aZ f l hour))) (sp0 (aZ f l hour)) ≤ 60 := by unfold szS sp0; simp only; omega
     omega
    rcases hr with ⟨n, hr, h4, h5⟩ | ⟨hr, hno⟩
    ·left
     have := hle n h4
     obtain rfl : r = (n : Int) := by simpa using hr
     rw [decide_eq_false (by omega), cond_false]
     exact ⟨n, rfl, hpE, this, (hiff n).2 h4, fun m hm hq => h5 m hm ((hiff m).1 hq)⟩
    ·right
     obtain rfl : r = 61 := by simpa using hr
     exact ⟨rfl, .inr fun m hm => hno m ((hiff m).1 hm)⟩
  ·right
   rw [decide_eq_false h3, cond_false, Option.bind_some, cond_false, cond_false]
   refine ⟨rfl, .inl fun hE => ?_⟩
   have hE2 := gF.1 hE
   by_cases hw2 : p ∈ (aZ f l hour).wilds
   ·have := (A.wh p).1 hw2
    rw [qU, this] at hE2
    simp at hE2
   ·apply h3
    have hout : p ∈ uJ (aZ f l hour) := List.mem_filter.2 ⟨hE, by simp [hpm]⟩
    have key : ∀ xs : List Int, decide (0 ≤ fA (fun x => decide (p = x)) xs) = decide (p ∈ xs) := fun xs => by
     rw [aAp, Bool.eq_iff_iff, List.any_eq_true, decide_eq_true_eq]
     constructor
     ·rintro ⟨x, hx, e⟩; rw [decide_eq_true_eq] at e; rw [e]; exact hx
     ·intro h; exact ⟨p, h, decide_eq_true rfl⟩
    unfold nT rC
    rw [key, key, key, decide_eq_false hpm, decide_eq_false hw2, decide_eq_true hout]; rfl
theorem aMf {f : aP} {l : List aG} {x : aG} {hour : Int} (h : VL f l) (h2 : VL f (l ++ [x])) (hx : x.Hour = hour) (hk : x.Kind = 4 ∧ x.Rank = 0) (hlate : ∀ y ∈ l, y.Hour ≤ hour ∧ y.Id < x.Id) : aZ f (l ++ [x]) hour = bJ (aZ f l hour) (cW hour x.Player) := by
 have hb : ∀ x ∈ l, bN x := fun x hx => rI (h.nt x hx)
 have hb2 : ∀ y ∈ l ++ [x], bN y := fun y hy => rI (h2.nt y hy)
 have hT := nV l
 have hlen := h.len
 have hs := jP hb h.id
 have hbT : ∀ x ∈ cN l, bN x := fun x hx => hb x ((dR x).1 hx)
 have hbx := hb2 x (by simp)
 have eT : cN (l ++ [x]) = cN l ++ [x] := by
  refine jN (key := cS) (jP hb2 h2.id) (List.pairwise_append.2 ⟨hs, List.pairwise_singleton _ _, fun a ha b hb3 => ?_⟩) fun y => ?_
  ·rw [List.mem_singleton.1 hb3]
   have h3 := (dR a).1 ha
   have h4 := hlate a h3
   have h5 := hb a h3
   unfold bN at h5 hbx
   unfold cS
   omega
  ·rw [dR, List.mem_append, List.mem_append, dR]
 have hall : ∀ y ∈ cN l, y.Hour ≤ hour := fun y hy => (hlate y ((dR y).1 hy)).1
 have hsx : (cN l ++ [x]).Pairwise fun x y => cS x < cS y := by rw [← eT]; exact jP hb2 h2.id
 have hbx2 : ∀ y ∈ cN l ++ [x], bN y := by rw [← eT]; exact fun y hy => hb2 y ((dR y).1 hy)
 obtain ⟨_, _, ga⟩ := sO hour (cN l) (dB f) 0 (gX h.fd) (by omega) fun x hx => h.nt x ((dR x).1 hx)
 unfold aZ
 rw [eT]
 have e1 : nI hour (dB f) (cN l ++ [x]) = bJ (nI hour (dB f) (cN l)) (cW hour x.Player) := by
  rw [sN hour _ _ hsx hbx2, sN hour _ _ hs hbT, List.filter_append, List.foldl_append, List.filter_cons_of_pos (by rw [hx]; simp), List.filter_nil, List.foldl_cons, List.foldl_nil]
  obtain ⟨xi, xh, xk, xp, xr⟩ := x
  simp only at hx hk
  obtain ⟨rfl, rfl⟩ := hk
  subst hx
  rfl
 rw [e1]
 generalize nI hour (dB f) (cN l) = R at ga
 by_cases hz : f.Freeze < hour
 ·have e2 : kU hour R = cC R := by unfold kU; rw [ga.fd, decide_eq_true hz, cond_true]
  have hff : (cC R).frozen = true := by
   unfold cC
   cases hf : R.frozen with
   | false => rfl
   | true => exact hf
  have frz : ∀ L2 : aH, L2.frozen = true → cC L2 = L2 := fun L2 h => by unfold cC; rw [h]; rfl
  have e3 : cC (cC R) = cC R := frz _ hff
  have e4 : bJ R (cW hour x.Player) = bJ (cC R) (cW hour x.Player) := by
   unfold bJ
   simp only
   have h7 : decide (R.Field.Freeze < (cW hour x.Player).Hour) = true := by rw [ga.fd]; exact decide_eq_true hz
   have h8 : decide ((cC R).Field.Freeze < (cW hour x.Player).Hour) = true := by rw [(eJ R).2.1, ga.fd]; exact decide_eq_true hz
   rw [h7, h8, cond_true, cond_true, e3]
  have h9 : (bJ R (cW hour x.Player)).frozen = true := by rw [pT, ga.fd]; rw [show decide (f.Freeze < (cW hour x.Player).Hour) = true from decide_eq_true hz, Bool.or_true]
  rw [aEh h9, e2, e4]
 ·have e2 : kU hour R = R := by unfold kU; rw [ga.fd, decide_eq_false hz, cond_false]
  have e3 : kU hour (bJ R (cW hour x.Player)) = bJ R (cW hour x.Player) := by unfold kU; rw [nU, ga.fd, decide_eq_false hz, cond_false]
  rw [e2, e3]
theorem aSh {f : aP} {l : List aG} {hour p k : Int} {L : aH} {i : Nat} (A : AF f l hour L) (hg : eQ f L i) (hi : i ≤ 50) (hh : wi hour 0 9999 = true) (hfr : L.frozen = decide (f.Freeze < hour)) (hk : k ∈ aW L) (hk9 : wi k 0 999 = true) (hp : p ∈ bF L) (hpm : p ∉ aW L) {m : Nat} (h : Rc (bJ L (cW hour k)) p m) : ∃ m2, m2 ≤ m + 1 ∧ Rc L p m2 := by
 have hw := hg.wf
 have hg2 := kT (x := cW hour k) hg (by omega) (aFw hh hk9)
 have hw2 := hg2.wf
 have hwk := aBc A (A.ms k hk)
 have hgf : gfL (bJ L (cW hour k)) = gfL L := funext fun n => (rL L hour k n).1
 have hpc := aDn (hour := hour) hwk
 have hkp : k ≠ p := fun e => hpm (e ▸ hk)
 have hff : (bJ L (cW hour k)).frozen = L.frozen := by
  rw [pT, hg.fd, hfr]
  show (decide (f.Freeze < hour) || decide (f.Freeze < hour)) = _
  rw [Bool.or_self]
 unfold Rc at h ⊢
 rw [hff, hgf, hpc, nU] at h
 cases hf : L.frozen with
 | false =>
  rw [hf, cond_false] at h
  simp only [cond_false]
  obtain ⟨B, A2, hE⟩ := List.append_of_mem hp
  have hn := jK hw
  rw [hE] at hn
  have hE2 : bF (bJ L (cW hour k)) = (B.filter fun n => !decide (n = k)) ++ p :: (A2.filter fun n => !decide (n = k)) := by
   rw [xV hw hw2, hE, List.filter_append, List.filter_cons_of_pos (by simp; exact fun e => hkp e.symm)]
  rw [wH hw2 hE2, hgf, hpc, nU] at h
  obtain ⟨m2, h1, h2⟩ := aSd (List.nodup_append.1 hn).1 h
  exact ⟨m2, h1, (wH hw hE m2).2 h2⟩
 | true =>
  rw [hf, cond_true] at h
  simp only [cond_true]
  have hqf := aHc hg hf A.ms hk hwk hw2
  rw [hqf] at h
  have hnd : (aW L ++ fM L (aW L)).Nodup := List.nodup_append.2 ⟨A.pk.nd, (jK hw).filter _, fun a ha b hb e => by
   subst e
   have := (List.mem_filter.1 hb).2
   simp [ha] at this⟩
  have hA := (List.nodup_append.1 hnd).2.1
  have hQ : Qs (fM L (aW L)) (gfL L) p (sp0 L) (aW L, fM L (aW L)) := ⟨rfl, rfl, by
   show _ = eab _ _ (0, 0)
   unfold eab
   rw [List.filter_eq_self.2 fun m _ => by simp], ⟨Nat.zero_le _, Nat.zero_le _⟩, hpm, hnd⟩
  have hfd : ∃ q, (aW L).find? (fun n => decide (gfL L n = gfL L k)) = some q := by
   cases hfd : (aW L).find? (fun n => decide (gfL L n = gfL L k)) with
   | none => exact absurd (decide_eq_true rfl) (List.find?_eq_none.1 hfd k hk)
   | some q => exact ⟨q, rfl⟩
  obtain ⟨q, hq⟩ := hfd
  have hqm := List.mem_of_find?_eq_some hq
  have hgq : gfL L q = gfL L k := by have := List.find?_some hq; simpa using this
  have r1 := aBi hQ hk
  have r2 := aBi hQ hqm
  rw [hgq] at r2
  have f1 := xQ (P := plc L) (G := L.Field.Guards) hA 100 _ _ _ r1.2
  have f2 := xQ (P := plc L) (G := L.Field.Guards) hA 100 _ _ _ r2.2
  refine ⟨m + 1, Nat.le_refl _, hpm, gfL L k, qK (gfL L) (plc L) L.Field.Guards 100 ((aW L).filter fun m => !decide (m = q)) (fM L (aW L)), ?_, ?_⟩
  ·unfold aDq
   rw [hq]
  ·cases hfs : iY (fM L (aW L)) (gfL L) (plc L) L.Field.Guards p 100 (if gfL L k = true then ⟨(sp0 L).u, (sp0 L).g - 1, (sp0 L).m, (sp0 L).c⟩ else ⟨(sp0 L).u - 1, (sp0 L).g, (sp0 L).m, (sp0 L).c⟩) with
   | none =>
    rw [hfs] at f1 f2
    cases m with
    | zero => exact f2
    | succ m => exact absurd f1 h.1
   | some t =>
    rw [hfs] at f1 f2
    exact (aJt (P := plc L) (G := L.Field.Guards) hA m t _ f2).2 ((aJt (P := plc L) (G := L.Field.Guards) hA m t _ f1).1 h)
theorem aSi {f : aP} {l : List aG} {hour p : Int} {L : aH} {i : Nat} (A : AF f l hour L) (hg : eQ f L i) (hi : i ≤ 50) (hh : wi hour 0 9999 = true) (h9 : ∀ k ∈ aW L, wi k 0 999 = true) (hfr : L.frozen = decide (f.Freeze < hour)) (hp : p ∈ bF L) {n : Nat} (h : Rc L p (n + 1)) (hmin : ∀ m, m < n + 1 → ¬ Rc L p m) : ∃ k ∈ aW L, Rc (bJ L (cW hour k)) p n := by
 have hw := hg.wf
 have hpl := oH hw
 have hG := aAo hw
 have rest : ∀ k, k ∈ aW L → gfL (bJ L (cW hour k)) = gfL L ∧ plc (bJ L (cW hour k)) = plc L ∧ (bJ L (cW hour k)).frozen = L.frozen ∧ WF (bJ L (cW hour k)) := fun k hk =>
  ⟨funext fun n => (rL L hour k n).1, aDn (aBc A (A.ms k hk)), by
   rw [pT, hg.fd, hfr]
   show (decide (f.Freeze < hour) || decide (f.Freeze < hour)) = _
   rw [Bool.or_self], (kT (x := cW hour k) hg (by omega) (aFw hh (h9 k hk))).wf⟩
 unfold Rc at h hmin
 cases hf : L.frozen with
 | false =>
  rw [hf, cond_false] at h
  obtain ⟨B, A2, hE⟩ := List.append_of_mem hp
  have hn := jK hw
  rw [hE] at hn
  obtain ⟨b, k, h1, h2, h3, h4⟩ := aSe hpl.1 hG hn ((wH hw hE _).1 h) fun m hm hq => hmin m hm (by rw [hf, cond_false]; exact (wH hw hE _).2 hq)
  have hkm : k ∈ aW L := by rw [aDl hf, hE]; exact h2
  obtain ⟨r1, r2, r3, r4⟩ := rest k hkm
  refine ⟨k, hkm, ?_⟩
  have hkp : k ≠ p := fun e => (List.nodup_append.1 hn).2.2 k h3 p (by simp) e
  have hE2 : bF (bJ L (cW hour k)) = (B.filter fun n => !decide (n = k)) ++ p :: (A2.filter fun n => !decide (n = k)) := by
   rw [xV hw r4, hE, List.filter_append, List.filter_cons_of_pos (by simp; exact fun e => hkp e.symm)]
  unfold Rc
  rw [r3, hf, cond_false, wH r4 hE2, r1, r2, nU]
  exact h4
 | true =>
  rw [hf, cond_true] at h
  obtain ⟨hpm, b, k', hb, hr⟩ := h
  unfold aDq at hb
  cases hfd : (aW L).find? (fun n => decide (gfL L n = b)) with
  | none => rw [hfd] at hb; cases hb
  | some q =>
   rw [hfd] at hb
   have hqm := List.mem_of_find?_eq_some hfd
   obtain ⟨r1, r2, r3, r4⟩ := rest q hqm
   refine ⟨q, hqm, ?_⟩
   have hqf := aHc hg hf A.ms hqm (aBc A (A.ms q hqm)) r4
   unfold Rc
   rw [r3, hf, cond_true, r1, r2, nU, hqf]
   have : qK (gfL L) (plc L) L.Field.Guards 100 ((aW L).filter fun m => !decide (m = q)) (fM L (aW L)) = k' := by simpa using hb
   rw [this]; exact hr
end Go.Am
end
