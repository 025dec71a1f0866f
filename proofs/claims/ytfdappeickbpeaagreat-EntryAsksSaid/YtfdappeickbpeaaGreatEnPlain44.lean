/- Plain laws, one behind the other. -/
import Derived.Test.YtfdappeickbpeaaGreatEntryListsLaw
section
namespace Go.Am
section
variable (gf : Int → Bool) (P G : Int)
def gC (xs : List Int) : Nat := (xs.filter gf).length
def uC (xs : List Int) : Nat := (xs.filter fun n => !gf n).length
def okP (acc : List Int) (n : Int) : Bool := decide ((acc.length : Int) < P) && (!gf n || decide (((gC gf acc : Nat) : Int) < G))
def grd (acc : List Int) : List Int → List Int
 | [] => acc
 | n :: t => grd (bif okP gf P G acc n then acc ++ [n] else acc) t
end
theorem aMw (l : aN) : ∀ (t acc : List Int), tA l acc t = grd (fun n => (pl l n).guard) (plc l) l.Field.Guards acc t
 | [], _ => rfl
 | n :: t, acc => by rw [tA, grd]; exact aMw l t _
section
variable {gf : Int → Bool} {P G : Int}
theorem yU (xs : List Int) : uC gf xs + gC gf xs = xs.length := by
 induction xs with
 | nil => rfl
 | cons n t ih =>
  unfold uC gC at *
  rw [List.filter_cons, List.filter_cons]
  cases gf n <;> simp <;> omega
theorem tQ (xs ys : List Int) : gC gf (xs ++ ys) = gC gf xs + gC gf ys := by unfold gC; rw [List.filter_append, List.length_append]
theorem aAb (xs ys : List Int) : uC gf (xs ++ ys) = uC gf xs + uC gf ys := by unfold uC; rw [List.filter_append, List.length_append]
theorem tR (n : Int) : gC gf [n] = if gf n then 1 else 0 := by unfold gC; cases h : gf n <;> simp [h]
theorem aAc (n : Int) : uC gf [n] = if gf n then 0 else 1 := by unfold uC; cases h : gf n <;> simp [h]
theorem aPk (acc xs ys : List Int) : grd gf P G acc (xs ++ ys) = grd gf P G (grd gf P G acc xs) ys := by
 induction xs generalizing acc with
 | nil => rfl
 | cons n t ih => rw [List.cons_append, grd, grd, ih]
theorem wO (acc t : List Int) : ∃ s, grd gf P G acc t = acc ++ s ∧ s.Sublist t := by
 induction t generalizing acc with
 | nil => exact ⟨[], by simp [grd], List.Sublist.refl _⟩
 | cons n t ih =>
  rw [grd]
  cases okP gf P G acc n with
  | false =>
   obtain ⟨s, h1, h2⟩ := ih acc
   exact ⟨s, h1, h2.cons n⟩
  | true =>
   obtain ⟨s, h1, h2⟩ := ih (acc ++ [n])
   exact ⟨n :: s, by rw [cond_true, h1]; simp, h2.cons_cons n⟩
theorem aMk (acc t : List Int) (h : P ≤ (acc.length : Int)) : grd gf P G acc t = acc := by
 induction t with
 | nil => rfl
 | cons n t ih =>
  have : okP gf P G acc n = false := by unfold okP; rw [decide_eq_false (by omega), Bool.false_and]
  rw [grd, this, cond_false, ih]
theorem aKe (t acc : List Int) (hG : ((gC gf acc : Nat) : Int) ≤ G) (h : (acc.length : Int) + uC gf t + min ((gC gf t : Nat) : Int) (G - gC gf acc) < P) :
  (uC gf (grd gf P G acc t) = uC gf acc + uC gf t) ∧ ((gC gf (grd gf P G acc t) : Nat) : Int) = min (((gC gf acc + gC gf t : Nat) : Int)) G := by
 induction t generalizing acc with
 | nil => simp [grd, uC, gC] at hG ⊢; omega
 | cons n t ih =>
  have e1 : uC gf (n :: t) = uC gf [n] + uC gf t := aAb [n] t
  have e2 : gC gf (n :: t) = gC gf [n] + gC gf t := tQ [n] t
  rw [aAc] at e1
  rw [tR] at e2
  rw [grd]
  cases hg : gf n with
  | false =>
   rw [hg] at e1 e2
   simp only [Bool.false_eq_true, if_false] at e1 e2
   have ho : okP gf P G acc n = true := by
    unfold okP
    rw [hg, decide_eq_true (by omega)]; rfl
   have a1 := aAb (gf := gf) acc [n]
   have a2 := tQ (gf := gf) acc [n]
   rw [aAc, hg, if_neg (by simp)] at a1
   rw [tR, hg, if_neg (by simp)] at a2
   rw [ho, cond_true]
   have k := ih (acc ++ [n]) (by omega) (by rw [List.length_append, List.length_singleton]; omega)
   omega
  | true =>
   rw [hg] at e1 e2
   simp only [if_true] at e1 e2
   by_cases hlt : ((gC gf acc : Nat) : Int) < G
   ·have ho : okP gf P G acc n = true := by
     unfold okP
     rw [decide_eq_true (by omega), decide_eq_true hlt, Bool.or_true]; rfl
    have a1 := aAb (gf := gf) acc [n]
    have a2 := tQ (gf := gf) acc [n]
    rw [aAc, hg, if_pos rfl] at a1
    rw [tR, hg, if_pos rfl] at a2
    rw [ho, cond_true]
    have k := ih (acc ++ [n]) (by omega) (by rw [List.length_append, List.length_singleton]; omega)
    omega
   ·have ho : okP gf P G acc n = false := by
     unfold okP
     rw [hg, decide_eq_false hlt, Bool.not_true, Bool.or_false, Bool.and_false]
    rw [ho, cond_false]
    have k := ih acc hG (by omega)
    omega
theorem aMm (t acc : List Int) (hG : ((gC gf acc : Nat) : Int) ≤ G) (h : P ≤ (acc.length : Int) + uC gf t + min ((gC gf t : Nat) : Int) (G - gC gf acc)) : P ≤ ((grd gf P G acc t).length : Int) := by
 induction t generalizing acc with
 | nil => simp [grd, uC, gC] at hG h ⊢; omega
 | cons n t ih =>
  have e1 : uC gf (n :: t) = uC gf [n] + uC gf t := aAb [n] t
  have e2 : gC gf (n :: t) = gC gf [n] + gC gf t := tQ [n] t
  rw [aAc] at e1
  rw [tR] at e2
  by_cases hf : P ≤ (acc.length : Int)
  ·rw [aMk acc _ hf]; exact hf
  ·rw [grd]
   cases hg : gf n with
   | false =>
    rw [hg] at e1 e2
    simp only [Bool.false_eq_true, if_false] at e1 e2
    have ho : okP gf P G acc n = true := by
     unfold okP
     rw [hg, decide_eq_true (by omega)]; rfl
    have a2 := tQ (gf := gf) acc [n]
    rw [tR, hg, if_neg (by simp)] at a2
    rw [ho, cond_true]
    exact ih (acc ++ [n]) (by omega) (by rw [List.length_append, List.length_singleton]; omega)
   | true =>
    rw [hg] at e1 e2
    simp only [if_true] at e1 e2
    by_cases hlt : ((gC gf acc : Nat) : Int) < G
    ·have ho : okP gf P G acc n = true := by
      unfold okP
      rw [decide_eq_true (by omega), decide_eq_true hlt, Bool.or_true]; rfl
     have a2 := tQ (gf := gf) acc [n]
     rw [tR, hg, if_pos rfl] at a2
     rw [ho, cond_true]
     exact ih (acc ++ [n]) (by omega) (by rw [List.length_append, List.length_singleton]; omega)
    ·have ho : okP gf P G acc n = false := by
      unfold okP
      rw [hg, decide_eq_false hlt, Bool.not_true, Bool.or_false, Bool.and_false]
     rw [ho, cond_false]
     exact ih acc hG (by omega)
def cnd (P G : Int) (pg : Bool) (u g : Nat) : Prop := (u : Int) + min (g : Int) G < P ∧ (pg = true → min (g : Int) G < G)
theorem aMl {B A : List Int} {p : Int} (hG : 0 ≤ G) (hB : p ∉ B) (hA : p ∉ A) : p ∈ grd gf P G [] (B ++ p :: A) ↔ cnd P G (gf p) (uC gf B) (gC gf B) := by
 have z1 : gC gf [] = 0 := rfl
 have z2 : uC gf [] = 0 := rfl
 rw [aPk, grd]
 obtain ⟨s, h1, h2⟩ := wO (gf := gf) (P := P) (G := G) [] B
 have hpB : p ∉ grd gf P G [] B := by rw [h1]; simp; exact fun hm => hB (h2.subset hm)
 generalize hacc : grd gf P G [] B = acc at hpB
 have hin : p ∈ grd gf P G (bif okP gf P G acc p then acc ++ [p] else acc) A ↔ okP gf P G acc p = true := by
  obtain ⟨s2, h3, h4⟩ := wO (gf := gf) (P := P) (G := G) (bif okP gf P G acc p then acc ++ [p] else acc) A
  rw [h3]
  cases okP gf P G acc p with
  | true => simp
  | false =>
   simp
   exact ⟨hpB, fun hm => hA (h4.subset hm)⟩
 rw [hin]
 have hsum := yU (gf := gf) acc
 by_cases hc : (([] : List Int).length : Int) + uC gf B + min ((gC gf B : Nat) : Int) (G - gC gf []) < P
 ·have k := aKe (gf := gf) (P := P) (G := G) B [] (by rw [z1]; omega) hc
  rw [hacc, z1, z2] at k
  rw [z1] at hc
  simp only [List.length_nil] at hc
  unfold okP cnd
  simp only [Bool.and_eq_true, Bool.or_eq_true, Bool.not_eq_true', decide_eq_true_eq]
  constructor
  ·rintro ⟨a, b⟩
   refine ⟨by omega, fun hg => ?_⟩
   rcases b with b | b
   ·rw [b] at hg; cases hg
   ·omega
  ·rintro ⟨a, b⟩
   refine ⟨by omega, ?_⟩
   cases hg : gf p with
   | false => exact .inl rfl
   | true => have := b hg; exact .inr (by omega)
 ·have k := aMm (gf := gf) (P := P) (G := G) B [] (by rw [z1]; omega) (by omega)
  rw [hacc] at k
  rw [z1] at hc
  simp only [List.length_nil] at hc
  have ho : okP gf P G acc p = false := by unfold okP; rw [decide_eq_false (by omega), Bool.false_and]
  rw [ho]
  constructor
  ·intro h; cases h
  ·rintro ⟨a, _⟩; omega
def Fe (P G : Int) (pg : Bool) (u g n : Nat) : Prop := ∃ x y, x ≤ u ∧ y ≤ g ∧ x + y = n ∧ cnd P G pg (u - x) (g - y)
theorem aFc {pg : Bool} {u g : Nat} : Fe P G pg u g 0 ↔ cnd P G pg u g := by
 constructor
 ·rintro ⟨x, y, _, _, h, hc⟩
  obtain rfl : x = 0 := by omega
  obtain rfl : y = 0 := by omega
  exact hc
 ·intro h; exact ⟨0, 0, by omega, by omega, rfl, h⟩
theorem aZs {pg : Bool} {u g n : Nat} (hu : 0 < u) (h : Fe P G pg (u - 1) g n) : Fe P G pg u g (n + 1) := by
 obtain ⟨x, y, h1, h2, h3, h4⟩ := h
 exact ⟨x + 1, y, by omega, h2, by omega, by rw [show u - (x + 1) = u - 1 - x by omega]; exact h4⟩
theorem aZr {pg : Bool} {u g n : Nat} (hg : 0 < g) (h : Fe P G pg u (g - 1) n) : Fe P G pg u g (n + 1) := by
 obtain ⟨x, y, h1, h2, h3, h4⟩ := h
 exact ⟨x, y + 1, h1, by omega, by omega, by rw [show g - (y + 1) = g - 1 - y by omega]; exact h4⟩
end
end Go.Am
end
section
namespace Go.Am
section
variable {gf : Int → Bool} {P G : Int}
theorem aAu {xs : List Int} (hn : xs.Nodup) {k : Int} : uC gf (xs.filter fun n => !decide (n = k)) = if k ∈ xs ∧ gf k = false then uC gf xs - 1 else uC gf xs := by
 unfold uC
 rw [List.filter_filter, show (xs.filter fun a => !gf a && !decide (a = k)) = (xs.filter fun n => !gf n).filter fun a => !decide (a = k) by rw [List.filter_filter]; exact List.filter_congr fun a _ => Bool.and_comm _ _]
 by_cases h : k ∈ xs ∧ gf k = false
 ·rw [if_pos h]
  have := aAl (hn.filter fun n => !gf n) (n := k) (List.mem_filter.2 ⟨h.1, by simp [h.2]⟩)
  omega
 ·rw [if_neg h, List.filter_eq_self.2 fun a ha => ?_]
  have h2 := List.mem_filter.1 ha
  by_cases e : a = k
  ·exact absurd ⟨e ▸ h2.1, by rw [← e]; simpa using h2.2⟩ h
  ·simp [e]
theorem aAn {xs : List Int} (hn : xs.Nodup) {k : Int} : gC gf (xs.filter fun n => !decide (n = k)) = if k ∈ xs ∧ gf k = true then gC gf xs - 1 else gC gf xs := by
 unfold gC
 rw [List.filter_filter, show (xs.filter fun a => gf a && !decide (a = k)) = (xs.filter fun n => gf n).filter fun a => !decide (a = k) by rw [List.filter_filter]; exact List.filter_congr fun a _ => Bool.and_comm _ _]
 by_cases h : k ∈ xs ∧ gf k = true
 ·rw [if_pos h]
  have := aAl (hn.filter fun n => gf n) (n := k) (List.mem_filter.2 ⟨h.1, h.2⟩)
  have e : (xs.filter gf) = xs.filter fun n => gf n := rfl
  rw [e]
  omega
 ·rw [if_neg h, List.filter_eq_self.2 fun a ha => ?_]
  have h2 := List.mem_filter.1 ha
  by_cases e : a = k
  ·exact absurd ⟨e ▸ h2.1, by rw [← e]; simpa using h2.2⟩ h
  ·simp [e]
theorem aTp {xs : List Int} {k : Int} (h : k ∈ xs) (hg : gf k = false) : 0 < uC gf xs := by
 unfold uC
 exact List.length_pos_of_mem (List.mem_filter.2 ⟨h, by simp [hg]⟩)
theorem aSg {xs : List Int} {k : Int} (h : k ∈ xs) (hg : gf k = true) : 0 < gC gf xs := by
 unfold gC
 exact List.length_pos_of_mem (List.mem_filter.2 ⟨h, hg⟩)
theorem aOu {pg : Bool} {B : List Int} (hn : B.Nodup) {k : Int} {n : Nat} (h : Fe P G pg (uC gf (B.filter fun n => !decide (n = k))) (gC gf (B.filter fun n => !decide (n = k))) n) : ∃ m, m ≤ n + 1 ∧ Fe P G pg (uC gf B) (gC gf B) m := by
 rw [aAu hn, aAn hn] at h
 by_cases hk : k ∈ B
 ·cases hg : gf k with
  | false =>
   rw [if_pos ⟨hk, hg⟩, if_neg (by simp [hg])] at h
   exact ⟨n + 1, Nat.le_refl _, aZs (aTp hk hg) h⟩
  | true =>
   rw [if_neg (by simp [hg]), if_pos ⟨hk, hg⟩] at h
   exact ⟨n + 1, Nat.le_refl _, aZr (aSg hk hg) h⟩
 ·rw [if_neg (by simp [hk]), if_neg (by simp [hk])] at h
  exact ⟨n, by omega, h⟩
theorem aAo (b : Bool) : ∀ (t acc : List Int) {m : Int}, m ∈ grd gf P G acc t → m ∉ acc → gf m = b → (∀ a ∈ acc, gf a ≠ b) → ∃ k, t.find? (fun n => decide (gf n = b)) = some k ∧ k ∈ grd gf P G acc t
 | [], acc, m, hm, ha, _, _ => absurd hm ha
 | n :: t, acc, m, hm, ha, hb, hno => by
  rw [List.find?_cons]
  by_cases e : gf n = b
  ·rw [decide_eq_true e]
   refine ⟨n, rfl, ?_⟩
   rw [grd] at hm ⊢
   cases ho : okP gf P G acc n with
   | true =>
    rw [cond_true]
    obtain ⟨s, h1, _⟩ := wO (gf := gf) (P := P) (G := G) (acc ++ [n]) t
    rw [h1]; simp
   | false =>
    rw [ho, cond_false] at hm
    exfalso
    unfold okP at ho
    by_cases hp : (acc.length : Int) < P
    ·rw [decide_eq_true hp, Bool.true_and, Bool.or_eq_false_iff, Bool.not_eq_false', decide_eq_false_iff_not] at ho
     have hbt : b = true := by rw [← e]; exact ho.1
     subst hbt
     have z : gC gf acc = 0 := by
      unfold gC
      rw [List.length_eq_zero_iff, List.filter_eq_nil_iff]
      exact fun a haa => hno a haa
     have key : ∀ (t acc : List Int), ¬ ((gC gf acc : Nat) : Int) < G → ∀ x ∈ grd gf P G acc t, x ∈ acc ∨ gf x = false := by
      intro t
      induction t with
      | nil => intro acc _ x hx; exact .inl hx
      | cons y t ih =>
       intro acc hG x hx
       rw [grd] at hx
       cases hy : gf y with
       | true =>
        have : okP gf P G acc y = false := by unfold okP; rw [hy, decide_eq_false hG, Bool.not_true, Bool.or_false, Bool.and_false]
        rw [this, cond_false] at hx
        exact ih acc hG x hx
       | false =>
        cases hoy : okP gf P G acc y with
        | false => rw [hoy, cond_false] at hx; exact ih acc hG x hx
        | true =>
         rw [hoy, cond_true] at hx
         have a2 := tQ (gf := gf) acc [y]
         rw [tR, hy, if_neg (by simp)] at a2
         rcases ih (acc ++ [y]) (by rw [a2]; exact hG) x hx with h | h
         ·rcases List.mem_append.1 h with h | h
          ·exact .inl h
          ·rw [List.mem_singleton.1 h]; exact .inr hy
         ·exact .inr h
     rcases key t acc (by omega) m hm with h | h
     ·exact ha h
     ·rw [hb] at h; cases h
    ·rw [aMk acc t (by omega)] at hm
     exact ha hm
  ·rw [decide_eq_false e]
   rw [grd] at hm ⊢
   have hmn : m ≠ n := fun e2 => e (e2 ▸ hb)
   refine aAo b t _ hm ?_ hb fun a haa => ?_
   ·cases okP gf P G acc n with
    | false => exact ha
    | true => rw [cond_true, List.mem_append, List.mem_singleton]; exact fun h => h.elim ha hmn
   ·cases ho : okP gf P G acc n with
    | false => rw [ho] at haa; exact hno a haa
    | true =>
     rw [ho, cond_true, List.mem_append, List.mem_singleton] at haa
     rcases haa with h | h
     ·exact hno a h
     ·rw [h]; exact e
theorem aOi {q : Int → Bool} {B A : List Int} {p : Int} (h : ∃ m ∈ B, q m = true) : (B ++ p :: A).find? q = B.find? q := by
 obtain ⟨m, hm, hq⟩ := h
 rw [List.find?_append]
 cases hf : B.find? q with
 | none => exact absurd hq (by simpa using List.find?_eq_none.1 hf m hm)
 | some k => rfl
theorem aWi {B A : List Int} {p : Int} (hP : 1 ≤ P) (hG : 0 ≤ G) (hn : (B ++ p :: A).Nodup) {n : Nat} (h : Fe P G (gf p) (uC gf B) (gC gf B) (n + 1)) (hmin : ∀ m, m < n + 1 → ¬ Fe P G (gf p) (uC gf B) (gC gf B) m) :
  ∃ b k, (B ++ p :: A).find? (fun n => decide (gf n = b)) = some k ∧ k ∈ grd gf P G [] (B ++ p :: A) ∧ k ∈ B ∧ Fe P G (gf p) (uC gf (B.filter fun n => !decide (n = k))) (gC gf (B.filter fun n => !decide (n = k))) n := by
 have n1 := List.nodup_append.1 hn
 obtain ⟨x, y, hx, hy, hxy, hc⟩ := h
 have first : ∀ b, (∃ m ∈ B, gf m = b) → ∃ k, B.find? (fun n => decide (gf n = b)) = some k ∧ k ∈ B ∧ gf k = b ∧ (B ++ p :: A).find? (fun n => decide (gf n = b)) = some k := fun b ⟨m, hm, hb⟩ => by
  have hfb := aOi (q := fun n => decide (gf n = b)) (A := A) (p := p) ⟨m, hm, decide_eq_true hb⟩
  cases hf : B.find? (fun n => decide (gf n = b)) with
  | none => exact absurd (decide_eq_true hb) (List.find?_eq_none.1 hf m hm)
  | some k =>
   have := List.find?_some hf
   exact ⟨k, rfl, List.mem_of_find?_eq_some hf, by simpa using this, hfb.trans hf⟩
 have hu1 : 0 < x → ∃ m ∈ B, gf m = false := fun h0 => by
  have : 0 < (B.filter fun n => !gf n).length := by have : uC gf B = (B.filter fun n => !gf n).length := rfl; omega
  obtain ⟨m, hm⟩ := List.exists_mem_of_length_pos this
  have := List.mem_filter.1 hm
  exact ⟨m, this.1, by simpa using this.2⟩
 have hg1 : 0 < y → ∃ m ∈ B, gf m = true := fun h0 => by
  have : 0 < (B.filter gf).length := by have : gC gf B = (B.filter gf).length := rfl; omega
  obtain ⟨m, hm⟩ := List.exists_mem_of_length_pos this
  have := List.mem_filter.1 hm
  exact ⟨m, this.1, this.2⟩
 have useU : ∀ k, k ∈ B → gf k = false → 0 < x → Fe P G (gf p) (uC gf (B.filter fun n => !decide (n = k))) (gC gf (B.filter fun n => !decide (n = k))) n := fun k hk hg h0 => by
  rw [aAu n1.1, aAn n1.1, if_pos ⟨hk, hg⟩, if_neg (by simp [hg])]
  exact ⟨x - 1, y, by omega, hy, by omega, by rw [show uC gf B - 1 - (x - 1) = uC gf B - x by omega]; exact hc⟩
 have useG : ∀ k, k ∈ B → gf k = true → 0 < y → Fe P G (gf p) (uC gf (B.filter fun n => !decide (n = k))) (gC gf (B.filter fun n => !decide (n = k))) n := fun k hk hg h0 => by
  rw [aAu n1.1, aAn n1.1, if_neg (by simp [hg]), if_pos ⟨hk, hg⟩]
  exact ⟨x, y - 1, hx, by omega, by omega, by rw [show gC gf B - 1 - (y - 1) = gC gf B - y by omega]; exact hc⟩
 by_cases hU : 0 < x ∧ ∃ m ∈ grd gf P G [] (B ++ p :: A), gf m = false
 ·obtain ⟨h0, m, hm, hgm⟩ := hU
  obtain ⟨k, hk1, hk2, hk3, hk4⟩ := first false (hu1 h0)
  obtain ⟨k2, hk5, hk6⟩ := aAo false (B ++ p :: A) [] hm (by simp) hgm (by simp)
  rw [hk4] at hk5
  obtain rfl : k = k2 := by simpa using hk5
  exact ⟨false, k, hk4, hk6, hk2, useU k hk2 hk3 h0⟩
 ·by_cases hg0 : 0 < y ∧ ∃ m ∈ grd gf P G [] (B ++ p :: A), gf m = true
  ·obtain ⟨h0, m, hm, hgm⟩ := hg0
   obtain ⟨k, hk1, hk2, hk3, hk4⟩ := first true (hg1 h0)
   obtain ⟨k2, hk5, hk6⟩ := aAo true (B ++ p :: A) [] hm (by simp) hgm (by simp)
   rw [hk4] at hk5
   obtain rfl : k = k2 := by simpa using hk5
   exact ⟨true, k, hk4, hk6, hk2, useG k hk2 hk3 h0⟩
  ·exfalso
   have z1 : gC gf [] = 0 := rfl
   have z2 : uC gf [] = 0 := rfl
   obtain ⟨s2, h3, h4⟩ := wO (gf := gf) (P := P) (G := G) (grd gf P G [] B) (p :: A)
   have hsub : ∀ m ∈ grd gf P G [] B, m ∈ grd gf P G [] (B ++ p :: A) := fun m hm => by rw [aPk, h3]; simp [hm]
   have hsum := yU (gf := gf) (grd gf P G [] B)
   have hnot : ¬ cnd P G (gf p) (uC gf B) (gC gf B) := fun hcc => hmin 0 (by omega) (aFc.2 hcc)
   have zero : ∀ b, (¬ ∃ m ∈ grd gf P G [] (B ++ p :: A), gf m = b) → ((grd gf P G [] B).filter fun n => decide (gf n = b)) = [] := fun b hno => by
    rw [List.filter_eq_nil_iff]
    intro m hm e
    exact hno ⟨m, hsub m hm, by simpa using e⟩
   have zu : (¬ ∃ m ∈ grd gf P G [] (B ++ p :: A), gf m = false) → uC gf (grd gf P G [] B) = 0 := fun hno => by
    have := zero false hno
    have e : ((grd gf P G [] B).filter fun n => !gf n) = (grd gf P G [] B).filter fun n => decide (gf n = false) := List.filter_congr fun a _ => by cases gf a <;> rfl
    unfold uC
    rw [e, this]; rfl
   have zg : (¬ ∃ m ∈ grd gf P G [] (B ++ p :: A), gf m = true) → gC gf (grd gf P G [] B) = 0 := fun hno => by
    have := zero true hno
    have e : ((grd gf P G [] B).filter gf) = (grd gf P G [] B).filter fun n => decide (gf n = true) := List.filter_congr fun a _ => by cases gf a <;> rfl
    unfold gC
    rw [e, this]; rfl
   obtain ⟨hc1, hc2⟩ := hc
   by_cases hroom : (([] : List Int).length : Int) + uC gf B + min ((gC gf B : Nat) : Int) (G - gC gf []) < P
   ·have k := aKe (gf := gf) (P := P) (G := G) B [] (by rw [z1]; omega) hroom
    rw [z1, z2] at k
    rw [z1] at hroom
    simp only [List.length_nil] at hroom
    by_cases h0 : 0 < x
    ·have := zu fun hh => hU ⟨h0, hh⟩
     omega
    ·have hy0 : 0 < y := by omega
     have := zg fun hh => hg0 ⟨hy0, hh⟩
     have hg2 : 0 < gC gf B := by omega
     have hG0 : G = 0 := by omega
     refine hnot ⟨by omega, fun hpg => ?_⟩
     have := hc2 hpg
     omega
   ·have k := aMm (gf := gf) (P := P) (G := G) B [] (by rw [z1]; omega) (by omega)
    have hlen : (grd gf P G [] B).length ≤ uC gf B + gC gf B := by
     obtain ⟨s, h5, h6⟩ := wO (gf := gf) (P := P) (G := G) [] B
     rw [h5]; simp
     have := h6.length_le
     have := yU (gf := gf) B
     omega
    have hsl : (grd gf P G [] B).Sublist B := by
     obtain ⟨s, h5, h6⟩ := wO (gf := gf) (P := P) (G := G) [] B
     rw [h5]; simpa using h6
    have hul : uC gf (grd gf P G [] B) ≤ uC gf B := by unfold uC; exact (hsl.filter _).length_le
    have hgl : gC gf (grd gf P G [] B) ≤ gC gf B := by unfold gC; exact (hsl.filter _).length_le
    have hcap : ((gC gf (grd gf P G [] B) : Nat) : Int) ≤ G := by
     have : ∀ (t acc : List Int), ((gC gf acc : Nat) : Int) ≤ G → ((gC gf (grd gf P G acc t) : Nat) : Int) ≤ G := by
      intro t
      induction t with
      | nil => intro acc h; exact h
      | cons n t ih =>
       intro acc h
       rw [grd]
       refine ih _ ?_
       cases ho : okP gf P G acc n with
       | false => exact h
       | true =>
        rw [cond_true, tQ, tR]
        unfold okP at ho
        cases hg : gf n with
        | false => simp; exact h
        | true =>
         rw [hg] at ho
         simp only [Bool.not_true, Bool.false_or, Bool.and_eq_true, decide_eq_true_eq] at ho
         simp only [if_true]
         omega
     exact this B [] (by rw [z1]; omega)
    by_cases h0 : 0 < x
    ·have e1 := zu fun hh => hU ⟨h0, hh⟩
     by_cases hy0 : 0 < y
     ·have e2 := zg fun hh => hg0 ⟨hy0, hh⟩
      omega
     ·obtain rfl : y = 0 := by omega
      rw [Nat.sub_zero] at hc1
      omega
    ·obtain rfl : x = 0 := by omega
     have hy0 : 0 < y := by omega
     have e2 := zg fun hh => hg0 ⟨hy0, hh⟩
     rw [Nat.sub_zero] at hc1
     omega
end
end Go.Am
end
section
namespace Go.Am
def aHg (Q : Nat → Prop) (r : Int) : Prop := (r = 61 ∧ ∀ n, ¬ Q n) ∨ ∃ n : Nat, r = n ∧ n ≤ 60 ∧ Q n ∧ ∀ m, m < n → ¬ Q m
def fes (l : aN) (p : Int) (u g : Nat) (x y : Nat) : Prop := x ≤ u ∧ y ≤ g ∧ cnd (plc l) l.Field.Guards (pl l p).guard (u - x) (g - y)
def aLb (l : aN) (p : Int) (u g : Nat) (b : Int) (Z : Nat → Nat → Prop) : Prop := (b = 61 ∨ ∃ x y, fes l p u g x y ∧ b = ((x + y : Nat) : Int)) ∧ ∀ x y, Z x y → fes l p u g x y → b ≤ ((x + y : Nat) : Int)
theorem aRl {l : aN} (h : WF l) (again : Int → Int → Option Int) (p : Int) (u g x : Nat) (hu : u + g ≤ 60) (hx : x ≤ u) (t36 : Int) (Gl : Option Int → Prop)
  (hk : ∀ b, 0 ≤ b ∧ b ≤ 61 → aLb l p u g b (fun x' _ => x' < x + 1) → Gl (again b ((x + 1 : Nat) : Int))) (b : Int) (hb : 0 ≤ b ∧ b ≤ 61) (hs : aLb l p u g b (fun x' _ => x' < x)) :
  Gl (eK again l p (u : Int) (g : Int) (x : Int) t36 (x : Int) (w64 ((g : Int) + 1)) BIG b 0) := by
 have hp := qA h
 have hG := aMc h
 have hG2 : l.Field.Guards ≤ 32 := by
  have := h.fd
  unfold tB at this
  simp only [Bool.and_eq_true, yA] at this
  omega
 have hg1 : w64 ((g : Int) + 1) = ((g + 1 : Nat) : Int) := cF (by omega)
 rw [hg1]
 refine pZ (S := Int) (fun k j b => eK again l p (u : Int) (g : Int) (x : Int) t36 (x : Int) ((g + 1 : Nat) : Int) k b j) (g + 1) Gl (fun y b => 0 ≤ b ∧ b ≤ 61 ∧ y ≤ g + 1 ∧ aLb l p u g b (fun x' y' => x' < x ∨ (x' = x ∧ y' < y))) (fun k y b hy hI ih => ?_) (fun k y b hy hI => ?_) BIG 0 b (dP (by omega)) ⟨hb.1, hb.2, by omega, hs.1, fun x' y' hz hf => hs.2 x' y' (by omega) hf⟩
 ·obtain ⟨h1, h2, h3, h4, h5⟩ := hI
  simp only [eK, show decide ((y : Int) < ((g + 1 : Nat) : Int)) = true from decide_eq_true (by omega), cond_true, tU h, Option.bind_some, oP, kZ, cF (show y < 9223372036854775807 by omega)]
  rw [dD (n := (u : Int) - (x : Int)) (by omega) (by omega), dD (n := (g : Int) - (y : Int)) (by omega) (by omega), dD (n := (u : Int) - (x : Int) + min ((g : Int) - (y : Int)) l.Field.Guards) (by omega) (by omega), dD (n := (x : Int) + (y : Int)) (by omega) (by omega), aBo]
  have hcd : (decide ((u : Int) - (x : Int) + min ((g : Int) - (y : Int)) l.Field.Guards < plc l) && (!(pl l p).guard || decide (min ((g : Int) - (y : Int)) l.Field.Guards < l.Field.Guards))) = true ↔ fes l p u g x y := by
   unfold fes cnd
   rw [show ((u - x : Nat) : Int) = (u : Int) - x by omega, show ((g - y : Nat) : Int) = (g : Int) - y by omega]
   simp only [Bool.and_eq_true, Bool.or_eq_true, Bool.not_eq_true', decide_eq_true_eq]
   constructor
   ·rintro ⟨a, c⟩
    refine ⟨hx, by omega, a, fun hgd => ?_⟩
    rcases c with c | c
    ·rw [c] at hgd; cases hgd
    ·exact c
   ·rintro ⟨_, _, a, c⟩
    refine ⟨a, ?_⟩
    cases hgd : (pl l p).guard with
    | false => exact .inl rfl
    | true => exact .inr (c hgd)
  cases hc : decide ((u : Int) - (x : Int) + min ((g : Int) - (y : Int)) l.Field.Guards < plc l) && (!(pl l p).guard || decide (min ((g : Int) - (y : Int)) l.Field.Guards < l.Field.Guards)) with
  | true =>
   rw [cond_true]
   have hf := hcd.1 hc
   refine ih _ ⟨by omega, by omega, by omega, ?_, fun x' y' hz hf' => ?_⟩
   ·by_cases hle : b ≤ (x : Int) + (y : Int)
    ·rw [Int.min_eq_left hle]; exact h4
    ·rw [Int.min_eq_right (by omega)]; exact .inr ⟨x, y, hf, by omega⟩
   ·by_cases he : x' = x ∧ y' = y
    ·obtain ⟨rfl, rfl⟩ := he; omega
    ·have := h5 x' y' (by omega) hf'; omega
  | false =>
   rw [cond_false]
   refine ih _ ⟨h1, h2, by omega, h4, fun x' y' hz hf' => ?_⟩
   by_cases he : x' = x ∧ y' = y
   ·obtain ⟨rfl, rfl⟩ := he
    rw [hcd.2 hf'] at hc; cases hc
   ·exact h5 x' y' (by omega) hf'
 ·obtain ⟨h1, h2, h3, h4, h5⟩ := hI
  obtain rfl : y = g + 1 := by omega
  simp only [eK, show decide (((g + 1 : Nat) : Int) < ((g + 1 : Nat) : Int)) = false from decide_eq_false (by omega), cond_false, oJ, oI, cF (show x < 9223372036854775807 by omega)]
  refine hk b ⟨h1, h2⟩ ⟨h4, fun x' y' hz hf' => h5 x' y' ?_ hf'⟩
  have := hf'.2.1
  omega
theorem aRk {l : aN} (h : WF l) (p : Int) (u g : Nat) (hu : u + g ≤ 60) : ∃ r, hM l p (u : Int) (g : Int) = some r ∧ aHg (Fe (plc l) l.Field.Guards (pl l p).guard u g) r := by
 unfold hM
 rw [cF (by omega)]
 refine pZ (S := Int) (fun k j b => dX l p (u : Int) (g : Int) ((u + 1 : Nat) : Int) k b j) (u + 1) (fun o => ∃ r, o = some r ∧ aHg (Fe (plc l) l.Field.Guards (pl l p).guard u g) r) (fun x b => 0 ≤ b ∧ b ≤ 61 ∧ x ≤ u + 1 ∧ aLb l p u g b (fun x' _ => x' < x)) (fun k x b hx hI ih => ?_) (fun k x b hx hI => ?_) BIG 0 61 (dP (by omega)) ⟨by omega, by omega, by omega, .inl rfl, fun x' y' hz => by omega⟩
 ·obtain ⟨h1, h2, h3, h4⟩ := hI
  simp only [dX, show decide ((x : Int) < ((u + 1 : Nat) : Int)) = true from decide_eq_true (by omega), cond_true]
  exact aRl h (fun b j => dX l p (u : Int) (g : Int) ((u + 1 : Nat) : Int) k b j) p u g x hu (by omega) _ (fun o => ∃ r, o = some r ∧ aHg (Fe (plc l) l.Field.Guards (pl l p).guard u g) r) (fun b hb hs => ih b ⟨hb.1, hb.2, by omega, hs⟩) b ⟨h1, h2⟩ h4
 ·obtain ⟨h1, h2, h3, h4, h5⟩ := hI
  obtain rfl : x = u + 1 := by omega
  simp only [dX, show decide (((u + 1 : Nat) : Int) < ((u + 1 : Nat) : Int)) = false from decide_eq_false (by omega), cond_false, oH]
  refine ⟨b, rfl, ?_⟩
  have low : ∀ n, Fe (plc l) l.Field.Guards (pl l p).guard u g n → b ≤ (n : Int) ∧ n ≤ 60 := fun n hn => by
   obtain ⟨x, y, a1, a2, a3, a4⟩ := hn
   have := h5 x y (by omega) ⟨a1, a2, a4⟩
   omega
  rcases h4 with h4 | ⟨x, y, hf, he⟩
  ·refine .inl ⟨h4, fun n hn => ?_⟩
   have := low n hn; omega
  ·refine .inr ⟨x + y, he, by have := hf.1; have := hf.2.1; omega, ⟨x, y, hf.1, hf.2.1, rfl, hf.2.2⟩, fun m hm hn => ?_⟩
   have := low m hn; omega
theorem aRj {l : aN} (h : WF l) (p : Int) {B A : List Int} (hE : bF l = B ++ p :: A) (hB : p ∉ B) :
  fW l p (bF l) ((bF l).length : Int) BIG 0 0 0 = hM l p ((uC (fun n => (pl l n).guard) B : Nat) : Int) ((gC (fun n => (pl l n).guard) B : Nat) : Int) := by
 have hlen := jU h
 have hBl : B.length < (bF l).length := by rw [hE]; simp
 have hget : ∀ i (hi : i < B.length), (bF l)[i]'(by omega) = B[i] := fun i hi => by
  simp only [hE]; exact List.getElem_append_left hi
 have hgetp : (bF l)[B.length]'hBl = p := by simp [hE]
 have key := mG (S := Nat × Nat) (fun k j s => fW l p (bF l) ((bF l).length : Int) k (s.1 : Int) (s.2 : Int) j) B.length (fun j s => hM l p ((s.1 + uC (fun n => (pl l n).guard) (B.drop j) : Nat) : Int) ((s.2 + gC (fun n => (pl l n).guard) (B.drop j) : Nat) : Int)) (fun j s => s.1 + s.2 ≤ j) (fun k j s hj hI ih => ?_) (fun k s _ => ?_) BIG (0, 0) (dP (by omega)) (by simp)
 ·simpa using key
 ·have hjl : j < (bF l).length := by omega
  simp only [fW, show decide ((j : Int) < ((bF l).length : Int)) = true from decide_eq_true (by omega), cond_true, dA hjl, Option.bind_some, cF (show j < 9223372036854775807 by omega), aBo]
  rw [hget j hj, decide_eq_false (fun e : B[j] = p => hB (e ▸ List.getElem_mem hj)), cond_false, List.drop_eq_getElem_cons hj]
  have e1 : uC (fun n => (pl l n).guard) (B[j] :: B.drop (j + 1)) = uC (fun n => (pl l n).guard) [B[j]] + uC (fun n => (pl l n).guard) (B.drop (j + 1)) := aAb [B[j]] _
  have e2 : gC (fun n => (pl l n).guard) (B[j] :: B.drop (j + 1)) = gC (fun n => (pl l n).guard) [B[j]] + gC (fun n => (pl l n).guard) (B.drop (j + 1)) := tQ [B[j]] _
  rw [aAc] at e1
  rw [tR] at e2
  cases hg : (pl l B[j]).guard with
  | true =>
   rw [hg, if_pos rfl] at e1 e2
   rw [cond_true, cF (by omega), e1, e2, show s.1 + (0 + uC (fun n => (pl l n).guard) (B.drop (j + 1))) = s.1 + uC (fun n => (pl l n).guard) (B.drop (j + 1)) by omega, show s.2 + (1 + gC (fun n => (pl l n).guard) (B.drop (j + 1))) = s.2 + 1 + gC (fun n => (pl l n).guard) (B.drop (j + 1)) by omega]
   exact ih (s.1, s.2 + 1) (by simp only; omega)
  | false =>
   rw [hg, if_neg (by simp)] at e1 e2
   rw [cond_false, cF (by omega), e1, e2, show s.1 + (1 + uC (fun n => (pl l n).guard) (B.drop (j + 1))) = s.1 + 1 + uC (fun n => (pl l n).guard) (B.drop (j + 1)) by omega, show s.2 + (0 + gC (fun n => (pl l n).guard) (B.drop (j + 1))) = s.2 + gC (fun n => (pl l n).guard) (B.drop (j + 1)) by omega]
   exact ih (s.1 + 1, s.2) (by simp only; omega)
 ·simp only [fW, show decide ((B.length : Int) < ((bF l).length : Int)) = true from decide_eq_true (by omega), cond_true, dA hBl, Option.bind_some, hgetp, decide_true, List.drop_length]
  rfl
theorem aRm {l : aN} (h : WF l) (p : Int) {B A : List Int} (hE : bF l = B ++ p :: A) (hB : p ∉ B) :
  ∃ r, jI l p = some r ∧ aHg (Fe (plc l) l.Field.Guards (pl l p).guard (uC (fun n => (pl l n).guard) B) (gC (fun n => (pl l n).guard) B)) r := by
 unfold jI
 rw [uF h, Option.bind_some, aRj h p hE hB]
 refine aRk h p _ _ ?_
 have := yU (gf := fun n => (pl l n).guard) B
 have h2 := jU h
 rw [hE] at h2
 simp at h2
 omega
end Go.Am
end
section
namespace Go.Am
theorem aTd (a b : List Int) (ha : a.length ≤ 1000) (hb : b.length ≤ 1000) : mU a b = some (decide (a = b)) := by
 unfold mU
 refine pZ (S := Unit) (fun k j _ => iF a b k j) a.length (fun r => r = some (decide (a = b))) (fun j _ => j ≤ a.length ∧ j ≤ b.length ∧ a.take j = b.take j) (fun k j _ hj hI ih => ?_) (fun k j _ hj hI => ?_) BIG 0 () (dP (by omega)) ⟨by omega, by omega, rfl⟩
 ·obtain ⟨_, h2, h3⟩ := hI
  simp only [iF, show decide ((j : Int) < (a.length : Int)) = true from decide_eq_true (by omega), cond_true, Option.bind_some]
  by_cases hjb : j < b.length
  ·rw [decide_eq_true (show (j : Int) < (b.length : Int) by omega), cond_true, dA hj, dA hjb, Option.bind_some, Option.bind_some, cF (by omega)]
   by_cases e : a[j] = b[j]
   ·rw [decide_eq_true e, Bool.not_true, cond_false]
    refine ih () ⟨by omega, by omega, ?_⟩
    rw [List.take_succ_eq_append_getElem hj, List.take_succ_eq_append_getElem hjb, h3, e]
   ·rw [decide_eq_false e, Bool.not_false, cond_true]
    have : a ≠ b := fun h => by subst h; exact e rfl
    rw [decide_eq_false this]
  ·rw [decide_eq_false (show ¬ (j : Int) < (b.length : Int) by omega), cond_false]
   unfold nH
   have : a ≠ b := fun h => by subst h; omega
   rw [decide_eq_false this, decide_eq_false (by omega)]
 ·obtain ⟨h1, h2, h3⟩ := hI
  obtain rfl : j = a.length := by omega
  simp only [iF, show decide ((a.length : Int) < (a.length : Int)) = false from decide_eq_false (by omega), cond_false, Option.bind_some]
  unfold nH
  rw [List.take_length] at h3
  by_cases hl : a.length = b.length
  ·have : a = b := by rw [h3, hl, List.take_length]
   rw [decide_eq_true this, decide_eq_true (by omega)]
  ·have : a ≠ b := fun h => hl (by rw [h])
   rw [decide_eq_false this, decide_eq_false (by omega)]
theorem aXk {α : Type} {xs : List α} {q : α → Bool} {j : Nat} (hj : j < xs.length) (h : ∀ m ∈ xs.take j, q m = false) (hq : q xs[j] = true) : xs.find? q = some xs[j] := by
 rw [List.find?_eq_some_iff_getElem]
 refine ⟨hq, j, hj, rfl, fun i hi => ?_⟩
 rw [h _ (List.mem_take_iff_getElem.2 ⟨i, by omega, rfl⟩)]; rfl
def vM (l : List aK) (s : aK) : List aK := if l.any (fun x => decide (x.In = s.In)) then l else l ++ [s]
theorem aYk (l : List aK) (s : aK) (hl : l.length ≤ 1099511627776) (hs : s.In.length ≤ 1000) (hx : ∀ x ∈ l, x.In.length ≤ 1000) : oR l s = some (vM l s) := by
 unfold oR
 refine pZ (S := Unit) (fun k j _ => jK l s k j) l.length (fun r => r = some (vM l s)) (fun j _ => j ≤ l.length ∧ (l.take j).any (fun x => decide (x.In = s.In)) = false) (fun k j _ hj hI ih => ?_) (fun k j _ hj hI => ?_) BIG 0 () (dP (by omega)) ⟨by omega, rfl⟩
 ·simp only [jK, show decide ((j : Int) < (l.length : Int)) = true from decide_eq_true (by omega), cond_true, dA hj, Option.bind_some, aTd _ _ (hx _ (List.getElem_mem hj)) hs]
  by_cases e : l[j].In = s.In
  ·rw [decide_eq_true e, cond_true]
   have : l.any (fun x => decide (x.In = s.In)) = true := List.any_eq_true.2 ⟨_, List.getElem_mem hj, decide_eq_true e⟩
   unfold vM
   rw [if_pos this]
  ·rw [decide_eq_false e, cond_false, cF (by omega)]
   refine ih () ⟨by omega, ?_⟩
   rw [List.take_succ_eq_append_getElem hj, List.any_append, hI.2]
   simp [e]
 ·obtain rfl : j = l.length := by omega
  simp only [jK, show decide ((l.length : Int) < (l.length : Int)) = false from decide_eq_false (by omega), cond_false]
  unfold sO
  rw [fR (by simp; omega), Option.bind_some]
  have := hI.2
  rw [List.take_length] at this
  unfold vM
  rw [if_neg (by rw [this]; simp)]
def rch {κ : Type} (inn : κ → List Int) (stp : Bool → κ → Option κ) (p : Int) : κ → Nat → Prop
 | k, 0 => p ∈ inn k
 | k, n + 1 => p ∉ inn k ∧ ∃ b k', stp b k = some k' ∧ rch inn stp p k' n
def aGo {κ : Type} (inn : κ → List Int) (stp : Bool → κ → Option κ) (p : Int) (k : κ) : Prop := p ∉ inn k ∧ stp false k = none ∧ stp true k = none
theorem aXa {κ : Type} {inn : κ → List Int} {stp : Bool → κ → Option κ} {p : Int} {k : κ} (h : aGo inn stp p k) (n : Nat) : ¬ rch inn stp p k n := by
 cases n with
 | zero => exact h.1
 | succ n =>
  rintro ⟨_, b, k', e, _⟩
  cases b
  ·rw [h.2.1] at e; cases e
  ·rw [h.2.2] at e; cases e
structure Sim (f : aT) (hour p : Int) {κ : Type} (gf : Int → Bool) (R : Nat → aK → κ → Prop) (inn : κ → List Int) (stp : Bool → κ → Option κ) (sz : κ → Nat) (Z : Nat) : Prop where
 hin : ∀ {n s k}, R n s k → s.In = inn k
 len : ∀ {n s k}, R n s k → (inn k).length ≤ 1000
 pat : ∀ {n s k}, R n s k → ∀ m ∈ inn k, ∃ i q, mH s m = some i ∧ idx s.People i = some q ∧ q.Player = m ∧ q.Guard = gf m
 no : ∀ {n s k b}, R n s k → stp b k = none → ∀ m ∈ inn k, gf m ≠ b
 yes : ∀ {n s k b k'}, R n s k → n < Z → stp b k = some k' → ∃ m s', (inn k).find? (fun n => decide (gf n = b)) = some m ∧ nR f s hour m = some s' ∧ R (n + 1) s' k' ∧ sz k' < sz k
 dup : ∀ {n s k s' k'}, R n s k → R n s' k' → inn k = inn k' → k = k' ∨ (aGo inn stp p k ∧ aGo inn stp p k')
section
variable {f : aT} {hour p : Int} {κ : Type} {gf : Int → Bool} {R : Nat → aK → κ → Prop} {inn : κ → List Int} {stp : Bool → κ → Option κ} {sz : κ → Nat} {Z : Nat} (M : Sim f hour p gf R inn stp sz Z)
include M
theorem aVd (a0 : List aK → Int → Option (Int × Int)) (a2 a4 : Int → List aK → Option (Int × Int)) (now next : List aK) (nI : Int) {i : Nat} (hi : i < now.length) {n : Nat} {k : κ} (hR : R n now[i] k) (hZ : n < Z) (g : Int) (b : Bool) (hb : decide (g = 1) = b) (hnl : next.length ≤ 1099511627776) (hnx : ∀ x ∈ next, x.In.length ≤ 1000) :
  ∃ next', eW a0 a2 a4 hour p now nI (i : Int) g f BIG 0 next = a4 (w64 (g + 1)) next' ∧ ((stp b k = none ∧ next' = next) ∨ ∃ k' s', stp b k = some k' ∧ R (n + 1) s' k' ∧ sz k' < sz k ∧ next' = vM next s') := by
 have hIn := M.hin hR
 have hl := M.len hR
 refine pZ (S := Unit) (fun K j _ => eW a0 a2 a4 hour p now nI (i : Int) g f K j next) (inn k).length (fun r => ∃ next', r = a4 (w64 (g + 1)) next' ∧ ((stp b k = none ∧ next' = next) ∨ ∃ k' s', stp b k = some k' ∧ R (n + 1) s' k' ∧ sz k' < sz k ∧ next' = vM next s')) (fun j _ => j ≤ (inn k).length ∧ ∀ m ∈ (inn k).take j, gf m ≠ b) (fun K j _ hj hI ih => ?_) (fun K j _ hj hI => ?_) BIG 0 () (dP (by omega)) ⟨by omega, by simp⟩
 ·obtain ⟨q, pp, e1, e2, e3, e4⟩ := M.pat hR _ (List.getElem_mem hj)
  have hlt : decide ((j : Int) < (now[i].In.length : Int)) = true := decide_eq_true (by rw [hIn]; omega)
  have hji : idx now[i].In (j : Int) = some (inn k)[j] := by rw [hIn]; exact dA hj
  simp only [eW, dA hi, Option.bind_some, hlt, cond_true, hji, e1, e2]
  rw [hb, e4, e3]
  by_cases e : gf (inn k)[j] = b
  ·rw [decide_eq_true e, cond_true]
   have hf : (inn k).find? (fun n => decide (gf n = b)) = some (inn k)[j] := by
    exact aXk hj (fun m hm => decide_eq_false (hI.2 m hm)) (decide_eq_true e)
   cases hs : stp b k with
   | none => exact absurd e (M.no hR hs _ (List.getElem_mem hj))
   | some k' =>
    obtain ⟨m, s', h1, h2, h3, h4⟩ := M.yes hR hZ hs
    rw [hf] at h1
    obtain rfl : (inn k)[j] = m := by simpa using h1
    have hs' := M.len h3
    rw [h2, Option.bind_some, aYk next s' hnl (by rw [M.hin h3]; exact hs') hnx, Option.bind_some]
    unfold kN mP
    exact ⟨_, rfl, .inr ⟨k', s', rfl, h3, h4, rfl⟩⟩
  ·rw [decide_eq_false e, cond_false, cF (by omega)]
   refine ih () ⟨by omega, fun m hm => ?_⟩
   rw [List.take_succ_eq_append_getElem hj] at hm
   rcases List.mem_append.1 hm with hm | hm
   ·exact hI.2 m hm
   ·rw [List.mem_singleton.1 hm]; exact e
 ·obtain ⟨h1, h2⟩ := hI
  obtain rfl : j = (inn k).length := by omega
  rw [List.take_length] at h2
  have hlt : decide (((inn k).length : Int) < (now[i].In.length : Int)) = false := decide_eq_false (by rw [hIn]; omega)
  simp only [eW, dA hi, Option.bind_some, hlt, cond_false]
  unfold kN mP
  refine ⟨next, rfl, .inl ⟨?_, rfl⟩⟩
  cases hs : stp b k with
  | none => rfl
  | some k' =>
   obtain ⟨m, s', h3, _⟩ := M.yes hR hZ hs
   have h4 := List.find?_some h3
   exact absurd (by simpa using h4) (h2 m (List.mem_of_find?_eq_some h3))
end
end Go.Am
end
section
namespace Go.Am
section
variable {f : aT} {hour p : Int} {κ : Type} {gf : Int → Bool} {R : Nat → aK → κ → Prop} {inn : κ → List Int} {stp : Bool → κ → Option κ} {sz : κ → Nat} {Z : Nat}
def Cov (R : Nat → aK → κ → Prop) (inn : κ → List Int) (stp : Bool → κ → Option κ) (p : Int) (n : Nat) (l : List aK) (k' : κ) : Prop := ∀ m, rch inn stp p k' m → ∃ s ∈ l, ∃ k, R n s k ∧ rch inn stp p k m
def Gd (R : Nat → aK → κ → Prop) (inn : κ → List Int) (stp : Bool → κ → Option κ) (sz : κ → Nat) (p : Int) (k0 : κ) (n : Nat) (s : aK) : Prop := ∃ k, R n s k ∧ (∀ m, rch inn stp p k m → rch inn stp p k0 (n + m)) ∧ sz k + n ≤ sz k0
variable (M : Sim f hour p gf R inn stp sz Z)
include M
omit M in
theorem aLj {l : List aK} {s x : aK} (h : x ∈ l) : x ∈ vM l s := by
 unfold vM; split
 ·exact h
 ·exact List.mem_append.2 (.inl h)
omit M in
theorem aTx {l : List aK} {s x : aK} (h : x ∈ vM l s) : x ∈ l ∨ x = s := by
 unfold vM at h; split at h
 ·exact .inl h
 ·simpa using h
omit M in
theorem aTw (l : List aK) (s : aK) : (vM l s).length ≤ l.length + 1 := by
 unfold vM; split
 ·omega
 ·simp
omit M in
theorem Cov.mono {n : Nat} {l l2 : List aK} {k : κ} (h : Cov R inn stp p n l k) (hs : ∀ x ∈ l, x ∈ l2) : Cov R inn stp p n l2 k := fun m hm => by
 obtain ⟨s, h1, h2⟩ := h m hm
 exact ⟨s, hs s h1, h2⟩
theorem aTv {n : Nat} {l : List aK} {s : aK} {k0 k : κ} (hl : ∀ x ∈ l, Gd R inn stp sz p k0 n x) (hR : R n s k) : Cov R inn stp p n (vM l s) k := fun m hm => by
 by_cases h : l.any (fun x => decide (x.In = s.In)) = true
 ·obtain ⟨x, hx, he⟩ := List.any_eq_true.1 h
  rw [decide_eq_true_eq] at he
  obtain ⟨kx, hRx, _⟩ := hl x hx
  have : inn kx = inn k := by rw [← M.hin hRx, ← M.hin hR, he]
  rcases M.dup hRx hR this with e | ⟨_, d⟩
  ·subst e
   exact ⟨x, aLj hx, kx, hRx, hm⟩
  ·exact absurd hm (aXa d m)
 ·refine ⟨s, ?_, k, hR, hm⟩
  unfold vM
  rw [if_neg h]; simp
theorem aKj (a0 : List aK → Int → Option (Int × Int)) (a2 a4 : Int → List aK → Option (Int × Int)) (now next : List aK) (nI : Int) {i : Nat} (hi : i < now.length) {n : Nat} {k k0 : κ} (hR : R n now[i] k) (hZ : n < Z) (hk : (∀ m, rch inn stp p k m → rch inn stp p k0 (n + m)) ∧ sz k + n ≤ sz k0) (hp : p ∉ inn k) (g : Int) (b : Bool) (hb : decide (g = 1) = b) (hnl : next.length ≤ 1099511627776) (hnx : ∀ x ∈ next, Gd R inn stp sz p k0 (n + 1) x) :
  ∃ next', eW a0 a2 a4 hour p now nI (i : Int) g f BIG 0 next = a4 (w64 (g + 1)) next' ∧ (∀ x ∈ next, x ∈ next') ∧ (∀ x ∈ next', Gd R inn stp sz p k0 (n + 1) x) ∧ next'.length ≤ next.length + 1 ∧ ∀ k', stp b k = some k' → Cov R inn stp p (n + 1) next' k' := by
 obtain ⟨next', e, h⟩ := aVd M a0 a2 a4 now next nI hi hR hZ g b hb hnl fun x hx => by
  obtain ⟨kx, hRx, _⟩ := hnx x hx
  rw [M.hin hRx]; exact M.len hRx
 refine ⟨next', e, ?_⟩
 rcases h with ⟨h1, rfl⟩ | ⟨k', s', h1, h2, h3, rfl⟩
 ·exact ⟨fun x hx => hx, hnx, by omega, fun k' hk' => by rw [h1] at hk'; cases hk'⟩
 ·refine ⟨fun x hx => aLj hx, fun x hx => ?_, aTw _ _, fun k2 hk2 => ?_⟩
  ·rcases aTx hx with hx | rfl
   ·exact hnx x hx
   ·refine ⟨k', h2, fun m hm => ?_, by omega⟩
    have := hk.1 (m + 1) ⟨hp, b, k', h1, hm⟩
    rw [show n + 1 + m = n + (m + 1) by omega]; exact this
  ·rw [h1] at hk2
   obtain rfl : k' = k2 := by simpa using hk2
   exact aTv M hnx h2
omit M in
theorem aZj (a0 : List aK → Int → Option (Int × Int)) (a2 : Int → List aK → Option (Int × Int)) (hour p : Int) (now : List aK) (nI i : Int) (f : aT) (K : Nat) (next n1 n2 : List aK)
  (e1 : eW a0 a2 (dE a0 a2 hour p now nI i f (K + 2)) hour p now nI i 0 f BIG 0 next = dE a0 a2 hour p now nI i f (K + 2) 1 n1)
  (e2 : eW a0 a2 (dE a0 a2 hour p now nI i f (K + 1)) hour p now nI i 1 f BIG 0 n1 = dE a0 a2 hour p now nI i f (K + 1) 2 n2) :
  dE a0 a2 hour p now nI i f (K + 3) 0 next = a2 (w64 (i + 1)) n2 := by
 rw [dE, decide_eq_true (show (0 : Int) < 2 by omega), cond_true, e1, dE, decide_eq_true (show (1 : Int) < 2 by omega), cond_true, e2, dE, decide_eq_false (show ¬ (2 : Int) < 2 by omega), cond_false]
 rfl
theorem aVc (a0 : List aK → Int → Option (Int × Int)) (a2 : Int → List aK → Option (Int × Int)) (now next : List aK) (nI : Int) {i : Nat} (hi : i < now.length) (hil : i < 1099511627776) {n : Nat} {k k0 : κ} (hR : R n now[i] k) (hZ : n < Z) (hk : (∀ m, rch inn stp p k m → rch inn stp p k0 (n + m)) ∧ sz k + n ≤ sz k0) (hp : p ∉ inn k) (hnl : next.length ≤ 1099511627770) (hnx : ∀ x ∈ next, Gd R inn stp sz p k0 (n + 1) x) :
  ∃ next', dE a0 a2 hour p now nI (i : Int) f BIG 0 next = a2 ((i + 1 : Nat) : Int) next' ∧ (∀ x ∈ next, x ∈ next') ∧ (∀ x ∈ next', Gd R inn stp sz p k0 (n + 1) x) ∧ next'.length ≤ next.length + 2 ∧ ∀ b k', stp b k = some k' → Cov R inn stp p (n + 1) next' k' := by
 obtain ⟨K, hK⟩ : ∃ K, BIG = K + 3 := ⟨BIG - 3, by unfold BIG; omega⟩
 obtain ⟨n1, e1, s1, g1, l1, c1⟩ := aKj M a0 a2 (dE a0 a2 hour p now nI (i : Int) f (K + 2)) now next nI hi hR hZ hk hp 0 false rfl (by omega) hnx
 obtain ⟨n2, e2, s2, g2, l2, c2⟩ := aKj M a0 a2 (dE a0 a2 hour p now nI (i : Int) f (K + 1)) now n1 nI hi hR hZ hk hp 1 true rfl (by omega) g1
 refine ⟨n2, ?_, fun x hx => s2 x (s1 x hx), g2, by omega, fun b k' hb => ?_⟩
 ·have w1 : w64 (0 + 1) = 1 := rfl
  have w2 : w64 (1 + 1) = 2 := rfl
  rw [w1] at e1
  rw [w2] at e2
  have un := aZj a0 a2 hour p now nI (i : Int) f K next n1 n2 e1 e2
  rw [← hK] at un
  rw [un, cF (by omega)]
 ·cases b with
  | false => exact (c1 k' hb).mono s2
  | true => exact c2 k' hb
def Res (inn : κ → List Int) (stp : Bool → κ → Option κ) (p : Int) (k0 : κ) (r : Option (Int × Int)) : Prop := (∃ D : Nat, r = some ((D : Int), 0) ∧ rch inn stp p k0 D ∧ ∀ m, m < D → ¬ rch inn stp p k0 m) ∨ (r = some (0, 3) ∧ ∀ m, ¬ rch inn stp p k0 m)
theorem aVb (a0 : List aK → Int → Option (Int × Int)) (now : List aK) {n : Nat} {k0 : κ} (hZ : n < Z) (hn : n ≤ 1000) (hnow : ∀ x ∈ now, Gd R inn stp sz p k0 n x) (hl : now.length ≤ 549755813880) (hcov : ∀ m, rch inn stp p k0 (n + m) → ∃ s ∈ now, ∃ k, R n s k ∧ rch inn stp p k m) (hlow : ∀ m, m < n → ¬ rch inn stp p k0 m)
  (hnext : ∀ next : List aK, (∀ x ∈ next, Gd R inn stp sz p k0 (n + 1) x) → next.length ≤ 2 * now.length → (∀ m, rch inn stp p k0 (n + 1 + m) → ∃ s ∈ next, ∃ k, R (n + 1) s k ∧ rch inn stp p k m) → (∀ m, m < n + 1 → ¬ rch inn stp p k0 m) → Res inn stp p k0 (a0 next ((n + 1 : Nat) : Int))) :
  Res inn stp p k0 (dR a0 hour p now (n : Int) f BIG 0 []) := by
 refine pZ (S := List aK) (fun K j nx => dR a0 hour p now (n : Int) f K j nx) now.length (Res inn stp p k0) (fun j nx => j ≤ now.length ∧ (∀ x ∈ nx, Gd R inn stp sz p k0 (n + 1) x) ∧ nx.length ≤ 2 * j ∧ ∀ x ∈ now.take j, p ∉ x.In ∧ ∀ k, R n x k → ∀ b k', stp b k = some k' → Cov R inn stp p (n + 1) nx k') (fun K j nx hj hI ih => ?_) (fun K j nx hj hI => ?_) BIG 0 [] (dP (by omega)) ⟨by omega, by simp, by simp, by simp⟩
 ·obtain ⟨h1, h2, h3, h4⟩ := hI
  obtain ⟨k, hR, hk⟩ := hnow _ (List.getElem_mem hj)
  have hin := M.hin hR
  have hil := M.len hR
  simp only [dR, show decide ((j : Int) < (now.length : Int)) = true from decide_eq_true (by omega), cond_true, dA hj, Option.bind_some, dIn _ _ (show now[j].In.length ≤ 1000 by rw [hin]; exact hil)]
  by_cases hp : p ∈ now[j].In
  ·rw [decide_eq_true hp, cond_true]
   rw [hin] at hp
   exact .inl ⟨n, rfl, hk.1 0 hp, hlow⟩
  ·rw [decide_eq_false hp, cond_false]
   have hp2 : p ∉ inn k := by rw [← hin]; exact hp
   obtain ⟨nx', e, s1, g1, l1, c1⟩ := aVc M a0 (dR a0 hour p now (n : Int) f K) now nx (n : Int) hj (by omega) hR hZ hk hp2 (by omega) h2
   rw [e]
   refine ih nx' ⟨by omega, g1, by omega, fun x hx => ?_⟩
   rw [List.take_succ_eq_append_getElem hj] at hx
   rcases List.mem_append.1 hx with hx | hx
   ·exact ⟨(h4 x hx).1, fun k2 hk2 b k' hb => ((h4 x hx).2 k2 hk2 b k' hb).mono s1⟩
   ·rw [List.mem_singleton.1 hx]
    refine ⟨hp, fun k2 hk2 b k' hb => ?_⟩
    have : inn k2 = inn k := by rw [← M.hin hk2, ← M.hin hR]
    rcases M.dup hk2 hR this with e2 | ⟨d, _⟩
    ·subst e2; exact c1 b k' hb
    ·cases b
     ·rw [d.2.1] at hb; cases hb
     ·rw [d.2.2] at hb; cases hb
 ·obtain ⟨h1, h2, h3, h4⟩ := hI
  obtain rfl : j = now.length := by omega
  rw [List.take_length] at h4
  simp only [dR, show decide ((now.length : Int) < (now.length : Int)) = false from decide_eq_false (by omega), cond_false]
  unfold sN sM
  rw [cF (by omega)]
  refine hnext nx h2 h3 (fun m hm => ?_) fun m hm hr => ?_
  ·obtain ⟨s, hs, k, hR, hr⟩ := hcov (m + 1) (by rw [show n + (m + 1) = n + 1 + m by omega]; exact hm)
   obtain ⟨_, b, k', hb, hr2⟩ := hr
   exact (h4 s hs).2 k hR b k' hb m hr2
  ·by_cases hmn : m < n
   ·exact hlow m hmn hr
   ·obtain rfl : m = n := by omega
    obtain ⟨s, hs, k, hR, hr2⟩ := hcov 0 hr
    refine (h4 s hs).1 ?_
    rw [M.hin hR]; exact hr2
theorem aVa {k0 : κ} (hZ : sz k0 < Z) (hsz : sz k0 ≤ 38) : ∀ (d n K : Nat) (now : List aK), sz k0 + 1 - n = d → n ≤ sz k0 + 1 → d < K → (∀ x ∈ now, Gd R inn stp sz p k0 n x) → now.length ≤ 2 ^ n → (∀ m, rch inn stp p k0 (n + m) → ∃ s ∈ now, ∃ k, R n s k ∧ rch inn stp p k m) → (∀ m, m < n → ¬ rch inn stp p k0 m) →
  Res inn stp p k0 (cQ hour p f K now (n : Int)) := by
 intro d
 induction d with
 | zero =>
  intro n K now hd hn hK hnow hl hcov hlow
  obtain ⟨K, rfl⟩ : ∃ q, K = q + 1 := ⟨K - 1, by omega⟩
  have : now = [] := by
   cases now with
   | nil => rfl
   | cons s t =>
    obtain ⟨k, _, _, h⟩ := hnow s (by simp)
    omega
  subst this
  refine .inr ⟨rfl, fun m hm => ?_⟩
  by_cases hmn : m < n
  ·exact hlow m hmn hm
  ·obtain ⟨s, hs, _⟩ := hcov (m - n) (by rw [show n + (m - n) = m by omega]; exact hm)
   simp at hs
 | succ d ih =>
  intro n K now hd hn hK hnow hl hcov hlow
  obtain ⟨K, rfl⟩ : ∃ q, K = q + 1 := ⟨K - 1, by omega⟩
  cases hnl : now with
  | nil =>
   refine .inr ⟨rfl, fun m hm => ?_⟩
   by_cases hmn : m < n
   ·exact hlow m hmn hm
   ·obtain ⟨s, hs, _⟩ := hcov (m - n) (by rw [show n + (m - n) = m by omega]; exact hm)
    rw [hnl] at hs; simp at hs
  | cons s t =>
   rw [← hnl]
   have hpos : 0 < now.length := by rw [hnl]; simp
   simp only [cQ, show decide ((0 : Int) < (now.length : Int)) = true from decide_eq_true (by omega), cond_true]
   have hp2 : 2 ^ n ≤ 2 ^ 38 := Nat.pow_le_pow_right (by omega) (by omega)
   refine aVb M _ now (by omega) (by omega) hnow (Nat.le_trans hl (Nat.le_trans hp2 (by decide))) hcov hlow fun next h1 h2 h3 h4 => ?_
   refine ih (n + 1) K next (by omega) (by omega) (by omega) h1 ?_ h3 h4
   rw [Nat.pow_succ]; omega
theorem aEm {k0 : κ} {s0 : aK} (hR : R 0 s0 k0) (hZ : sz k0 < Z) (hsz : sz k0 ≤ 38) : Res inn stp p k0 (cQ hour p f BIG [s0] 0) :=
 aVa M hZ hsz (sz k0 + 1) 0 BIG [s0] (by omega) (by omega) (dP (by omega)) (fun x hx => by
  rw [List.mem_singleton.1 hx]
  exact ⟨k0, hR, fun m hm => by rw [Nat.zero_add]; exact hm, by omega⟩) (by simp) (fun m hm => ⟨s0, by simp, k0, hR, by rw [Nat.zero_add] at hm; exact hm⟩) fun m hm => by omega
end
end Go.Am
end
section
namespace Go.Am
theorem aHd {α : Type} {q : α → Bool} : ∀ {s t : List α}, s.Sublist t → t.Nodup → ∀ {k : α}, t.find? q = some k → k ∈ s → s.find? q = some k
 | _, _, .slnil, _, _, h, _ => by simp at h
 | s, a :: t, .cons _ h, hn, k, hf, hk => by
  have h1 := List.nodup_cons.1 hn
  rw [List.find?_cons] at hf
  cases hq : q a with
  | true =>
   rw [hq] at hf
   obtain rfl : a = k := by simpa using hf
   exact absurd (h.subset hk) h1.1
  | false => rw [hq] at hf; exact aHd h h1.2 hf hk
 | a :: s, _ :: t, .cons_cons _ h, hn, k, hf, hk => by
  have h1 := List.nodup_cons.1 hn
  rw [List.find?_cons] at hf ⊢
  cases hq : q a with
  | true => rw [hq] at hf; exact hf
  | false =>
   rw [hq] at hf
   refine aHd h h1.2 hf ((List.mem_cons.1 hk).resolve_left fun e => ?_)
   have := List.find?_some hf
   rw [e, hq] at this; cases this
def gD (hour k : Int) : aO := aO.mk 0 hour 4 k 0
theorem aFm (L : aN) (hour k n : Int) : pl (cA L (gD hour k)) n = bif decide (n = k) then aA.mk (pl L k).entered (pl L k).guard (pl L k).rank (pl L k).turn true (pl L k).signed false (pl L k).had else pl L n := aBs L _ n
theorem uH (L : aN) (hour k n : Int) : (pl (cA L (gD hour k)) n).guard = (pl L n).guard ∧ (pl (cA L (gD hour k)) n).entered = (pl L n).entered ∧ (pl (cA L (gD hour k)) n).rank = (pl L n).rank ∧ (pl (cA L (gD hour k)) n).turn = (pl L n).turn ∧ (pl (cA L (gD hour k)) n).signed = (pl L n).signed ∧ (pl (cA L (gD hour k)) n).had = (pl L n).had := by
 rw [aFm]
 by_cases e : n = k
 ·subst e; rw [decide_eq_true rfl]; exact ⟨rfl, rfl, rfl, rfl, rfl, rfl⟩
 ·rw [decide_eq_false e]; exact ⟨rfl, rfl, rfl, rfl, rfl, rfl⟩
theorem aCp (L : aN) (hour k n : Int) : isE (cA L (gD hour k)).players n = (isE L.players n && !decide (n = k)) := by
 have hf := uH L hour k n
 rw [tS, tS, hf.2.1, hf.2.2.2.2.2]
 have hq : (pl (cA L (gD hour k)) n).quit = ((pl L n).quit || decide (n = k)) := by
  rw [aFm]
  by_cases e : n = k
  ·subst e; rw [decide_eq_true rfl]; simp
  ·rw [decide_eq_false e]; simp
 rw [hq]
 cases (pl L n).entered <;> cases (pl L n).quit <;> cases (pl L n).had <;> cases decide (n = k) <;> rfl
theorem aKk {L : aN} {hour k : Int} (h : WF L) (h2 : WF (cA L (gD hour k))) : bF (cA L (gD hour k)) = (bF L).filter fun n => !decide (n = k) := by
 have hk : ∀ n, eM (cA L (gD hour k)) n = eM L n := fun n => by
  have hf := uH L hour k n
  unfold eM
  rw [hf.2.2.1, hf.2.2.2.1]
 refine mK (key := eM L) ?_ ((qF h).filter _) fun n => ?_
 ·refine (qF h2).imp fun {a b} hab => ?_
  rw [hk, hk] at hab; exact hab
 ·rw [jV, List.mem_filter, jV, aCp, Bool.and_eq_true]
theorem aGz {L : aN} {hour k : Int} (hw : (pl L k).wild = false) : plc (cA L (gD hour k)) = plc L := by
 unfold plc
 rw [aCw, (aCx L _).2, (rU L _).2.1]
 have : (pl L (gD hour k).Player).wild = false := hw
 rw [this]
 simp
theorem aXs {hour k : Int} (hh : wi hour 0 9999 = true) (hk : wi k 0 999 = true) : gQ (gD hour k) = true := by
 unfold gQ gD
 simp only [hh, hk]
 rfl
theorem aIi {f : aT} {L : aN} {s : aK} {i : Nat} (h : StE f L s i) (hi : i < 60) {hour k : Int} (hh : wi hour 0 9999 = true) (hk : wi k 0 999 = true) (hz : hour ≤ f.Freeze → L.frozen = false) :
  ∃ s2, nR f s hour k = some s2 ∧ StE f (cA L (gD hour k)) s2 (i + 1) := by
 obtain ⟨s2, e, hS⟩ := h.step (x := gD hour k) hi (aXs hh hk) hz
 refine ⟨s2, ?_, hS⟩
 unfold nR
 show (mW f s (gD hour k)).bind _ = _
 rw [e]; rfl
theorem aWb {f : aT} {L : aN} {s : aK} {i : Nat} (h : StE f L s i) (hi : i ≤ 60) {m : Int} (hm : isE L.players m = true) : ∃ j q, mH s m = some j ∧ idx s.People j = some q ∧ q.Player = m ∧ q.Guard = (pl L m).guard := by
 have hl := h.rel.len
 have hin : ∃ q ∈ s.People, q.Player = m := Classical.byContradiction fun hno => by
  have hz := h.rel.all m fun q hq e => hno ⟨q, hq, e⟩
  rw [tS, hz] at hm
  cases hm
 obtain ⟨q, hq, e⟩ := hin
 have hlt : s.People.findIdx (fun p => decide (p.Player = m)) < s.People.length := List.findIdx_lt_length_of_exists ⟨q, hq, decide_eq_true e⟩
 have hg : decide ((s.People[s.People.findIdx (fun p => decide (p.Player = m))]'hlt).Player = m) = true := List.findIdx_getElem (p := fun p : aD => decide (p.Player = m)) (w := hlt)
 rw [decide_eq_true_eq] at hg
 refine ⟨fE (fun p => decide (p.Player = m)) s.People, s.People[s.People.findIdx (fun p => decide (p.Player = m))]'hlt, dAt s m (by omega), ?_, hg, ?_⟩
 ·unfold fE
  rw [if_pos hlt]
  exact dA hlt
 ·have := h.rel.of _ (List.getElem_mem hlt)
  rw [hg] at this
  rw [this]; rfl
theorem aSn {f : aT} {l : List aO} {hour : Int} {L : aN} (A : AF f l hour L) {m : Int} (hm : isE L.players m = true) : (pl L m).wild = false := by
 cases hw : (pl L m).wild with
 | false => rfl
 | true =>
  have := (A.wh m).1 ((A.wd.fl m).2 hw)
  rw [tS, this] at hm
  simp at hm
end Go.Am
end
section
namespace Go.Am
theorem aFz {xs : List Int} (h : xs.Nodup) (a : Nat) : (xs.filter fun m => !decide (m ∈ xs.take a)) = xs.drop a := by
 have e := List.take_append_drop a xs
 have hn : (xs.take a ++ xs.drop a).Nodup := by rw [e]; exact h
 have hd := (List.nodup_append.1 hn).2.2
 have key : ∀ T D : List Int, (∀ m ∈ T, ∀ m' ∈ D, m ≠ m') → ((T ++ D).filter fun m => !decide (m ∈ T)) = D := fun T D hh => by
  rw [List.filter_append, List.filter_eq_nil_iff.2 fun m hm => by simp [hm], List.nil_append, List.filter_eq_self.2 fun m hm => by simp; exact fun h2 => hh m h2 m hm rfl]
 have := key (xs.take a) (xs.drop a) hd
 rw [e] at this
 exact this
section
variable (E0 : List Int) (gf : Int → Bool)
def Us : List Int := E0.filter fun n => !gf n
def Gs : List Int := E0.filter gf
def eab (k : Nat × Nat) : List Int := E0.filter fun m => !decide (m ∈ (Us E0 gf).take k.1) && !decide (m ∈ (Gs E0 gf).take k.2)
def mL (P G : Int) (k : Nat × Nat) : List Int := grd gf P G [] (eab E0 gf k)
def xA (P G : Int) (b : Bool) (k : Nat × Nat) : Option (Nat × Nat) := if (mL E0 gf P G k).any (fun n => decide (gf n = b)) = true then some (bif b then (k.1, k.2 + 1) else (k.1 + 1, k.2)) else none
def szU (k : Nat × Nat) : Nat := E0.length - (k.1 + k.2)
end
section
variable {E0 : List Int} {gf : Int → Bool}
theorem aZl (hn : E0.Nodup) (k : Nat × Nat) : (eab E0 gf k).filter (fun n => !gf n) = (Us E0 gf).drop k.1 := by
 rw [← aFz (xs := Us E0 gf) (hn.filter _) k.1]
 unfold eab
 show _ = List.filter _ (E0.filter fun n => !gf n)
 rw [List.filter_filter, List.filter_filter]
 refine List.filter_congr fun m _ => ?_
 cases hg : gf m with
 | true => simp
 | false =>
  have : m ∉ (Gs E0 gf).take k.2 := fun hm => by
   have := (List.mem_filter.1 (List.mem_of_mem_take hm)).2
   rw [hg] at this; cases this
  rw [decide_eq_false this]
  simp [Us]
theorem aZk (hn : E0.Nodup) (k : Nat × Nat) : (eab E0 gf k).filter gf = (Gs E0 gf).drop k.2 := by
 rw [← aFz (xs := Gs E0 gf) (hn.filter _) k.2]
 unfold eab
 show _ = List.filter _ (E0.filter gf)
 rw [List.filter_filter, List.filter_filter]
 refine List.filter_congr fun m _ => ?_
 cases hg : gf m with
 | false => simp
 | true =>
  have : m ∉ (Us E0 gf).take k.1 := fun hm => by
   have := (List.mem_filter.1 (List.mem_of_mem_take hm)).2
   rw [hg] at this; cases this
  rw [decide_eq_false this]
  simp [Gs]
theorem aJy {α : Type} (q : α → Bool) (xs : List α) : xs.find? q = (xs.filter q).head? := by
 induction xs with
 | nil => rfl
 | cons a t ih =>
  rw [List.find?_cons, List.filter_cons]
  cases q a
  ·exact ih
  ·rfl
theorem aAh (hn : E0.Nodup) (k : Nat × Nat) (b : Bool) : (eab E0 gf k).find? (fun n => decide (gf n = b)) = bif b then (Gs E0 gf)[k.2]? else (Us E0 gf)[k.1]? := by
 rw [aJy]
 cases b with
 | true =>
  rw [show ((eab E0 gf k).filter fun n => decide (gf n = true)) = (eab E0 gf k).filter gf from List.filter_congr fun a _ => by cases gf a <;> rfl, aZk hn, cond_true, List.head?_drop]
 | false =>
  rw [show ((eab E0 gf k).filter fun n => decide (gf n = false)) = (eab E0 gf k).filter (fun n => !gf n) from List.filter_congr fun a _ => by cases gf a <;> rfl, aZl hn, cond_false, List.head?_drop]
theorem aKt {xs : List Int} {a : Nat} {k : Int} (h : xs[a]? = some k) (m : Int) : decide (m ∈ xs.take (a + 1)) = (decide (m ∈ xs.take a) || decide (m = k)) := by
 have ha : a < xs.length := (List.getElem?_eq_some_iff.1 h).1
 have hk : xs[a] = k := (List.getElem?_eq_some_iff.1 h).2
 rw [List.take_succ_eq_append_getElem ha, hk, Bool.eq_iff_iff]
 simp
theorem uZ (k : Nat × Nat) (b : Bool) {m : Int} (h : (bif b then (Gs E0 gf)[k.2]? else (Us E0 gf)[k.1]?) = some m) : eab E0 gf (bif b then (k.1, k.2 + 1) else (k.1 + 1, k.2)) = (eab E0 gf k).filter fun n => !decide (n = m) := by
 unfold eab
 rw [List.filter_filter]
 refine List.filter_congr fun n _ => ?_
 cases b with
 | true =>
  rw [cond_true] at h
  simp only [cond_true]
  rw [aKt h]
  cases decide (n ∈ (Us E0 gf).take k.1) <;> cases decide (n ∈ (Gs E0 gf).take k.2) <;> cases decide (n = m) <;> rfl
 | false =>
  rw [cond_false] at h
  simp only [cond_false]
  rw [aKt h]
  cases decide (n ∈ (Us E0 gf).take k.1) <;> cases decide (n ∈ (Gs E0 gf).take k.2) <;> cases decide (n = m) <;> rfl
theorem aIu {P G : Int} (k : Nat × Nat) : (mL E0 gf P G k).Sublist (eab E0 gf k) := by
 obtain ⟨s, h1, h2⟩ := wO (gf := gf) (P := P) (G := G) [] (eab E0 gf k)
 unfold mL
 rw [h1]; simpa using h2
theorem xN (hn : E0.Nodup) (k : Nat × Nat) : (eab E0 gf k).Nodup := hn.filter _
theorem aEh {P G : Int} (hn : E0.Nodup) {k : Nat × Nat} {b : Bool} {m : Int} (hm : m ∈ mL E0 gf P G k) (hb : gf m = b) : ∃ q, (bif b then (Gs E0 gf)[k.2]? else (Us E0 gf)[k.1]?) = some q ∧ q ∈ mL E0 gf P G k ∧ (mL E0 gf P G k).find? (fun n => decide (gf n = b)) = some q := by
 obtain ⟨q, h1, h2⟩ := aAo b (eab E0 gf k) [] hm (by simp) hb (by simp)
 have h3 := aHd (aIu (P := P) (G := G) k) (xN hn k) h1 h2
 rw [aAh hn] at h1
 exact ⟨q, h1, h2, h3⟩
theorem aKs {P G : Int} (hn : E0.Nodup) {b : Bool} {k k' : Nat × Nat} (h : xA E0 gf P G b k = some k') : k' = (bif b then (k.1, k.2 + 1) else (k.1 + 1, k.2)) ∧ ∃ q, (bif b then (Gs E0 gf)[k.2]? else (Us E0 gf)[k.1]?) = some q ∧ q ∈ mL E0 gf P G k ∧ (mL E0 gf P G k).find? (fun n => decide (gf n = b)) = some q := by
 unfold xA at h
 split at h
 ·rename_i hany
  obtain ⟨m, hm, hb⟩ := List.any_eq_true.1 hany
  exact ⟨by simpa using h.symm, aEh hn hm (by simpa using hb)⟩
 ·cases h
theorem aQm : (Us E0 gf).length + (Gs E0 gf).length = E0.length := yU (gf := gf) E0
theorem aUk {P G : Int} (hn : E0.Nodup) {p : Int} {n : Nat} {k k2 : Nat × Nat} (h1 : k.1 + k.2 = n) (h2 : k2.1 + k2.2 = n) (hl : k.1 ≤ (Us E0 gf).length ∧ k.2 ≤ (Gs E0 gf).length) (hl2 : k2.1 ≤ (Us E0 gf).length ∧ k2.2 ≤ (Gs E0 gf).length) (he : mL E0 gf P G k = mL E0 gf P G k2) :
  k = k2 ∨ (aGo (mL E0 gf P G) (xA E0 gf P G) p k ∧ aGo (mL E0 gf P G) (xA E0 gf P G) p k2) := by
 have main : ∀ {k k2 : Nat × Nat}, mL E0 gf P G k = mL E0 gf P G k2 → k.1 < k2.1 → k2.2 < k.2 → mL E0 gf P G k = [] := by
  intro k k2 he ha hb
  rw [List.eq_nil_iff_forall_not_mem]
  intro m hm
  cases hg : gf m with
  | false =>
   obtain ⟨q, h1, h2, _⟩ := aEh hn hm hg
   rw [cond_false] at h1
   rw [he] at h2
   have h3 := (aIu (P := P) (G := G) k2).subset h2
   have h4 := (List.mem_filter.1 h3).2
   rw [Bool.and_eq_true, Bool.not_eq_true', decide_eq_false_iff_not] at h4
   refine h4.1 ?_
   have hlt := (List.getElem?_eq_some_iff.1 h1).1
   rw [← (List.getElem?_eq_some_iff.1 h1).2]
   exact List.mem_take_iff_getElem.2 ⟨k.1, by omega, rfl⟩
  | true =>
   rw [he] at hm
   obtain ⟨q, h1, h2, _⟩ := aEh hn hm hg
   rw [cond_true] at h1
   rw [← he] at h2
   have h3 := (aIu (P := P) (G := G) k).subset h2
   have h4 := (List.mem_filter.1 h3).2
   rw [Bool.and_eq_true, Bool.not_eq_true', Bool.not_eq_true', decide_eq_false_iff_not, decide_eq_false_iff_not] at h4
   refine h4.2 ?_
   have hlt := (List.getElem?_eq_some_iff.1 h1).1
   rw [← (List.getElem?_eq_some_iff.1 h1).2]
   exact List.mem_take_iff_getElem.2 ⟨k2.2, by omega, rfl⟩
 have dd : ∀ {k : Nat × Nat}, mL E0 gf P G k = [] → aGo (mL E0 gf P G) (xA E0 gf P G) p k := fun {k} h => by
  refine ⟨by rw [h]; simp, ?_, ?_⟩ <;> (unfold xA; rw [h]; simp)
 by_cases e1 : k.1 = k2.1
 ·left
  have : k.2 = k2.2 := by omega
  exact Prod.ext e1 this
 ·right
  by_cases hlt : k.1 < k2.1
  ·have e := main he hlt (by omega)
   exact ⟨dd e, dd (he ▸ e)⟩
  ·have e := main he.symm (show k2.1 < k.1 by omega) (by omega)
   exact ⟨dd (he.symm ▸ e), dd e⟩
theorem aVg {P G : Int} (hG : 0 ≤ G) (hn : E0.Nodup) {p : Int} : ∀ (n : Nat) (k : Nat × Nat) (B A : List Int), eab E0 gf k = B ++ p :: A → rch (mL E0 gf P G) (xA E0 gf P G) p k n → ∃ m, m ≤ n ∧ Fe P G (gf p) (uC gf B) (gC gf B) m := by
 intro n
 induction n with
 | zero =>
  intro k B A hE h
  have hnd := xN (gf := gf) hn k
  rw [hE] at hnd
  have n1 := List.nodup_append.1 hnd
  have hpB : p ∉ B := fun hm => n1.2.2 p hm p (by simp) rfl
  have hpA : p ∉ A := (List.nodup_cons.1 n1.2.1).1
  have h2 : p ∈ mL E0 gf P G k := h
  unfold mL at h2
  rw [hE, aMl hG hpB hpA] at h2
  exact ⟨0, Nat.le_refl _, aFc.2 h2⟩
 | succ n ih =>
  intro k B A hE h
  have hnd := xN (gf := gf) hn k
  rw [hE] at hnd
  have n1 := List.nodup_append.1 hnd
  obtain ⟨hp, b, k', hb, hr⟩ := h
  obtain ⟨e, q, h1, h2, _⟩ := aKs hn hb
  have hqp : q ≠ p := fun e => hp (e ▸ h2)
  have hE2 : eab E0 gf k' = (B.filter fun n => !decide (n = q)) ++ p :: (A.filter fun n => !decide (n = q)) := by
   rw [e, uZ k b h1, hE, List.filter_append, List.filter_cons_of_pos (by simp; exact fun e => hqp e.symm)]
  obtain ⟨m, hm, hf⟩ := ih k' _ _ hE2 hr
  obtain ⟨m2, hm2, hf2⟩ := aOu n1.1 hf
  exact ⟨m2, by omega, hf2⟩
theorem aKl {P G : Int} (hP : 1 ≤ P) (hG : 0 ≤ G) (hn : E0.Nodup) {p : Int} : ∀ (n : Nat) (k : Nat × Nat) (B A : List Int), eab E0 gf k = B ++ p :: A → Fe P G (gf p) (uC gf B) (gC gf B) n → (∀ m, m < n → ¬ Fe P G (gf p) (uC gf B) (gC gf B) m) → rch (mL E0 gf P G) (xA E0 gf P G) p k n := by
 intro n
 induction n with
 | zero =>
  intro k B A hE h _
  have hnd := xN (gf := gf) hn k
  rw [hE] at hnd
  have n1 := List.nodup_append.1 hnd
  have hpB : p ∉ B := fun hm => n1.2.2 p hm p (by simp) rfl
  have hpA : p ∉ A := (List.nodup_cons.1 n1.2.1).1
  show p ∈ mL E0 gf P G k
  unfold mL
  rw [hE, aMl hG hpB hpA]
  exact aFc.1 h
 | succ n ih =>
  intro k B A hE h hmin
  have hnd := xN (gf := gf) hn k
  rw [hE] at hnd
  have n1 := List.nodup_append.1 hnd
  have hpB : p ∉ B := fun hm => n1.2.2 p hm p (by simp) rfl
  have hpA : p ∉ A := (List.nodup_cons.1 n1.2.1).1
  obtain ⟨b, q, h1, h2, h3, h4⟩ := aWi hP hG hnd h hmin
  have hq2 : gf q = b := by have := List.find?_some h1; simpa using this
  rw [← hE] at h1 h2
  have h2' : q ∈ mL E0 gf P G k := h2
  have hst : xA E0 gf P G b k = some (bif b then (k.1, k.2 + 1) else (k.1 + 1, k.2)) := by
   unfold xA
   rw [if_pos (List.any_eq_true.2 ⟨q, h2', decide_eq_true hq2⟩)]
  rw [aAh hn] at h1
  have hqp : q ≠ p := fun e => hpB (e ▸ h3)
  have hE2 : eab E0 gf (bif b then (k.1, k.2 + 1) else (k.1 + 1, k.2)) = (B.filter fun n => !decide (n = q)) ++ p :: (A.filter fun n => !decide (n = q)) := by
   rw [uZ k b h1, hE, List.filter_append, List.filter_cons_of_pos (by simp; exact fun e => hqp e.symm)]
  refine ⟨fun hp => hmin 0 (by omega) (aFc.2 ?_), b, _, hst, ih _ _ _ hE2 h4 fun m hm hf => ?_⟩
  ·unfold mL at hp
   rw [hE, aMl hG hpB hpA] at hp
   exact hp
  ·obtain ⟨m2, hm2, hf2⟩ := aOu n1.1 hf
   exact hmin m2 (by omega) hf2
theorem aXg {P G : Int} (hP : 1 ≤ P) (hG : 0 ≤ G) (hn : E0.Nodup) {p : Int} {B A : List Int} (hE : E0 = B ++ p :: A) {r : Int} (hr : aHg (Fe P G (gf p) (uC gf B) (gC gf B)) r) {o : Option (Int × Int)} (ho : Res (mL E0 gf P G) (xA E0 gf P G) p (0, 0) o) : o = some (bif decide (r = 61) then (0, 3) else (r, 0)) := by
 have hE0 : eab E0 gf (0, 0) = B ++ p :: A := by
  unfold eab
  rw [List.filter_eq_self.2 fun m _ => by simp]
  exact hE
 rcases ho with ⟨D, h1, h2, h3⟩ | ⟨h1, h2⟩
 ·obtain ⟨m, hm, hf⟩ := aVg hG hn D _ _ _ hE0 h2
  rcases hr with ⟨hr, hno⟩ | ⟨q, hr, hq, hf2, hmin⟩
  ·exact absurd hf (hno m)
  ·have h4 := aKl hP hG hn q _ _ _ hE0 hf2 hmin
   have a1 : ¬ q < D := fun hlt => h3 q hlt h4
   have a2 : ¬ m < q := fun hlt => hmin m hlt hf
   obtain rfl : q = D := by omega
   rw [h1, hr, decide_eq_false (by omega), cond_false]
 ·rcases hr with ⟨hr, hno⟩ | ⟨q, hr, hq, hf2, hmin⟩
  ·rw [h1, hr, decide_eq_true rfl, cond_true]
  ·exact absurd (aKl hP hG hn q _ _ _ hE0 hf2 hmin) (h2 q)
end
end Go.Am
end
section
namespace Go.Am
section
variable (f : aT) (L0 : aN) (i0 : Nat)
def gfL (L : aN) (m : Int) : Bool := (pl L m).guard
structure RU (n : Nat) (s : aK) (k : Nat × Nat) : Prop where
 sum : k.1 + k.2 = n
 lu : k.1 ≤ (Us (bF L0) (gfL L0)).length
 lg : k.2 ≤ (Gs (bF L0) (gfL L0)).length
 ex : ∃ L, StE f L s (i0 + n) ∧ L.frozen = false ∧ bF L = eab (bF L0) (gfL L0) k ∧ (∀ m, (pl L m).guard = gfL L0 m) ∧ plc L = plc L0 ∧ (∀ m, isE L.players m = true → wi m 0 999 = true ∧ (pl L m).wild = false) ∧ i0 + n ≤ 60
end
theorem aUy {L : aN} (h : L.frozen = false) : bD L = grd (gfL L) (plc L) L.Field.Guards [] (bF L) := by
 unfold bD
 rw [h, cond_false]
 exact aMw L (bF L) []
theorem aZy {f : aT} {L0 : aN} {i0 : Nat} (hi0 : i0 ≤ 20) {hour : Int} (hh : wi hour 0 9999 = true) (hz : hour ≤ f.Freeze) (hw : WF L0) (p : Int) :
  Sim f hour p (gfL L0) (RU f L0 i0) (mL (bF L0) (gfL L0) (plc L0) f.Guards) (xA (bF L0) (gfL L0) (plc L0) f.Guards) (szU (bF L0)) 39 := by
 have hn := pT hw
 have hin : ∀ {n s k}, RU f L0 i0 n s k → s.In = mL (bF L0) (gfL L0) (plc L0) f.Guards k := fun {n s k} h => by
  obtain ⟨L, hS, hf, hE, hg, hp, _, _⟩ := h.ex
  have e : gfL L = gfL L0 := funext hg
  rw [hS.inn, aUy hf, hE, hp, e, hS.good.fd]; rfl
 refine ⟨hin, fun {n s k} h => ?_, fun {n s k} h m hm => ?_, fun {n s k b} h hs m hm e => ?_, fun {n s k b k'} h hn2 hs => ?_, fun {n s k s' k'} h h2 he => aUk hn h.sum h2.sum ⟨h.lu, h.lg⟩ ⟨h2.lu, h2.lg⟩ he⟩
 ·obtain ⟨L, hS, _⟩ := h.ex
  rw [← hin h, hS.inn]
  have := nM hS.good
  omega
 ·obtain ⟨L, hS, hf, hE, hg, hp, hwd, hi⟩ := h.ex
  rw [← hin h, hS.inn] at hm
  obtain ⟨j, q, h1, h2, h3, h4⟩ := aWb hS hi (hS.ms m hm)
  exact ⟨j, q, h1, h2, h3, by rw [h4]; exact hg m⟩
 ·unfold xA at hs
  rw [if_pos (List.any_eq_true.2 ⟨m, hm, decide_eq_true e⟩)] at hs
  cases hs
 ·obtain ⟨L, hS, hf, hE, hg, hp, hwd, hi⟩ := h.ex
  obtain ⟨e, q, h1, h2, h3⟩ := aKs hn hs
  have hqm : q ∈ bD L := by rw [← hS.inn, hin h]; exact h2
  have hqE := hS.ms q hqm
  obtain ⟨s2, e2, hS2⟩ := aIi hS (by omega) hh (hwd q hqE).1 fun _ => hf
  have hfr : (cA L (gD hour q)).frozen = false := by
   rw [uQ, hf, hS.good.fd, Bool.false_or]
   exact decide_eq_false (by show ¬ f.Freeze < hour; omega)
  have hlen := aQm (E0 := bF L0) (gf := gfL L0)
  have hU : b = false → k.1 < (Us (bF L0) (gfL L0)).length := fun hb => by
   subst hb; exact (List.getElem?_eq_some_iff.1 h1).1
  have hGG : b = true → k.2 < (Gs (bF L0) (gfL L0)).length := fun hb => by
   subst hb; exact (List.getElem?_eq_some_iff.1 h1).1
  have h5 := h.sum
  have h6 := h.lu
  have h7 := h.lg
  refine ⟨q, s2, h3, e2, ⟨?_, ?_, ?_, cA L (gD hour q), hS2, hfr, ?_, fun m => (uH L hour q m).1.trans (hg m), (aGz (hwd q hqE).2).trans hp, fun m hm => ?_, by omega⟩, ?_⟩
  ·rw [e]; cases b <;> simp <;> omega
  ·rw [e]
   cases b with
   | false => have := hU rfl; simp; omega
   | true => simp; omega
  ·rw [e]
   cases b with
   | false => simp; omega
   | true => have := hGG rfl; simp; omega
  ·rw [aKk hS.good.wf hS2.good.wf, hE, e, uZ k b h1]
  ·rw [aCp, Bool.and_eq_true, Bool.not_eq_true', decide_eq_false_iff_not] at hm
   refine ⟨(hwd m hm.1).1, ?_⟩
   rw [aFm, decide_eq_false hm.2, cond_false]
   exact (hwd m hm.1).2
  ·rw [e]
   unfold szU
   cases b with
   | false => have := hU rfl; simp only [cond_false]; omega
   | true => have := hGG rfl; simp only [cond_true]; omega
theorem aCk {f : aT} {L : aN} {i : Nat} (h : gE f L i) : (bF L).length ≤ i := by
 unfold bF
 rw [(kB _ _).length_eq]
 unfold tV
 rw [List.length_map]
 exact Nat.le_trans (List.length_filter_le _ _) h.cn.pls
theorem aYw {f : aT} {L0 : aN} {s0 : aK} {i0 : Nat} (hS : StE f L0 s0 i0) (hi0 : i0 ≤ 20) {hour : Int} (hh : wi hour 0 9999 = true) (hz : hour ≤ f.Freeze) (hf : L0.frozen = false) (hwd : ∀ m, isE L0.players m = true → wi m 0 999 = true ∧ (pl L0 m).wild = false) {p : Int} (hp : p ∈ bF L0) :
  ∃ r, jI L0 p = some r ∧ cQ hour p f BIG [s0] 0 = some (bif decide (r = 61) then (0, 3) else (r, 0)) := by
 have hw := hS.good.wf
 have hn := pT hw
 have hl := aCk hS.good
 obtain ⟨B, A, hE⟩ := List.append_of_mem hp
 have hn2 := hn
 rw [hE] at hn2
 have hpB : p ∉ B := fun hm => (List.nodup_append.1 hn2).2.2 p hm p (by simp) rfl
 obtain ⟨r, e, hr⟩ := aRm hw p hE hpB
 refine ⟨r, e, ?_⟩
 have hR : RU f L0 i0 0 s0 (0, 0) := ⟨rfl, Nat.zero_le _, Nat.zero_le _, L0, hS, hf, by unfold eab; rw [List.filter_eq_self.2 fun m _ => by simp], fun m => rfl, rfl, hwd, by omega⟩
 have ho := aEm (aZy hi0 hh hz hw p) hR (by unfold szU; omega) (by unfold szU; omega)
 have hp2 := qA hw
 have hG := aMc hw
 rw [hS.good.fd] at hr hG
 exact aXg hp2.1 hG hn hE hr ho
end Go.Am
end
section
namespace Go.Am
section
variable (gf : Int → Bool) (P G : Int)
def elg (g : Nat) (n : Int) : Bool := !gf n || decide ((g : Int) < G)
def pY : Nat → List Int → List Int → List Int × List Int
 | 0, I, A => (I, A)
 | k + 1, I, A => if (I.length : Int) < P then (match A.find? (elg gf G (gC gf I)) with
  | none => (I, A)
  | some n => pY k (I ++ [n]) (A.filter fun m => !decide (m = n))) else (I, A)
def aCy (b : Bool) (k : List Int × List Int) : Option (List Int × List Int) := match k.1.find? (fun n => decide (gf n = b)) with
 | none => none
 | some q => some (pY gf P G 100 (k.1.filter fun m => !decide (m = q)) k.2)
end
def iT (L : aN) (I : List Int) : List Int := (bF L).filter fun n => (pl L n).signed && !decide (n ∈ I)
theorem aQt {L : aN} (I : List Int) : (bF L).find? (jO L I) = (iT L I).find? (elg (gfL L) L.Field.Guards (gC (gfL L) I)) := by
 unfold iT
 rw [List.find?_filter]
 congr 1
 funext n
 show jO L I n = _
 unfold jO elg
 rw [show gd L I = gC (gfL L) I from rfl]
 rw [Bool.eq_iff_iff]
 simp [gfL]
theorem aRh {L : aN} (I : List Int) (n : Int) : iT L (I ++ [n]) = (iT L I).filter fun m => !decide (m = n) := by
 unfold iT
 rw [List.filter_filter]
 refine List.filter_congr fun m _ => ?_
 by_cases h1 : m ∈ I <;> by_cases h2 : m = n <;> simp [h1, h2]
theorem aPj {L : aN} (first : List Int) : ∀ (k : Nat) (late : List Int), (first ++ iH L first k late, iT L (first ++ iH L first k late)) = pY (gfL L) (plc L) L.Field.Guards k (first ++ late) (iT L (first ++ late))
 | 0, late => rfl
 | k + 1, late => by
  rw [iH, pY]
  by_cases hp : ((first ++ late).length : Int) < plc L
  ·rw [decide_eq_true hp, cond_true, if_pos hp, aQt]
   cases (iT L (first ++ late)).find? (elg (gfL L) L.Field.Guards (gC (gfL L) (first ++ late))) with
   | none => rfl
   | some n =>
    have := aPj (L := L) first k (late ++ [n])
    rw [← List.append_assoc, aRh] at this
    exact this
  ·rw [decide_eq_false hp, cond_false, if_neg hp]
theorem aSw {f : aT} {L : aN} {i : Nat} (h : gE f L i) (hf : L.frozen = true) (hm : MS L) {hour q : Int} (hq : q ∈ bD L) (hw : (pl L q).wild = false) (h2 : WF (cA L (gD hour q))) :
  (bD (cA L (gD hour q)), iT (cA L (gD hour q)) (bD (cA L (gD hour q)))) = pY (gfL L) (plc L) L.Field.Guards 100 ((bD L).filter fun m => !decide (m = q)) (iT L (bD L)) := by
 have hfz : (bif decide (L.Field.Freeze < (gD hour q).Hour) then dT L else L) = L := by
  unfold dT
  rw [hf]
  cases decide (L.Field.Freeze < (gD hour q).Hour) <;> rfl
 have ht := kY L (gD hour q)
 have est : cA L (gD hour q) = kW (bK L (gD hour q)) := by
  unfold cA
  simp only
  rw [hfz, ht.2.1, hf, cond_true]
 generalize hL2 : bK L (gD hour q) = L2 at est ht
 have hpl : ∀ n, pl L2 n = pl (cA L (gD hour q)) n := fun n => by rw [est]; rfl
 have hE2 : bF L2 = bF (cA L (gD hour q)) := by rw [est]; rfl
 have hpc : plc L2 = plc (cA L (gD hour q)) := by rw [est]; rfl
 have hgf : gfL L2 = gfL L := funext fun n => by unfold gfL; rw [hpl]; exact (uH L hour q n).1
 have hfr2 : L2.frozen = true := ht.2.1.trans hf
 have hmain : bD L = L.first ++ L.late := by unfold bD; rw [hf]; rfl
 have hen := aKk h.wf h2
 have hmem : ∀ m ∈ bD L, isE L2.players m = !decide (m = q) := fun m hmm => by
  have := aCp L hour q m
  rw [hm m hmm, Bool.true_and] at this
  rw [← this, est]; rfl
 have hfilt : ∀ xs : List Int, (∀ x ∈ xs, x ∈ bD L) → xs.filter (fun n => isE L2.players n) = xs.filter fun m => !decide (m = q) := fun xs hx => List.filter_congr fun m hmm => hmem m (hx m hmm)
 have e1 : L2.first.filter (fun n => isE L2.players n) = L.first.filter fun m => !decide (m = q) := by
  rw [ht.2.2.1]; exact hfilt _ fun x hx => by rw [hmain]; simp [hx]
 have e2 : L2.late.filter (fun n => isE L2.players n) = L.late.filter fun m => !decide (m = q) := by
  rw [ht.2.2.2]; exact hfilt _ fun x hx => by rw [hmain]; simp [hx]
 have e3 : bD (cA L (gD hour q)) = (L.first.filter fun m => !decide (m = q)) ++ iH L2 (L.first.filter fun m => !decide (m = q)) 100 (L.late.filter fun m => !decide (m = q)) := by
  rw [est]
  unfold bD
  rw [show (kW L2).frozen = true from hfr2, cond_true, ← e1, ← e2]
  rfl
 have e4 : ∀ I, iT (cA L (gD hour q)) I = iT L2 I := fun I => by rw [est]; rfl
 rw [e4, e3]
 have k := aPj (L := L2) (L.first.filter fun m => !decide (m = q)) 100 (L.late.filter fun m => !decide (m = q))
 rw [k, hgf, hpc, aGz hw, ht.1, ← List.filter_append, ← hmain]
 congr 1
 unfold iT
 rw [hE2, hen, List.filter_filter]
 refine List.filter_congr fun m hmm => ?_
 rw [hpl, (uH L hour q m).2.2.2.2.1]
 by_cases e : m = q
 ·subst e
  simp [hq]
 ·have : m ∈ (bD L).filter (fun m => !decide (m = q)) ↔ m ∈ bD L := by simp [e]
  rw [show decide (m ∈ (bD L).filter fun m => !decide (m = q)) = decide (m ∈ bD L) from decide_eq_decide.2 this, decide_eq_false e]
  simp
end Go.Am
end
section
namespace Go.Am
theorem aTf {X : List Int} (hn : X.Nodup) {a p a2 p2 : Nat} (h1 : a ≤ p) (h2 : p ≤ X.length) (h3 : a2 ≤ p2) (h4 : p2 ≤ X.length) (he : (X.take p).drop a = (X.take p2).drop a2) : (a = a2 ∧ p = p2) ∨ (a = p ∧ a2 = p2) := by
 have hl := congrArg List.length he
 simp only [List.length_drop, List.length_take] at hl
 by_cases h : a < p
 ·left
  have hlt : a < ((X.take p).drop a).length + a := by simp; omega
  have g1 : ((X.take p).drop a)[0]? = some (X[a]'(by omega)) := by
   rw [List.getElem?_drop, Nat.add_zero, List.getElem?_take, if_pos h, List.getElem?_eq_getElem]
  have g2 : ((X.take p2).drop a2)[0]? = some (X[a2]'(by omega)) := by
   rw [List.getElem?_drop, Nat.add_zero, List.getElem?_take, if_pos (by omega), List.getElem?_eq_getElem]
  rw [he, g2] at g1
  have e : X[a2]'(by omega) = X[a]'(by omega) := by simpa using g1
  have : a2 = a := (List.getElem_inj hn).1 e
  omega
 ·right; omega
section
variable (I0 A0 : List Int) (gf : Int → Bool)
def HF (n : Nat) (I A : List Int) : Prop := ∃ a b m c, a + b = n ∧ (I.filter fun x => !gf x) = ((Us I0 gf ++ Us A0 gf).take ((Us I0 gf).length + m)).drop a ∧ I.filter gf = ((Gs I0 gf ++ Gs A0 gf).take ((Gs I0 gf).length + c)).drop b ∧
 A = eab A0 gf (m, c) ∧ m ≤ (Us A0 gf).length ∧ c ≤ (Gs A0 gf).length ∧ a ≤ (Us I0 gf).length + m ∧ b ≤ (Gs I0 gf).length + c
end
section
variable {I0 A0 : List Int} {gf : Int → Bool} {P G : Int}
theorem aYh (hn : (I0 ++ A0).Nodup) {n : Nat} {I A A2 : List Int} (h : HF I0 A0 gf n I A) (h2 : HF I0 A0 gf n I A2) : A = A2 ∨ I = [] := by
 obtain ⟨a, b, m, c, e1, e2, e3, e4, e5, e6, e7, e8⟩ := h
 obtain ⟨a', b', m', c', d1, d2, d3, d4, d5, d6, d7, d8⟩ := h2
 have nU : (Us I0 gf ++ Us A0 gf).Nodup := by
  unfold Us
  rw [← List.filter_append]; exact hn.filter _
 have nG : (Gs I0 gf ++ Gs A0 gf).Nodup := by
  unfold Gs
  rw [← List.filter_append]; exact hn.filter _
 have sU := aTf nU e7 (by rw [List.length_append]; omega) d7 (by rw [List.length_append]; omega) (e2.symm.trans d2)
 have sG := aTf nG e8 (by rw [List.length_append]; omega) d8 (by rw [List.length_append]; omega) (e3.symm.trans d3)
 by_cases hI : I = []
 ·exact .inr hI
 ·left
  have hmc : m = m' ∧ c = c' := by
   rcases sU with ⟨x1, x2⟩ | ⟨x1, x2⟩ <;> rcases sG with ⟨y1, y2⟩ | ⟨y1, y2⟩
   ·omega
   ·omega
   ·omega
   ·exfalso
    apply hI
    rw [x1, List.drop_eq_nil_of_le (by rw [List.length_take]; omega)] at e2
    rw [y1, List.drop_eq_nil_of_le (by rw [List.length_take]; omega)] at e3
    rw [List.eq_nil_iff_forall_not_mem]
    intro x hx
    cases hg : gf x with
    | true => have : x ∈ I.filter gf := List.mem_filter.2 ⟨hx, hg⟩; rw [e3] at this; simp at this
    | false => have : x ∈ I.filter (fun x => !gf x) := List.mem_filter.2 ⟨hx, by simp [hg]⟩; rw [e2] at this; simp at this
  rw [e4, d4, hmc.1, hmc.2]
theorem aAk (Q : List Int → List Int → Prop) (hst : ∀ I A x, Q I A → A.find? (elg gf G (gC gf I)) = some x → Q (I ++ [x]) (A.filter fun m => !decide (m = x))) : ∀ (k : Nat) (I A : List Int), Q I A → Q (pY gf P G k I A).1 (pY gf P G k I A).2
 | 0, _, _, h => h
 | k + 1, I, A, h => by
  rw [pY]
  by_cases hp : (I.length : Int) < P
  ·rw [if_pos hp]
   cases hf : A.find? (elg gf G (gC gf I)) with
   | none => exact h
   | some x => exact aAk Q hst k _ _ (hst I A x h hf)
  ·rw [if_neg hp]; exact h
theorem aDw (hn : A0.Nodup) {m c g : Nat} {x : Int} (h : (eab A0 gf (m, c)).find? (elg gf G g) = some x) : (gf x = false → (Us A0 gf)[m]? = some x) ∧ (gf x = true → (Gs A0 gf)[c]? = some x) := by
 have hx := List.find?_some h
 have key : ∀ {q q2 : Int → Bool} {xs : List Int}, xs.find? q = some x → q2 x = true → (∀ y ∈ xs, q2 y = true → q y = true) → xs.find? q2 = some x := by
  intro q q2 xs
  induction xs with
  | nil => intro h; simp at h
  | cons a t ih =>
   intro h h2 h3
   rw [List.find?_cons] at h ⊢
   cases hq2 : q2 a with
   | true =>
    rw [h3 a (by simp) hq2] at h
    exact h
   | false =>
    cases hq : q a with
    | true =>
     rw [hq] at h
     obtain rfl : a = x := by simpa using h
     rw [h2] at hq2; cases hq2
    | false => rw [hq] at h; exact ih h h2 fun y hy => h3 y (by simp [hy])
 constructor
 ·intro hg
  have := key (q2 := fun n => decide (gf n = false)) h (decide_eq_true hg) fun y _ hy => by
   unfold elg; rw [decide_eq_true_eq] at hy; rw [hy]; rfl
  rw [aAh hn] at this
  exact this
 ·intro hg
  have hlt : decide ((g : Int) < G) = true := by
   unfold elg at hx
   rw [hg] at hx
   simpa using hx
  have := key (q2 := fun n => decide (gf n = true)) h (decide_eq_true hg) fun y _ hy => by
   unfold elg; rw [hlt, Bool.or_true]
  rw [aAh hn] at this
  exact this
theorem aWj (hn : (I0 ++ A0).Nodup) {n : Nat} {I A : List Int} (k : Nat) (h : HF I0 A0 gf n I A) : HF I0 A0 gf n (pY gf P G k I A).1 (pY gf P G k I A).2 := by
 refine aAk (HF I0 A0 gf n) (fun I A x hQ hf => ?_) k I A h
 obtain ⟨a, b, m, c, e1, e2, e3, e4, e5, e6, e7, e8⟩ := hQ
 subst e4
 have hA := (List.nodup_append.1 hn).2.1
 have hx := aDw hA hf
 cases hg : gf x with
 | false =>
  have hm := hx.1 hg
  have hlt := (List.getElem?_eq_some_iff.1 hm).1
  refine ⟨a, b, m + 1, c, e1, ?_, ?_, ?_, by omega, e6, by omega, e8⟩
  ·rw [List.filter_append, e2, List.filter_cons_of_pos (by simp [hg]), List.filter_nil, ← Nat.add_assoc, List.take_succ_eq_append_getElem (by rw [List.length_append]; omega)]
   rw [List.drop_append_of_le_length (by rw [List.length_take, List.length_append]; omega)]
   congr 2
   rw [List.getElem_append_right (by omega)]
   have := (List.getElem?_eq_some_iff.1 hm).2
   simp only [Nat.add_sub_cancel_left]
   exact this.symm
  ·rw [List.filter_append, e3, List.filter_cons_of_neg (by simp [hg]), List.filter_nil, List.append_nil]
  ·exact (uZ (E0 := A0) (gf := gf) (m, c) false hm).symm
 | true =>
  have hm := hx.2 hg
  have hlt := (List.getElem?_eq_some_iff.1 hm).1
  refine ⟨a, b, m, c + 1, e1, ?_, ?_, ?_, e5, by omega, e7, by omega⟩
  ·rw [List.filter_append, e2, List.filter_cons_of_neg (by simp [hg]), List.filter_nil, List.append_nil]
  ·rw [List.filter_append, e3, List.filter_cons_of_pos (by simp [hg]), List.filter_nil, ← Nat.add_assoc, List.take_succ_eq_append_getElem (by rw [List.length_append]; omega)]
   rw [List.drop_append_of_le_length (by rw [List.length_take, List.length_append]; omega)]
   congr 2
   rw [List.getElem_append_right (by omega)]
   have := (List.getElem?_eq_some_iff.1 hm).2
   simp only [Nat.add_sub_cancel_left]
   exact this.symm
  ·exact (uZ (E0 := A0) (gf := gf) (m, c) true hm).symm
theorem aFy {xs : List Int} (hn : xs.Nodup) {q : Int} (h : xs.head? = some q) : (xs.filter fun m => !decide (m = q)) = xs.drop 1 := by
 cases xs with
 | nil => simp at h
 | cons a t =>
  obtain rfl : a = q := by simpa using h
  have h1 := List.nodup_cons.1 hn
  rw [List.filter_cons_of_neg (by simp), List.filter_eq_self.2 fun m hm => by simp; rintro rfl; exact h1.1 hm]
  rfl
theorem aWl {n : Nat} {I A : List Int} (hI : I.Nodup) (h : HF I0 A0 gf n I A) {b : Bool} {q : Int} (hq : I.find? (fun n => decide (gf n = b)) = some q) : HF I0 A0 gf (n + 1) (I.filter fun m => !decide (m = q)) A := by
 obtain ⟨a, b', m, c, e1, e2, e3, e4, e5, e6, e7, e8⟩ := h
 rw [aJy] at hq
 have hgq : gf q = b := by
  have := List.mem_of_mem_head? (show q ∈ (I.filter fun n => decide (gf n = b)).head? from hq)
  simpa using (List.mem_filter.1 this).2
 have cm : ∀ p : Int → Bool, ((I.filter fun m => !decide (m = q)).filter p) = (I.filter p).filter fun m => !decide (m = q) := fun p => by
  rw [List.filter_filter, List.filter_filter]
  exact List.filter_congr fun m _ => Bool.and_comm _ _
 cases b with
 | false =>
  rw [show (I.filter fun n => decide (gf n = false)) = I.filter (fun n => !gf n) from List.filter_congr fun a _ => by cases gf a <;> rfl] at hq
  have hpos : a < (Us I0 gf).length + m := by
   have hl := congrArg List.length e2
   rw [List.length_drop, List.length_take] at hl
   have : 0 < (I.filter fun n => !gf n).length := by
    cases hx : I.filter (fun n => !gf n) with
    | nil => rw [hx] at hq; simp at hq
    | cons _ _ => simp
   omega
  refine ⟨a + 1, b', m, c, by omega, ?_, ?_, e4, e5, e6, by omega, e8⟩
  ·rw [cm, aFy (hI.filter _) hq, e2, List.drop_drop]
  ·rw [cm, List.filter_eq_self.2 fun x hx => ?_, e3]
   have := (List.mem_filter.1 hx).2
   simp only [Bool.not_eq_true', decide_eq_false_iff_not]
   rintro rfl
   rw [hgq] at this; cases this
 | true =>
  rw [show (I.filter fun n => decide (gf n = true)) = I.filter gf from List.filter_congr fun a _ => by cases gf a <;> rfl] at hq
  have hpos : b' < (Gs I0 gf).length + c := by
   have hl := congrArg List.length e3
   rw [List.length_drop, List.length_take] at hl
   have : 0 < (I.filter gf).length := by
    cases hx : I.filter gf with
    | nil => rw [hx] at hq; simp at hq
    | cons _ _ => simp
   omega
  refine ⟨a, b' + 1, m, c, by omega, ?_, ?_, e4, e5, e6, e7, by omega⟩
  ·rw [cm, List.filter_eq_self.2 fun x hx => ?_, e2]
   have := (List.mem_filter.1 hx).2
   simp only [Bool.not_eq_true', decide_eq_false_iff_not]
   rintro rfl
   rw [hgq] at this; cases this
  ·rw [cm, aFy (hI.filter _) hq, e3, List.drop_drop]
theorem aWk : HF I0 A0 gf 0 I0 A0 := by
 refine ⟨0, 0, 0, 0, rfl, ?_, ?_, ?_, Nat.zero_le _, Nat.zero_le _, Nat.zero_le _, Nat.zero_le _⟩
 ·rw [Nat.add_zero, List.take_left, List.drop_zero]; rfl
 ·rw [Nat.add_zero, List.take_left, List.drop_zero]; rfl
 ·unfold eab
  rw [List.filter_eq_self.2 fun m _ => by simp]
theorem aSe (k : Nat) (I A : List Int) (hA : A.Nodup) : (pY gf P G k I A).1.length + (pY gf P G k I A).2.length = I.length + A.length := by
 have := aAk (gf := gf) (P := P) (G := G) (fun I2 A2 => A2.Nodup ∧ I2.length + A2.length = I.length + A.length) (fun I2 A2 x h hf => by
  have := aAl h.1 (List.mem_of_find?_eq_some hf)
  exact ⟨h.1.filter _, by rw [List.length_append, List.length_singleton]; omega⟩) k I A ⟨hA, rfl⟩
 exact this.2
end
section
variable (f : aT) (L0 : aN) (i0 : Nat)
structure RF (n : Nat) (s : aK) (k : List Int × List Int) : Prop where
 hf : HF (bD L0) (iT L0 (bD L0)) (gfL L0) n k.1 k.2
 ex : ∃ L, StE f L s (i0 + n) ∧ L.frozen = true ∧ bD L = k.1 ∧ iT L (bD L) = k.2 ∧ (∀ m, (pl L m).guard = gfL L0 m) ∧ plc L = plc L0 ∧ (∀ m, isE L.players m = true → wi m 0 999 = true ∧ (pl L m).wild = false) ∧ i0 + n ≤ 60
end
theorem aBm {f : aT} {L : aN} {s : aK} {i : Nat} (h : StE f L s i) : (bD L ++ iT L (bD L)).Nodup := by
 refine List.nodup_append.2 ⟨h.pk.nd, (pT h.good.wf).filter _, fun a ha b hb e => ?_⟩
 subst e
 have := (List.mem_filter.1 hb).2
 simp [ha] at this
theorem aZx {f : aT} {L0 : aN} {s0 : aK} {i0 : Nat} (h0 : StE f L0 s0 i0) (hi0 : i0 ≤ 20) {hour : Int} (hh : wi hour 0 9999 = true) (hz : f.Freeze < hour) (p : Int) :
  Sim f hour p (gfL L0) (RF f L0 i0) Prod.fst (aCy (gfL L0) (plc L0) f.Guards) (fun k => k.1.length + k.2.length) 39 := by
 have hn0 := aBm h0
 have hin : ∀ {n s k}, RF f L0 i0 n s k → s.In = k.1 := fun {n s k} h => by
  obtain ⟨L, hS, hf, hE, _⟩ := h.ex
  rw [hS.inn, hE]
 refine ⟨hin, fun {n s k} h => ?_, fun {n s k} h m hm => ?_, fun {n s k b} h hs m hm e => ?_, fun {n s k b k'} h hn2 hs => ?_, fun {n s k s' k'} h h2 he => ?_⟩
 ·obtain ⟨L, hS, _, hE, _⟩ := h.ex
  rw [← hE]
  have := nM hS.good
  omega
 ·obtain ⟨L, hS, hf, hE, hA, hg, hp, hwd, hi⟩ := h.ex
  rw [← hE] at hm
  obtain ⟨j, q, h1, h2, h3, h4⟩ := aWb hS hi (hS.ms m hm)
  exact ⟨j, q, h1, h2, h3, by rw [h4]; exact hg m⟩
 ·unfold aCy at hs
  cases hf : k.1.find? (fun n => decide (gfL L0 n = b)) with
  | none => exact absurd (decide_eq_true e) (List.find?_eq_none.1 hf m hm)
  | some q => rw [hf] at hs; cases hs
 ·obtain ⟨L, hS, hf, hE, hA, hg, hp, hwd, hi⟩ := h.ex
  unfold aCy at hs
  cases hfd : k.1.find? (fun n => decide (gfL L0 n = b)) with
  | none => rw [hfd] at hs; cases hs
  | some q =>
   rw [hfd] at hs
   have hk' : pY (gfL L0) (plc L0) f.Guards 100 (k.1.filter fun m => !decide (m = q)) k.2 = k' := by simpa using hs
   have hqm : q ∈ bD L := by rw [hE]; exact List.mem_of_find?_eq_some hfd
   have hqE := hS.ms q hqm
   obtain ⟨s2, e2, hS2⟩ := aIi hS (by omega) hh (hwd q hqE).1 fun hle => by omega
   have hfr : (cA L (gD hour q)).frozen = true := by rw [uQ, hf]; rfl
   have hgf : gfL L = gfL L0 := funext hg
   have hqf := aSw hS.good hf hS.ms hqm (hwd q hqE).2 hS2.good.wf
   rw [hgf, hp, hS.good.fd, hE, ← hE, hA, hE, hk'] at hqf
   have hnd : k.1.Nodup := by rw [← hE]; exact hS.pk.nd
   have hnA : k.2.Nodup := by rw [← hA]; exact (pT hS.good.wf).filter _
   refine ⟨q, s2, rfl, e2, ⟨?_, cA L (gD hour q), hS2, hfr, by rw [← hqf], by rw [← hqf], fun m => (uH L hour q m).1.trans (hg m), (aGz (hwd q hqE).2).trans hp, fun m hm => ?_, by omega⟩, ?_⟩
   ·rw [← hk']
    exact aWj hn0 100 (aWl hnd h.hf hfd)
   ·rw [aCp, Bool.and_eq_true, Bool.not_eq_true', decide_eq_false_iff_not] at hm
    refine ⟨(hwd m hm.1).1, ?_⟩
    rw [aFm, decide_eq_false hm.2, cond_false]
    exact (hwd m hm.1).2
   ·show k'.1.length + k'.2.length < k.1.length + k.2.length
    rw [← hk', aSe 100 _ _ hnA]
    have := aAl hnd (List.mem_of_find?_eq_some hfd)
    omega
 ·have h1 := h.hf
  have h3 := h2.hf
  rw [← he] at h3
  rcases aYh hn0 h1 h3 with e | e
  ·exact .inl (Prod.ext he e)
  ·right
   have dd : ∀ k : List Int × List Int, k.1 = [] → aGo Prod.fst (aCy (gfL L0) (plc L0) f.Guards) p k := fun k hk => by
    refine ⟨by rw [hk]; simp, ?_, ?_⟩ <;> (unfold aCy; rw [hk]; rfl)
   exact ⟨dd k e, dd k' (he ▸ e)⟩
end Go.Am
end
section
namespace Go.Am
structure Spt where
 u : Nat
 g : Nat
 m : Nat
 c : Nat
def Spt.e (x : Spt) : aX := aX.mk (x.u : Int) (x.g : Int) (x.m : Int) (x.c : Int)
section
variable (A0 : List Int) (gf : Int → Bool) (P G p : Int)
def lQ : Nat → Spt → Option Spt
 | 0, s => some s
 | k + 1, s => if (s.u : Int) + s.g < P then (match (eab A0 gf (s.m, s.c)).find? (elg gf G s.g) with
  | none => some s
  | some n => if n = p then none else if gf n = true then lQ k ⟨s.u, s.g + 1, s.m, s.c + 1⟩ else lQ k ⟨s.u + 1, s.g, s.m + 1, s.c⟩) else some s
end
section
variable {A0 : List Int} {gf : Int → Bool} {P G p : Int}
theorem aZu (j : Nat) (hj : j < A0.length) (hg : gf A0[j] = false) : (Us A0 gf)[uC gf (A0.take j)]? = some A0[j] := by
 have e : Us A0 gf = (A0.take j).filter (fun n => !gf n) ++ A0[j] :: (A0.drop (j + 1)).filter (fun n => !gf n) := by
  unfold Us
  conv => lhs; rw [← List.take_append_drop j A0, List.drop_eq_getElem_cons hj, List.filter_append, List.filter_cons_of_pos (by simp [hg])]
 rw [e]
 unfold uC
 rw [List.getElem?_append_right (Nat.le_refl _), Nat.sub_self]; rfl
theorem aZt (j : Nat) (hj : j < A0.length) (hg : gf A0[j] = true) : (Gs A0 gf)[gC gf (A0.take j)]? = some A0[j] := by
 have e : Gs A0 gf = (A0.take j).filter gf ++ A0[j] :: (A0.drop (j + 1)).filter gf := by
  unfold Gs
  conv => lhs; rw [← List.take_append_drop j A0, List.drop_eq_getElem_cons hj, List.filter_append, List.filter_cons_of_pos (by simp [hg])]
 rw [e]
 unfold gC
 rw [List.getElem?_append_right (Nat.le_refl _), Nat.sub_self]; rfl
theorem aGe {xs : List Int} (hn : xs.Nodup) {i m : Nat} {x : Int} (h : xs[i]? = some x) : x ∈ xs.take m ↔ i < m := by
 obtain ⟨hi, he⟩ := List.getElem?_eq_some_iff.1 h
 constructor
 ·intro hm
  obtain ⟨j, hj, hje⟩ := List.mem_take_iff_getElem.1 hm
  have : j = i := (List.getElem_inj hn).1 (hje.trans he.symm)
  omega
 ·intro hlt
  exact List.mem_take_iff_getElem.2 ⟨i, by omega, he⟩
theorem aYn (hn : A0.Nodup) (j : Nat) (hj : j < A0.length) (m c : Nat) : (!decide (A0[j] ∈ (Us A0 gf).take m) && !decide (A0[j] ∈ (Gs A0 gf).take c)) = bif gf A0[j] then decide (c ≤ gC gf (A0.take j)) else decide (m ≤ uC gf (A0.take j)) := by
 cases hg : gf A0[j] with
 | true =>
  have h1 : A0[j] ∉ (Us A0 gf).take m := fun hm => by
   have := (List.mem_filter.1 (List.mem_of_mem_take hm)).2
   rw [hg] at this; cases this
  have h2 := aGe (m := c) (hn.filter gf) (aZt j hj hg)
  rw [decide_eq_false h1, cond_true, Bool.not_false, Bool.true_and, Bool.eq_iff_iff, Bool.not_eq_true', decide_eq_false_iff_not, decide_eq_true_eq]
  show ¬ A0[j] ∈ (A0.filter gf).take c ↔ _
  rw [h2]; omega
 | false =>
  have h1 : A0[j] ∉ (Gs A0 gf).take c := fun hm => by
   have := (List.mem_filter.1 (List.mem_of_mem_take hm)).2
   rw [hg] at this; cases this
  have h2 := aGe (m := m) (hn.filter fun n => !gf n) (aZu j hj hg)
  rw [decide_eq_false h1, cond_false, Bool.not_false, Bool.and_true, Bool.eq_iff_iff, Bool.not_eq_true', decide_eq_false_iff_not, decide_eq_true_eq]
  show ¬ A0[j] ∈ (A0.filter fun n => !gf n).take m ↔ _
  rw [h2]; omega
theorem aYc (j : Nat) (hj : j < A0.length) : uC gf (A0.take (j + 1)) = uC gf (A0.take j) + (if gf A0[j] then 0 else 1) ∧ gC gf (A0.take (j + 1)) = gC gf (A0.take j) + (if gf A0[j] then 1 else 0) := by
 rw [List.take_succ_eq_append_getElem hj, aAb, tQ, aAc, tR]
 exact ⟨rfl, rfl⟩
end
theorem aXi {L : aN} (again : aX → aX → Option (aX × Bool)) (A0 : List Int) (hn : A0.Nodup) (hl : A0.length ≤ 60) (p : Int) (s : Spt) (hs : s.u ≤ 1000 ∧ s.g ≤ 1000 ∧ s.m ≤ 1000 ∧ s.c ≤ 1000) (nx : aX) :
  eJ again L A0 p A0 (A0.length : Int) BIG 0 0 false 0 s.e nx = (match (eab A0 (gfL L) (s.m, s.c)).find? (elg (gfL L) L.Field.Guards s.g) with
   | none => some (s.e, false)
   | some n => if n = p then some (s.e, true) else if gfL L n = true then again (Spt.e ⟨s.u, s.g + 1, s.m, s.c + 1⟩) nx else again (Spt.e ⟨s.u + 1, s.g, s.m + 1, s.c⟩) nx) := by
 refine pZ (S := Int × Int) (fun k j x => eJ again L A0 p A0 (A0.length : Int) k x.1 x.2 false j s.e nx) A0.length (fun r => r = (match (eab A0 (gfL L) (s.m, s.c)).find? (elg (gfL L) L.Field.Guards s.g) with
   | none => some (s.e, false)
   | some n => if n = p then some (s.e, true) else if gfL L n = true then again (Spt.e ⟨s.u, s.g + 1, s.m, s.c + 1⟩) nx else again (Spt.e ⟨s.u + 1, s.g, s.m + 1, s.c⟩) nx)) (fun j x => j ≤ A0.length ∧ x.1 = ((min (uC (gfL L) (A0.take j)) s.m : Nat) : Int) ∧ x.2 = ((min (gC (gfL L) (A0.take j)) s.c : Nat) : Int) ∧ (eab A0 (gfL L) (s.m, s.c)) = ((A0.take j).filter fun m => !decide (m ∈ (Us A0 (gfL L)).take s.m) && !decide (m ∈ (Gs A0 (gfL L)).take s.c)) ++ ((A0.drop j).filter fun m => !decide (m ∈ (Us A0 (gfL L)).take s.m) && !decide (m ∈ (Gs A0 (gfL L)).take s.c)) ∧ ∀ m ∈ ((A0.take j).filter fun m => !decide (m ∈ (Us A0 (gfL L)).take s.m) && !decide (m ∈ (Gs A0 (gfL L)).take s.c)), elg (gfL L) L.Field.Guards s.g m = false)
  (fun k j x hj hI ih => ?_) (fun k j x hj hI => ?_) BIG 0 (0, 0) (dP (by omega)) ⟨by omega, by simp [uC], by simp [gC], by simp [eab], by simp⟩
 ·obtain ⟨h1, h2, h3, h4, h5⟩ := hI
  have hat := aYn (gf := gfL L) hn j hj s.m s.c
  have hut := aYc (gf := gfL L) j hj
  have hdr := List.drop_eq_getElem_cons hj
  have hul : uC (gfL L) (A0.take j) + gC (gfL L) (A0.take j) = (A0.take j).length := yU (gf := gfL L) _
  have htl := List.length_take_le j A0
  have hpre : ∀ P2 : Int → Bool, P2 A0[j] = true → (((A0.take j).filter P2) ++ ((A0.drop j).filter P2)) = (A0.take j).filter P2 ++ A0[j] :: (A0.drop (j + 1)).filter P2 := fun P2 hP => by rw [hdr, List.filter_cons_of_pos hP]
  have hnext : ∀ P2 : Int → Bool, (((A0.take j).filter P2) ++ ((A0.drop j).filter P2)) = (A0.take (j + 1)).filter P2 ++ (A0.drop (j + 1)).filter P2 := fun P2 => by
   rw [hdr, List.take_succ_eq_append_getElem hj, List.filter_append, List.append_assoc]
   congr 1
   cases hp2 : P2 A0[j]
   ·rw [List.filter_cons_of_neg (by simp [hp2]), List.filter_cons_of_neg (by simp [hp2]), List.filter_nil, List.nil_append]
   ·rw [List.filter_cons_of_pos hp2, List.filter_cons_of_pos hp2, List.filter_nil, List.singleton_append]
  have hmem : ∀ {Q : Int → Bool} {m : Int}, m ∈ (A0.take (j + 1)).filter Q → m ∈ (A0.take j).filter Q ∨ (m = A0[j] ∧ Q A0[j] = true) := fun {Q m} hm => by
   rw [List.take_succ_eq_append_getElem hj, List.filter_append] at hm
   rcases List.mem_append.1 hm with hm | hm
   ·exact .inl hm
   ·have := List.mem_filter.1 hm
    have e := List.mem_singleton.1 this.1
    exact .inr ⟨e, e ▸ this.2⟩
  simp only [eJ, show decide ((j : Int) < (A0.length : Int)) = true from decide_eq_true (by omega), cond_true, dA hj, Option.bind_some, aBo, kZ, cF (show j < 9223372036854775807 by omega)]
  have hgg : (pl L A0[j]).guard = gfL L A0[j] := rfl
  rw [hgg]
  cases hg : gfL L A0[j] with
  | true =>
   rw [hg] at hat hut
   rw [cond_true] at hat
   rw [if_pos rfl, if_pos rfl] at hut
   by_cases hc : gC (gfL L) (A0.take j) < s.c
   ·rw [show (true && decide (x.2 < s.e.covered)) = true by rw [h3, Bool.true_and]; exact decide_eq_true (by show ((min (gC (gfL L) (A0.take j)) s.c : Nat) : Int) < (s.c : Int); omega), cond_true, dD (by rw [h3]; omega) (by rw [h3]; omega)]
    refine ih (x.1, x.2 + 1) ⟨by omega, by rw [h2, hut.1]; rfl, by rw [h3, hut.2]; omega, by rw [h4, hnext], fun m hm => ?_⟩
    rcases hmem hm with hm | ⟨_, hm⟩
    ·exact h5 m hm
    ·rw [hat, decide_eq_false (by omega)] at hm; cases hm
   ·rw [show (true && decide (x.2 < s.e.covered)) = false by rw [h3, Bool.true_and]; exact decide_eq_false (by show ¬ ((min (gC (gfL L) (A0.take j)) s.c : Nat) : Int) < (s.c : Int); omega), cond_false, Bool.not_true, Bool.false_and, cond_false, Bool.true_and]
    rw [decide_eq_true (show s.c ≤ gC (gfL L) (A0.take j) by omega)] at hat
    by_cases hG : L.Field.Guards ≤ (s.g : Int)
    ·rw [show decide (L.Field.Guards ≤ s.e.guarded) = true from decide_eq_true hG, cond_true]
     refine ih x ⟨by omega, by rw [h2, hut.1]; rfl, by rw [h3, hut.2]; omega, by rw [h4, hnext], fun m hm => ?_⟩
     rcases hmem hm with hm | ⟨e, hm⟩
     ·exact h5 m hm
     ·rw [e]
      unfold elg
      rw [hg, decide_eq_false (by omega)]; rfl
    ·rw [show decide (L.Field.Guards ≤ s.e.guarded) = false from decide_eq_false hG, cond_false]
     have hf : (eab A0 (gfL L) (s.m, s.c)).find? (elg (gfL L) L.Field.Guards s.g) = some A0[j] := by
      rw [h4, hpre (fun m => !decide (m ∈ (Us A0 (gfL L)).take s.m) && !decide (m ∈ (Gs A0 (gfL L)).take s.c)) hat, List.find?_append, List.find?_eq_none.2 fun m hm => by rw [h5 m hm]; simp, Option.none_or, List.find?_cons]
      have : elg (gfL L) L.Field.Guards s.g A0[j] = true := by unfold elg; rw [hg, decide_eq_true (by omega)]; rfl
      rw [this]
     rw [hf]
     simp only
     by_cases hp : A0[j] = p
     ·rw [decide_eq_true hp, cond_true, if_pos hp]
     ·rw [decide_eq_false hp, cond_false, if_neg hp, if_pos hg]
      simp only [cond_true, fA, Bool.not_true, cond_false, jF]
      show again (aX.mk (s.u : Int) (w64 ((s.g : Int) + 1)) (s.m : Int) (w64 ((s.c : Int) + 1))) nx = _
      rw [cF (by omega), cF (by omega)]; rfl
  | false =>
   rw [hg] at hat hut
   rw [cond_false] at hat
   rw [if_neg (by simp), if_neg (by simp)] at hut
   rw [Bool.false_and, cond_false, Bool.not_false, Bool.true_and]
   by_cases hc : uC (gfL L) (A0.take j) < s.m
   ·rw [show decide (x.1 < s.e.moved) = true by rw [h2]; exact decide_eq_true (by show ((min (uC (gfL L) (A0.take j)) s.m : Nat) : Int) < (s.m : Int); omega), cond_true, dD (by rw [h2]; omega) (by rw [h2]; omega)]
    refine ih (x.1 + 1, x.2) ⟨by omega, by rw [h2, hut.1]; omega, by rw [h3, hut.2]; rfl, by rw [h4, hnext], fun m hm => ?_⟩
    rcases hmem hm with hm | ⟨_, hm⟩
    ·exact h5 m hm
    ·rw [hat, decide_eq_false (by omega)] at hm; cases hm
   ·rw [show decide (x.1 < s.e.moved) = false by rw [h2]; exact decide_eq_false (by show ¬ ((min (uC (gfL L) (A0.take j)) s.m : Nat) : Int) < (s.m : Int); omega), cond_false, Bool.false_and, cond_false]
    rw [decide_eq_true (show s.m ≤ uC (gfL L) (A0.take j) by omega)] at hat
    have hf : (eab A0 (gfL L) (s.m, s.c)).find? (elg (gfL L) L.Field.Guards s.g) = some A0[j] := by
     rw [h4, hpre (fun m => !decide (m ∈ (Us A0 (gfL L)).take s.m) && !decide (m ∈ (Gs A0 (gfL L)).take s.c)) hat, List.find?_append, List.find?_eq_none.2 fun m hm => by rw [h5 m hm]; simp, Option.none_or, List.find?_cons]
     have : elg (gfL L) L.Field.Guards s.g A0[j] = true := by unfold elg; rw [hg]; rfl
     rw [this]
    rw [hf]
    simp only
    by_cases hp : A0[j] = p
    ·rw [decide_eq_true hp, cond_true, if_pos hp]
    ·rw [decide_eq_false hp, cond_false, if_neg hp, if_neg (by rw [hg]; simp)]
     simp only [cond_false, fA, Bool.not_true, jF]
     show again (aX.mk (w64 ((s.u : Int) + 1)) (s.g : Int) (w64 ((s.m : Int) + 1)) (s.c : Int)) nx = _
     rw [cF (by omega), cF (by omega)]; rfl
 ·obtain ⟨h1, h2, h3, h4, h5⟩ := hI
  obtain rfl : j = A0.length := by omega
  rw [List.take_length, List.drop_length, List.filter_nil, List.append_nil] at h4
  rw [List.take_length] at h5
  simp only [eJ, show decide ((A0.length : Int) < (A0.length : Int)) = false from decide_eq_false (by omega), cond_false, fA, Bool.not_false, cond_true]
  rw [List.find?_eq_none.2 fun m hm => by rw [h5 m (h4 ▸ hm)]; simp]
theorem aWt {L : aN} (h : WF L) (A0 : List Int) (hn : A0.Nodup) (hl : A0.length ≤ 60) (p : Int) : ∀ (d k K : Nat) (s : Spt), (plc L - ((s.u : Int) + s.g)).toNat ≤ d → d < K → d ≤ k → (s.u + s.g ≤ 500 ∧ s.m ≤ 500 ∧ s.c ≤ 500 ∧ s.m + s.c + d ≤ 500) → ∀ nx,
  (match lQ A0 (gfL L) (plc L) L.Field.Guards p k s with
   | none => ∃ s2, fB L A0 p K s.e nx = some (s2, true)
   | some s2 => fB L A0 p K s.e nx = some (s2.e, false)) := by
 have hp := qA h
 intro d
 induction d with
 | zero =>
  intro k K s hd hK hk hb nx
  obtain ⟨K, rfl⟩ : ∃ q, K = q + 1 := ⟨K - 1, by omega⟩
  have hge : ¬ (s.u : Int) + s.g < plc L := by omega
  have hf : lQ A0 (gfL L) (plc L) L.Field.Guards p k s = some s := by
   cases k with
   | zero => rfl
   | succ k => rw [lQ, if_neg hge]
  rw [hf]
  simp only [fB, tU h, Option.bind_some]
  rw [show decide (w64 (s.e.free + s.e.guarded) < plc L) = false by
   show decide (w64 ((s.u : Int) + (s.g : Int)) < plc L) = false
   rw [dD (by omega) (by omega)]; exact decide_eq_false hge]
  rfl
 | succ d ih =>
  intro k K s hd hK hk hb nx
  obtain ⟨K, rfl⟩ : ∃ q, K = q + 1 := ⟨K - 1, by omega⟩
  obtain ⟨k, rfl⟩ : ∃ q, k = q + 1 := ⟨k - 1, by omega⟩
  rw [lQ]
  simp only [fB, tU h, Option.bind_some]
  have hww : w64 (s.e.free + s.e.guarded) = (s.u : Int) + s.g := by
   show w64 ((s.u : Int) + (s.g : Int)) = _
   exact dD (by omega) (by omega)
  rw [hww]
  by_cases hlt : (s.u : Int) + s.g < plc L
  ·rw [if_pos hlt, decide_eq_true hlt, cond_true, aXi _ A0 hn hl p s (by omega) nx]
   cases hf : (eab A0 (gfL L) (s.m, s.c)).find? (elg (gfL L) L.Field.Guards s.g) with
   | none => rfl
   | some n =>
    simp only
    by_cases hnp : n = p
    ·rw [if_pos hnp, if_pos hnp]
     exact ⟨s.e, rfl⟩
    ·rw [if_neg hnp, if_neg hnp]
     by_cases hg : gfL L n = true
     ·rw [if_pos hg, if_pos hg]
      exact ih k K ⟨s.u, s.g + 1, s.m, s.c + 1⟩ (by simp only; omega) (by omega) (by omega) (by simp only; omega) nx
     ·rw [if_neg hg, if_neg hg]
      exact ih k K ⟨s.u + 1, s.g, s.m + 1, s.c⟩ (by simp only; omega) (by omega) (by omega) (by simp only; omega) nx
  ·rw [if_neg hlt, decide_eq_false hlt]
   rfl
end Go.Am
end
section
namespace Go.Am
theorem Spt.inj {x y : Spt} (h : x.e = y.e) : x = y := by
 unfold Spt.e at h
 injection h with a b c d
 cases x; cases y
 simp only [Spt.mk.injEq] at *
 omega
section
variable (F : Spt → Option Spt)
def jD (b : Bool) (s : Spt) : Option (Option Spt) := bif b then (if s.g = 0 then none else some (F ⟨s.u, s.g - 1, s.m, s.c⟩)) else (if s.u = 0 then none else some (F ⟨s.u - 1, s.g, s.m, s.c⟩))
def rS : Nat → Spt → Prop
 | 0, _ => False
 | n + 1, s => ∃ b, (jD F b s = some none ∧ n = 0) ∨ ∃ s', jD F b s = some (some s') ∧ rS n s'
def aLh (s0 : Spt) (o : Option Int) : Prop := (∃ D : Nat, o = some (D : Int) ∧ rS F D s0 ∧ ∀ m, m < D → ¬ rS F m s0) ∨ (o = some 61 ∧ ∀ m, ¬ rS F m s0)
end
structure SzS (F : Spt → Option Spt) (sz : Spt → Nat) (Bd : Spt → Prop) : Prop where
 dn : ∀ {b s s'}, Bd s → jD F b s = some (some s') → sz s' < sz s ∧ Bd s'
section
variable {F : Spt → Option Spt} {sz : Spt → Nat} {Bd : Spt → Prop}
structure LvS (F : Spt → Option Spt) (sz : Spt → Nat) (Bd : Spt → Prop) (s0 : Spt) (n : Nat) (now : List Spt) : Prop where
 ok : ∀ s ∈ now, Bd s ∧ (∀ m, rS F m s → rS F (n + m) s0) ∧ sz s + n ≤ sz s0
 cov : ∀ D, rS F D s0 → (∀ m, m < D → ¬ rS F m s0) → n < D → ∃ s ∈ now, rS F (D - n) s
 low : ∀ m, m ≤ n → ¬ rS F m s0
def SnS (F : Spt → Option Spt) (s0 : Spt) (n : Nat) (nx : List Spt) (sn : List (aX × Int)) : Prop := ∀ s : Spt, 1 ≤ aL s.e 0 sn → s ∈ nx ∨ ∃ j, j ≤ n ∧ ∀ m, rS F m s → rS F (j + m) s0
def CnS (sn : List (aX × Int)) (T : Nat) : Prop := ∀ x, 0 ≤ aL x 0 sn ∧ aL x 0 sn ≤ (T : Int)
theorem aTe {s0 : Spt} {n : Nat} {nx : List Spt} {sn : List (aX × Int)} {T : Nat} {t : Spt} (hs : SnS F s0 n nx sn) (hc : CnS sn T) (hT : T ≤ 9000000000000) :
  CnS (cR t.e (w64 (aL t.e 0 sn + 1)) sn) (T + 1) ∧ aL t.e 0 (cR t.e (w64 (aL t.e 0 sn + 1)) sn) = aL t.e 0 sn + 1 ∧
  (aL t.e 0 sn + 1 = 1 → SnS F s0 n (nx ++ [t]) (cR t.e (w64 (aL t.e 0 sn + 1)) sn)) ∧ (aL t.e 0 sn + 1 ≠ 1 → SnS F s0 n nx (cR t.e (w64 (aL t.e 0 sn + 1)) sn)) := by
 have ht := hc t.e
 have hw : w64 (aL t.e 0 sn + 1) = aL t.e 0 sn + 1 := dD (by omega) (by omega)
 rw [hw]
 have hself : aL t.e 0 (cR t.e (aL t.e 0 sn + 1) sn) = aL t.e 0 sn + 1 := by rw [rB, decide_eq_true rfl, cond_true]
 refine ⟨fun x => ?_, hself, fun h1 s hsn => ?_, fun h1 s hsn => ?_⟩
 ·rw [rB]
  have hx := hc x
  cases decide (x = t.e) with
  | true => rw [cond_true]; omega
  | false => rw [cond_false]; omega
 ·rw [rB] at hsn
  by_cases e : s.e = t.e
  ·obtain rfl := Spt.inj e
   exact .inl (by simp)
  ·rw [decide_eq_false e, cond_false] at hsn
   rcases hs s hsn with h | h
   ·exact .inl (by simp [h])
   ·exact .inr h
 ·rw [rB] at hsn
  by_cases e : s.e = t.e
  ·obtain rfl := Spt.inj e
   exact hs s (by omega)
  ·rw [decide_eq_false e, cond_false] at hsn
   exact hs s hsn
end
section
variable {L : aN} {A0 : List Int} {p : Int} {F : Spt → Option Spt} {sz : Spt → Nat} {Bd : Spt → Prop}
def xH (L : aN) (A0 : List Int) (p : Int) (F : Spt → Option Spt) (s : Spt) : Prop := match F s with
 | none => ∃ s2, jM s.e L A0 p = some (s2, true)
 | some s2 => jM s.e L A0 p = some (s2.e, false)
theorem aHj (hF : ∀ b s s', Bd s → (bif b then s' = Spt.mk s.u (s.g - 1) s.m s.c ∧ s.g ≠ 0 else s' = Spt.mk (s.u - 1) s.g s.m s.c ∧ s.u ≠ 0) → xH L A0 p F s')
  (a0 : List aX → Int → List (aX × Int) → Option Int) (a2 : Int → List aX → List (aX × Int) → Option Int) (many t42 t43 : Int) (t41 : List aX) (s : Spt) (hb : Bd s) (hsl : s.u ≤ 1000 ∧ s.g ≤ 1000) (b : Bool) (K : Nat) (nx : List Spt) (sn : List (aX × Int)) (hl : nx.length ≤ 4000000000000)
  {s0 : Spt} {n T : Nat} (hs : SnS F s0 n nx sn) (hc : CnS sn T) (hT : T ≤ 9000000000000) :
  (jD F b s = some none ∧ cH a0 a2 L A0 p many t41 t42 t43 s.e (K + 1) (bif b then 1 else 0) (nx.map Spt.e) sn = some many) ∨
  (jD F b s ≠ some none ∧ ∃ nx' sn', cH a0 a2 L A0 p many t41 t42 t43 s.e (K + 1) (bif b then 1 else 0) (nx.map Spt.e) sn = cH a0 a2 L A0 p many t41 t42 t43 s.e K (bif b then 2 else 1) (nx'.map Spt.e) sn' ∧
   SnS F s0 n nx' sn' ∧ CnS sn' (T + 1) ∧ nx'.length ≤ nx.length + 1 ∧ (∀ x ∈ nx, x ∈ nx') ∧ (∀ x ∈ nx', x ∈ nx ∨ jD F b s = some (some x)) ∧ (∀ x, 1 ≤ aL x 0 sn → 1 ≤ aL x 0 sn') ∧ ∀ t, jD F b s = some (some t) → 1 ≤ aL t.e 0 sn') := by
 have c2 : decide ((bif b then (1 : Int) else 0) < 2) = true := by cases b <;> rfl
 have c1 : decide ((bif b then (1 : Int) else 0) = 1) = b := by cases b <;> rfl
 have c3 : w64 ((bif b then (1 : Int) else 0) + 1) = (bif b then 2 else 1) := by cases b <;> rfl
 rw [cH, c2, cond_true, c1, c3]
 have hkeep : ∃ nx' sn', cH a0 a2 L A0 p many t41 t42 t43 s.e K (bif b then 2 else 1) (nx.map Spt.e) sn = cH a0 a2 L A0 p many t41 t42 t43 s.e K (bif b then 2 else 1) (nx'.map Spt.e) sn' ∧
   SnS F s0 n nx' sn' ∧ CnS sn' (T + 1) ∧ nx'.length ≤ nx.length + 1 ∧ (∀ x ∈ nx, x ∈ nx') ∧ (∀ x ∈ nx', x ∈ nx ∨ jD F b s = some (some x)) ∧ (∀ x, 1 ≤ aL x 0 sn → 1 ≤ aL x 0 sn') :=
  ⟨nx, sn, rfl, hs, fun x => by have := hc x; omega, by omega, fun x hx => hx, fun x hx => .inl hx, fun x hx => hx⟩
 have go : ∀ s' : Spt, xH L A0 p F s' → jD F b s = some (F s') →
   ∀ rest, rest = (jM s'.e L A0 p).bind (fun r17 => bif r17.2 then (some many) else (bif decide ((aL r17.1 0 (cR r17.1 (w64 ((aL r17.1 0 sn) + 1)) sn)) = 1) then ((app 32 (nx.map Spt.e) ([r17.1])).bind fun x18 => cH a0 a2 L A0 p many t41 t42 t43 s.e K (bif b then 2 else 1) x18 (cR r17.1 (w64 ((aL r17.1 0 sn) + 1)) sn)) else cH a0 a2 L A0 p many t41 t42 t43 s.e K (bif b then 2 else 1) (nx.map Spt.e) (cR r17.1 (w64 ((aL r17.1 0 sn) + 1)) sn))) →
   (jD F b s = some none ∧ rest = some many) ∨ (jD F b s ≠ some none ∧ ∃ nx' sn', rest = cH a0 a2 L A0 p many t41 t42 t43 s.e K (bif b then 2 else 1) (nx'.map Spt.e) sn' ∧
   SnS F s0 n nx' sn' ∧ CnS sn' (T + 1) ∧ nx'.length ≤ nx.length + 1 ∧ (∀ x ∈ nx, x ∈ nx') ∧ (∀ x ∈ nx', x ∈ nx ∨ jD F b s = some (some x)) ∧ (∀ x, 1 ≤ aL x 0 sn → 1 ≤ aL x 0 sn') ∧ ∀ t, jD F b s = some (some t) → 1 ≤ aL t.e 0 sn') := by
  intro s' hok hst rest hr
  unfold xH at hok
  cases hfs : F s' with
  | none =>
   rw [hfs] at hok
   obtain ⟨s2, e⟩ := hok
   rw [hfs] at hst
   rw [e, Option.bind_some, cond_true] at hr
   exact .inl ⟨hst, hr⟩
  | some t =>
   rw [hfs] at hok
   rw [hfs] at hst
   rw [hok, Option.bind_some, cond_false] at hr
   have k := aTe (t := t) hs hc hT
   rw [k.2.1] at hr
   have htt := hc t.e
   have hmono : ∀ x, 1 ≤ aL x 0 sn → 1 ≤ aL x 0 (cR t.e (w64 (aL t.e 0 sn + 1)) sn) := fun x hx => by
    rw [rB]
    cases decide (x = t.e) with
    | true => rw [cond_true, dD (by omega) (by omega)]; omega
    | false => exact hx
   have hcov : ∀ t', jD F b s = some (some t') → 1 ≤ aL t'.e 0 (cR t.e (w64 (aL t.e 0 sn + 1)) sn) := fun t' ht' => by
    rw [hst] at ht'
    obtain rfl : t = t' := by simpa using ht'
    rw [k.2.1]; omega
   refine .inr ⟨by rw [hst]; simp, ?_⟩
   by_cases h1 : aL t.e 0 sn + 1 = 1
   ·rw [decide_eq_true h1, cond_true, fR (by simp; omega), Option.bind_some] at hr
    refine ⟨nx ++ [t], _, by rw [hr, List.map_append]; rfl, k.2.2.1 h1, k.1, by simp, fun x hx => by simp [hx], fun x hx => ?_, hmono, hcov⟩
    rcases List.mem_append.1 hx with hx | hx
    ·exact .inl hx
    ·rw [List.mem_singleton.1 hx]; exact .inr hst
   ·rw [decide_eq_false h1, cond_false] at hr
    exact ⟨nx, _, hr, k.2.2.2 h1, k.1, by omega, fun x hx => hx, fun x hx => .inl hx, hmono, hcov⟩
 cases b with
 | true =>
  simp only [cond_true]
  by_cases hz : s.g = 0
  ·right
   have hst : jD F true s = none := by unfold jD; rw [cond_true, if_pos hz]
   refine ⟨by rw [hst]; simp, ?_⟩
   have hg : decide (w64 (s.e.guarded - 1) < 0) = true := by
    show decide (w64 ((s.g : Int) - 1) < 0) = true
    rw [hz]; rfl
   rw [hg, cond_true, Option.bind_some, cond_true]
   obtain ⟨nx', sn', e, k1, k2, k3, k4, k5, k6⟩ := hkeep
   exact ⟨nx', sn', e, k1, k2, k3, k4, k5, k6, fun t ht => by rw [hst] at ht; cases ht⟩
  ·have hst : jD F true s = some (F ⟨s.u, s.g - 1, s.m, s.c⟩) := by unfold jD; rw [cond_true, if_neg hz]
   have hw : w64 (s.e.guarded - 1) = ((s.g - 1 : Nat) : Int) := by
    show w64 ((s.g : Int) - 1) = _
    rw [dD (by omega) (by omega)]; omega
   rw [hw, decide_eq_false (show ¬ ((s.g - 1 : Nat) : Int) < 0 by omega), cond_false, Option.bind_some, show decide (s.e.free < 0) = false from decide_eq_false (by show ¬ (s.u : Int) < 0; omega), cond_false]
   exact go ⟨s.u, s.g - 1, s.m, s.c⟩ (hF true s _ hb ⟨rfl, hz⟩) hst _ rfl
 | false =>
  simp only [cond_false]
  by_cases hz : s.u = 0
  ·right
   have hst : jD F false s = none := by unfold jD; rw [cond_false, if_pos hz]
   refine ⟨by rw [hst]; simp, ?_⟩
   have hg : decide (s.e.guarded < 0) = false := decide_eq_false (by show ¬ (s.g : Int) < 0; omega)
   have hu : decide (w64 (s.e.free - 1) < 0) = true := by
    show decide (w64 ((s.u : Int) - 1) < 0) = true
    rw [hz]; rfl
   rw [hg, cond_false, hu, Option.bind_some, cond_true]
   obtain ⟨nx', sn', e, k1, k2, k3, k4, k5, k6⟩ := hkeep
   exact ⟨nx', sn', e, k1, k2, k3, k4, k5, k6, fun t ht => by rw [hst] at ht; cases ht⟩
  ·have hst : jD F false s = some (F ⟨s.u - 1, s.g, s.m, s.c⟩) := by unfold jD; rw [cond_false, if_neg hz]
   have hw : w64 (s.e.free - 1) = ((s.u - 1 : Nat) : Int) := by
    show w64 ((s.u : Int) - 1) = _
    rw [dD (by omega) (by omega)]; omega
   rw [show decide (s.e.guarded < 0) = false from decide_eq_false (by show ¬ (s.g : Int) < 0; omega), cond_false, hw, decide_eq_false (show ¬ ((s.u - 1 : Nat) : Int) < 0 by omega), Option.bind_some, cond_false]
   exact go ⟨s.u - 1, s.g, s.m, s.c⟩ (hF false s _ hb ⟨rfl, hz⟩) hst _ rfl
end
end Go.Am
end
section
namespace Go.Am
section
variable {L : aN} {A0 : List Int} {p : Int} {F : Spt → Option Spt} {sz : Spt → Nat} {Bd : Spt → Prop}
theorem aRp (hF : ∀ b s s', Bd s → (bif b then s' = Spt.mk s.u (s.g - 1) s.m s.c ∧ s.g ≠ 0 else s' = Spt.mk (s.u - 1) s.g s.m s.c ∧ s.u ≠ 0) → xH L A0 p F s')
  (a0 : List aX → Int → List (aX × Int) → Option Int) (a2 : Int → List aX → List (aX × Int) → Option Int) (many t42 : Int) {j : Nat} (hj : j < 4611686018427387904) (t41 : List aX) (s : Spt) (hb : Bd s) (hsl : s.u ≤ 1000 ∧ s.g ≤ 1000) (nx : List Spt) (sn : List (aX × Int)) (hl : nx.length ≤ 3900000000000)
  {s0 : Spt} {n T : Nat} (hs : SnS F s0 n nx sn) (hc : CnS sn T) (hT : T ≤ 8900000000000) :
  ((∃ b, jD F b s = some none) ∧ cH a0 a2 L A0 p many t41 t42 (j : Int) s.e BIG 0 (nx.map Spt.e) sn = some many) ∨
  ((∀ b, jD F b s ≠ some none) ∧ ∃ nx' sn', cH a0 a2 L A0 p many t41 t42 (j : Int) s.e BIG 0 (nx.map Spt.e) sn = a2 ((j + 1 : Nat) : Int) (nx'.map Spt.e) sn' ∧
   SnS F s0 n nx' sn' ∧ CnS sn' (T + 2) ∧ nx'.length ≤ nx.length + 2 ∧ (∀ x ∈ nx, x ∈ nx') ∧ (∀ x ∈ nx', x ∈ nx ∨ ∃ b, jD F b s = some (some x)) ∧ (∀ x, 1 ≤ aL x 0 sn → 1 ≤ aL x 0 sn') ∧ ∀ b t, jD F b s = some (some t) → 1 ≤ aL t.e 0 sn') := by
 obtain ⟨K, hK⟩ : ∃ K, BIG = K + 1 + 1 + 1 := ⟨BIG - 3, by unfold BIG; omega⟩
 rw [hK]
 have h0 := aHj hF a0 a2 many t42 (j : Int) t41 s hb hsl false (K + 1 + 1) nx sn (by omega) hs hc (by omega)
 simp only [cond_false] at h0
 rcases h0 with ⟨e1, e2⟩ | ⟨e1, nx1, sn1, e2, k1, k2, k3, k4, k5, k6, k7⟩
 ·exact .inl ⟨⟨false, e1⟩, e2⟩
 ·rw [e2]
  have h1 := aHj hF a0 a2 many t42 (j : Int) t41 s hb hsl true (K + 1) nx1 sn1 (by omega) k1 k2 (by omega)
  simp only [cond_true] at h1
  rcases h1 with ⟨d1, d2⟩ | ⟨d1, nx2, sn2, d2, q1, q2, q3, q4, q5, q6, q7⟩
  ·exact .inl ⟨⟨true, d1⟩, d2⟩
  ·refine .inr ⟨fun b => by cases b; exact e1; exact d1, nx2, sn2, ?_, q1, q2, by omega, fun x hx => q4 x (k4 x hx), fun x hx => ?_, fun x hx => q6 x (k6 x hx), fun b t ht => ?_⟩
   ·rw [d2, cH, decide_eq_false (show ¬ (2 : Int) < 2 by omega), cond_false]
    unfold rI rH
    rw [cF (by omega)]
   ·rcases q5 x hx with h | h
    ·rcases k5 x h with h | h
     ·exact .inl h
     ·exact .inr ⟨false, h⟩
    ·exact .inr ⟨true, h⟩
   ·cases b with
    | false => exact q6 _ (k7 t ht)
    | true => exact q7 t ht
theorem aRo (hF : ∀ b s s', Bd s → (bif b then s' = Spt.mk s.u (s.g - 1) s.m s.c ∧ s.g ≠ 0 else s' = Spt.mk (s.u - 1) s.g s.m s.c ∧ s.u ≠ 0) → xH L A0 p F s') (hZ : SzS F sz Bd) (hB : ∀ s, Bd s → s.u ≤ 1000 ∧ s.g ≤ 1000)
  (a0 : List aX → Int → List (aX × Int) → Option Int) (now : List Spt) (sn : List (aX × Int)) {s0 : Spt} {n : Nat} (hn : n ≤ 1000) (hl : now.length ≤ 1000000000000) {T : Nat} (hT : T + 2 * now.length ≤ 8000000000000) (hlv : LvS F sz Bd s0 n now) (hs : SnS F s0 n [] sn) (hc : CnS sn T)
  (hnext : ∀ (nx : List Spt) (sn' : List (aX × Int)), LvS F sz Bd s0 (n + 1) nx → SnS F s0 (n + 1) [] sn' → CnS sn' (T + 2 * now.length) → nx.length ≤ 2 * now.length → aLh F s0 (a0 (nx.map Spt.e) ((n + 1 + 1 : Nat) : Int) sn')) :
  aLh F s0 (fC a0 L A0 p ((n + 1 : Nat) : Int) (now.map Spt.e) ((now.map Spt.e).length : Int) BIG 0 [] sn) := by
 refine pZ (S := List Spt × List (aX × Int)) (fun K j x => fC a0 L A0 p ((n + 1 : Nat) : Int) (now.map Spt.e) ((now.map Spt.e).length : Int) K j (x.1.map Spt.e) x.2) now.length (aLh F s0)
  (fun j x => j ≤ now.length ∧ SnS F s0 n x.1 x.2 ∧ CnS x.2 (T + 2 * j) ∧ x.1.length ≤ 2 * j ∧ (∀ y ∈ x.1, Bd y ∧ (∀ m, rS F m y → rS F (n + 1 + m) s0) ∧ sz y + (n + 1) ≤ sz s0) ∧ ∀ s ∈ now.take j, (∀ b, jD F b s ≠ some none) ∧ ∀ b t, jD F b s = some (some t) → 1 ≤ aL t.e 0 x.2) (fun K j x hj hI ih => ?_) (fun K j x hj hI => ?_) BIG 0 ([], sn) (dP (by omega)) ⟨by omega, hs, hc, by simp, by simp, by simp⟩
 ·obtain ⟨h1, h2, h3, h4, h5, h6⟩ := hI
  have hjl : j < (now.map Spt.e).length := by simpa using hj
  have hget : (now.map Spt.e)[j] = now[j].e := List.getElem_map _
  have hok := hlv.ok _ (List.getElem_mem hj)
  simp only [fC, show decide ((j : Int) < ((now.map Spt.e).length : Int)) = true from decide_eq_true (by omega), cond_true, dA hjl, Option.bind_some, hget]
  rcases aRp hF a0 (fC a0 L A0 p ((n + 1 : Nat) : Int) (now.map Spt.e) ((now.map Spt.e).length : Int) K) ((n + 1 : Nat) : Int) ((now.map Spt.e).length : Int) (j := j) (by omega) (now.map Spt.e) now[j] hok.1 (hB _ hok.1) x.1 x.2 (by omega) h2 h3 (by omega) with ⟨⟨b, e1⟩, e2⟩ | ⟨e1, nx', sn', e2, k1, k2, k3, k4, k5, k6, k7⟩
  ·rw [e2]
   refine .inl ⟨n + 1, rfl, hok.2.1 1 ⟨b, .inl ⟨e1, rfl⟩⟩, fun m hm => hlv.low m (by omega)⟩
  ·rw [e2]
   refine ih (nx', sn') ⟨by omega, k1, fun y => by have := k2 y; omega, by simp only; omega, fun y hy => ?_, fun s hs2 => ?_⟩
   ·rcases k5 y hy with h | ⟨b, h⟩
    ·exact h5 y h
    ·have hd := hZ.dn hok.1 h
     refine ⟨hd.2, fun m hm => ?_, by omega⟩
     have := hok.2.1 (m + 1) ⟨b, .inr ⟨y, h, hm⟩⟩
     rw [show n + 1 + m = n + (m + 1) by omega]; exact this
   ·rw [List.take_succ_eq_append_getElem hj] at hs2
    rcases List.mem_append.1 hs2 with hs2 | hs2
    ·exact ⟨(h6 s hs2).1, fun b t ht => k6 _ ((h6 s hs2).2 b t ht)⟩
    ·rw [List.mem_singleton.1 hs2]; exact ⟨e1, k7⟩
 ·obtain ⟨h1, h2, h3, h4, h5, h6⟩ := hI
  obtain rfl : j = now.length := by omega
  rw [List.take_length] at h6
  simp only [fC, show decide ((now.length : Int) < ((now.map Spt.e).length : Int)) = false from decide_eq_false (by simp), cond_false]
  unfold rG rF
  rw [cF (by omega)]
  have low1 : ∀ m, m ≤ n + 1 → ¬ rS F m s0 := fun m hm hr => by
   by_cases hmn : m ≤ n
   ·exact hlv.low m hmn hr
   ·obtain rfl : m = n + 1 := by omega
    obtain ⟨s, hs2, hr2⟩ := hlv.cov (n + 1) hr (fun m hm => hlv.low m (by omega)) (by omega)
    rw [show n + 1 - n = 0 + 1 by omega] at hr2
    obtain ⟨b, ⟨hb, _⟩ | ⟨s', _, hb⟩⟩ := hr2
    ·exact (h6 s hs2).1 b hb
    ·exact hb
  refine hnext x.1 x.2 ⟨h5, fun D hD hmin hlt => ?_, low1⟩ (fun s hs2 => ?_) h3 h4
  ·obtain ⟨s, hs2, hr2⟩ := hlv.cov D hD hmin (by omega)
   rw [show D - n = (D - (n + 1)) + 1 by omega] at hr2
   obtain ⟨b, ⟨_, hb⟩ | ⟨s', hb, hr3⟩⟩ := hr2
   ·omega
   ·rcases h2 s' ((h6 s hs2).2 b s' hb) with h | ⟨q, hq, h⟩
    ·exact ⟨s', h, hr3⟩
    ·exact absurd (h _ hr3) (hmin _ (by omega))
  ·rcases h2 s hs2 with h | ⟨q, hq, h⟩
   ·exact .inr ⟨n + 1, Nat.le_refl _, (h5 s h).2.1⟩
   ·exact .inr ⟨q, by omega, h⟩
theorem aRn (hF : ∀ b s s', Bd s → (bif b then s' = Spt.mk s.u (s.g - 1) s.m s.c ∧ s.g ≠ 0 else s' = Spt.mk (s.u - 1) s.g s.m s.c ∧ s.u ≠ 0) → xH L A0 p F s') (hZ : SzS F sz Bd) (hB : ∀ s, Bd s → s.u ≤ 1000 ∧ s.g ≤ 1000) {s0 : Spt} (hsz : sz s0 ≤ 30) : ∀ (d n K : Nat) (now : List Spt) (sn : List (aX × Int)), sz s0 + 1 - n = d → n ≤ sz s0 + 1 → d < K → LvS F sz Bd s0 n now → SnS F s0 n [] sn → CnS sn (2 ^ (n + 2)) → now.length ≤ 2 ^ n →
  aLh F s0 (fX L A0 p K (now.map Spt.e) ((n + 1 : Nat) : Int) sn) := by
 have none_at : ∀ n, LvS F sz Bd s0 n [] → ∀ m, ¬ rS F m s0 := fun n hlv => by
  have key : ∀ N m, m ≤ N → ¬ rS F m s0 := by
   intro N
   induction N with
   | zero => intro m hm; exact hlv.low m (by omega)
   | succ N ih =>
    intro m hm hr
    by_cases hmN : m ≤ N
    ·exact ih m hmN hr
    ·obtain rfl : m = N + 1 := by omega
     by_cases hle : N + 1 ≤ n
     ·exact hlv.low _ hle hr
     ·obtain ⟨s, hs, _⟩ := hlv.cov (N + 1) hr (fun m hm => ih m (by omega)) (by omega)
      simp at hs
  exact fun m => key m m (Nat.le_refl _)
 intro d
 induction d with
 | zero =>
  intro n K now sn hd hn hK hlv _ _ _
  obtain ⟨K, rfl⟩ : ∃ q, K = q + 1 := ⟨K - 1, by omega⟩
  have : now = [] := by
   cases now with
   | nil => rfl
   | cons s t => have := (hlv.ok s (by simp)).2.2; omega
  subst this
  exact .inr ⟨rfl, none_at n hlv⟩
 | succ d ih =>
  intro n K now sn hd hn hK hlv hs hc hl
  obtain ⟨K, rfl⟩ : ∃ q, K = q + 1 := ⟨K - 1, by omega⟩
  cases hnl : now with
  | nil =>
   rw [hnl] at hlv
   exact .inr ⟨rfl, none_at n hlv⟩
  | cons s t =>
   rw [← hnl]
   have hpos : 0 < (now.map Spt.e).length := by rw [hnl]; simp
   have hp1 : 2 ^ n ≤ 2 ^ 30 := Nat.pow_le_pow_right (by omega) (by omega)
   have hp2 : 2 ^ (n + 2) ≤ 2 ^ 32 := Nat.pow_le_pow_right (by omega) (by omega)
   have e30 : (2 : Nat) ^ 30 = 1073741824 := by decide
   have e32 : (2 : Nat) ^ 32 = 4294967296 := by decide
   simp only [fX, show decide ((0 : Int) < ((now.map Spt.e).length : Int)) = true from decide_eq_true (by omega), cond_true]
   refine aRo hF hZ hB _ now sn (by omega) (by omega) (T := 2 ^ (n + 2)) (by omega) hlv hs hc fun nx sn' h1 h2 h3 h4 => ?_
   refine ih (n + 1) K nx sn' (by omega) (by omega) (by omega) h1 h2 (fun y => ?_) ?_
   ·have := h3 y
    rw [show n + 1 + 2 = (n + 2) + 1 by omega, Nat.pow_succ]
    have e : 2 ^ (n + 2) = 2 ^ n * 4 := by rw [Nat.pow_add]
    omega
   ·rw [Nat.pow_succ]; omega
end
section
variable {A0 : List Int} {gf : Int → Bool} {P G p : Int}
def BdS (A0 : List Int) (gf : Int → Bool) (s : Spt) : Prop := s.m ≤ (Us A0 gf).length ∧ s.c ≤ (Gs A0 gf).length ∧ s.u + s.g ≤ 200
def szS (A0 : List Int) (s : Spt) : Nat := s.u + s.g + (A0.length - (s.m + s.c))
theorem aJs (hn : A0.Nodup) (hP : P ≤ 92) : ∀ (k : Nat) (s t : Spt), BdS A0 gf s → lQ A0 gf P G p k s = some t → BdS A0 gf t ∧ szS A0 t = szS A0 s := by
 intro k
 induction k with
 | zero => intro s t hb h; simp only [lQ, Option.some.injEq] at h; subst h; exact ⟨hb, rfl⟩
 | succ k ih =>
  intro s t hb h
  have hlen := aQm (E0 := A0) (gf := gf)
  rw [lQ] at h
  split at h
  ·rename_i hlt
   split at h
   ·simp only [Option.some.injEq] at h; subst h; exact ⟨hb, rfl⟩
   ·rename_i n hf
    have hx := aDw hn hf
    split at h
    ·cases h
    ·split at h
     ·rename_i _ hg
      have h2 := (List.getElem?_eq_some_iff.1 (hx.2 hg)).1
      obtain ⟨a, b, c⟩ := hb
      have := ih ⟨s.u, s.g + 1, s.m, s.c + 1⟩ t ⟨a, (by show s.c + 1 ≤ _; omega), (by show s.u + (s.g + 1) ≤ 200; omega)⟩ h
      refine ⟨this.1, this.2.trans ?_⟩
      unfold szS; simp only; omega
     ·rename_i _ hg
      have h2 := (List.getElem?_eq_some_iff.1 (hx.1 (by simpa using hg))).1
      obtain ⟨a, b, c⟩ := hb
      have := ih ⟨s.u + 1, s.g, s.m + 1, s.c⟩ t ⟨(by show s.m + 1 ≤ _; omega), b, (by show s.u + 1 + s.g ≤ 200; omega)⟩ h
      refine ⟨this.1, this.2.trans ?_⟩
      unfold szS; simp only; omega
  ·simp only [Option.some.injEq] at h; subst h; exact ⟨hb, rfl⟩
theorem aTn (hn : A0.Nodup) (hP : P ≤ 92) : SzS (lQ A0 gf P G p 100) (szS A0) (BdS A0 gf) := by
 refine ⟨fun {b s s'} hb h => ?_⟩
 obtain ⟨h1, h2, h3⟩ := hb
 unfold jD at h
 cases b with
 | true =>
  rw [cond_true] at h
  split at h
  ·cases h
  ·rename_i hg
   have := aJs hn hP 100 ⟨s.u, s.g - 1, s.m, s.c⟩ s' ⟨h1, h2, (by show s.u + (s.g - 1) ≤ 200; omega)⟩ (Option.some.inj h)
   refine ⟨?_, this.1⟩
   rw [this.2]; unfold szS; simp only; omega
 | false =>
  rw [cond_false] at h
  split at h
  ·cases h
  ·rename_i hg
   have := aJs hn hP 100 ⟨s.u - 1, s.g, s.m, s.c⟩ s' ⟨h1, h2, (by show s.u - 1 + s.g ≤ 200; omega)⟩ (Option.some.inj h)
   refine ⟨?_, this.1⟩
   rw [this.2]; unfold szS; simp only; omega
end
def sp0 (L : aN) : Spt := ⟨uC (gfL L) (bD L), gC (gfL L) (bD L), 0, 0⟩
theorem aRq {f : aT} {L : aN} {i : Nat} (h : gE f L i) (hi : i ≤ 20) (hm : MS L) (hnd : (bD L).Nodup) (p : Int) : ∃ r, mB L p = some r ∧ aLh (lQ (iT L (bD L)) (gfL L) (plc L) L.Field.Guards p 100) (sp0 L) (some r) := by
 have hw := h.wf
 have hp := qA hw
 have hml := nM h
 have hlen := aCk h
 have hA : (iT L (bD L)).Nodup := (pT hw).filter _
 have hAl : (iT L (bD L)).length ≤ 20 := by
  have := List.length_filter_le (fun n => (pl L n).signed && !decide (n ∈ bD L)) (bF L)
  unfold iT; omega
 have hsub : (bD L).length ≤ (bF L).length := hnd.length_le_of_subset fun n hn => jV.2 (hm n hn)
 have hsum := yU (gf := gfL L) (bD L)
 have hboth : (bD L).length + (iT L (bD L)).length ≤ 20 := by
  have hnn : (bD L ++ iT L (bD L)).Nodup := List.nodup_append.2 ⟨hnd, hA, fun a ha b hb e => by
   subst e
   have := (List.mem_filter.1 hb).2
   simp [ha] at this⟩
  have := hnn.length_le_of_subset (l₂ := bF L) fun n hn => by
   rcases List.mem_append.1 hn with hn | hn
   ·exact jV.2 (hm n hn)
   ·exact (List.mem_filter.1 hn).1
  rw [List.length_append] at this
  omega
 have hdel : cT (vC L) (fun y7 => kR y7 L) = some (iT L (bD L)) := by
  rw [aDr (vC L) (fun y7 => kR y7 L) (fun n => !(pl L n).signed) (fun x _ => rfl) (by have := aCn hw; omega)]
  unfold vC iT
  rw [List.filter_filter]
  congr 1
  refine List.filter_congr fun m _ => ?_
  cases (pl L m).signed <;> cases decide (m ∈ bD L) <;> rfl
 have hB : ∀ s, BdS (iT L (bD L)) (gfL L) s → s.u ≤ 1000 ∧ s.g ≤ 1000 := fun s hs => by have := hs.2.2; omega
 have hF : ∀ b s s', BdS (iT L (bD L)) (gfL L) s → (bif b then s' = Spt.mk s.u (s.g - 1) s.m s.c ∧ s.g ≠ 0 else s' = Spt.mk (s.u - 1) s.g s.m s.c ∧ s.u ≠ 0) → xH L (iT L (bD L)) p (lQ (iT L (bD L)) (gfL L) (plc L) L.Field.Guards p 100) s' := fun b s s' hs hh => by
  have hug := aQm (E0 := iT L (bD L)) (gf := gfL L)
  obtain ⟨a1, a2, a3⟩ := hs
  have hb : s'.u + s'.g ≤ 500 ∧ s'.m ≤ 500 ∧ s'.c ≤ 500 ∧ s'.m + s'.c + 100 ≤ 500 := by
   cases b with
   | true => obtain ⟨rfl, _⟩ := hh; simp only; omega
   | false => obtain ⟨rfl, _⟩ := hh; simp only; omega
  have k := aWt hw (iT L (bD L)) hA (by omega) p 100 100 BIG s' (by omega) (by decide) (Nat.le_refl _) hb (aX.mk 0 0 0 0)
  unfold xH
  cases hfs : lQ (iT L (bD L)) (gfL L) (plc L) L.Field.Guards p 100 s' with
  | none => rw [hfs] at k; exact k
  | some t => rw [hfs] at k; exact k
 have hsz : szS (iT L (bD L)) (sp0 L) ≤ 30 := by
  unfold szS sp0
  simp only
  omega
 have key := aRn hF (aTn hA hp.2) hB hsz (szS (iT L (bD L)) (sp0 L) + 1) 0 BIG [sp0 L] [] (by omega) (by omega) (dP (by omega))
  ⟨fun s hs => by
   rw [List.mem_singleton.1 hs]
   exact ⟨⟨Nat.zero_le _, Nat.zero_le _, by unfold sp0; simp only; omega⟩, fun m hm => by rw [Nat.zero_add]; exact hm, by omega⟩, fun D hD _ _ => ⟨sp0 L, by simp, by rw [Nat.sub_zero]; exact hD⟩, fun m hm => by
   have : m = 0 := by omega
   subst this
   exact fun h => h⟩
  (fun s hs => by simp [aL] at hs) (fun x => by simp [aL]) (by simp)
 unfold mB
 rw [zT h, Option.bind_some, aEf L _ (by omega), Option.bind_some, aNf h, Option.bind_some, hdel, Option.bind_some]
 have e0 : (aX.mk (w64 (((bD L).length : Int) - ((gd L (bD L) : Nat) : Int))) ((gd L (bD L) : Nat) : Int) 0 0) = (sp0 L).e := by
  have hgd : gd L (bD L) = gC (gfL L) (bD L) := rfl
  rw [hgd, dD (by omega) (by omega), show ((bD L).length : Int) - ((gC (gfL L) (bD L) : Nat) : Int) = ((uC (gfL L) (bD L) : Nat) : Int) by omega]
  rfl
 rw [e0]
 rcases key with ⟨D, e, h1, h2⟩ | ⟨e, h1⟩
 ·exact ⟨(D : Int), e, .inl ⟨D, rfl, h1, h2⟩⟩
 ·exact ⟨61, e, .inr ⟨rfl, h1⟩⟩
end Go.Am
end
section
namespace Go.Am
section
variable {A0 : List Int} {gf : Int → Bool} {P G p : Int}
structure Qs (A0 : List Int) (gf : Int → Bool) (p : Int) (s : Spt) (k : List Int × List Int) : Prop where
 u : s.u = uC gf k.1
 g : s.g = gC gf k.1
 a : k.2 = eab A0 gf (s.m, s.c)
 b : s.m ≤ (Us A0 gf).length ∧ s.c ≤ (Gs A0 gf).length
 p : p ∉ k.1
 n : (k.1 ++ k.2).Nodup
theorem aQd : ∀ (k : Nat) (I A : List Int) {x : Int}, x ∈ I → x ∈ (pY gf P G k I A).1 := fun k I A x hx =>
 aAk (gf := gf) (P := P) (G := G) (fun I2 _ => x ∈ I2) (fun I2 A2 y h _ => List.mem_append.2 (.inl h)) k I A hx
theorem aJt (hn : A0.Nodup) : ∀ (k : Nat) (s : Spt) (I A : List Int), Qs A0 gf p s (I, A) → (match lQ A0 gf P G p k s with
  | none => p ∈ (pY gf P G k I A).1
  | some t => Qs A0 gf p t (pY gf P G k I A)) := by
 intro k
 induction k with
 | zero => intro s I A h; exact h
 | succ k ih =>
  intro s I A h
  have hsum := yU (gf := gf) I
  have hu := h.u
  have hg := h.g
  have ha := h.a
  simp only at hu hg ha
  have hlen : (s.u : Int) + s.g = (I.length : Int) := by omega
  rw [lQ, pY, hlen]
  by_cases hlt : (I.length : Int) < P
  ·rw [if_pos hlt, if_pos hlt, ← hg, ha]
   cases hf : (eab A0 gf (s.m, s.c)).find? (elg gf G s.g) with
   | none =>
    simp only
    rw [← ha]; exact h
   | some n =>
    simp only
    have hx := aDw hn hf
    have hnA : n ∈ A := by rw [ha]; exact List.mem_of_find?_eq_some hf
    by_cases hnp : n = p
    ·rw [if_pos hnp]
     exact aQd k _ _ (by rw [hnp]; simp)
    ·rw [if_neg hnp]
     have nd := h.n
     simp only at nd
     have nd1 := List.nodup_append.1 nd
     have hnI : n ∉ I := fun hm => nd1.2.2 n hm n hnA rfl
     have hp2 : p ∉ I ++ [n] := by
      rw [List.mem_append, List.mem_singleton, not_or]
      exact ⟨h.p, fun e => hnp e.symm⟩
     have nd2 : (I ++ [n] ++ (eab A0 gf (s.m, s.c)).filter fun m => !decide (m = n)).Nodup := by
      rw [← ha]
      refine List.nodup_append.2 ⟨List.nodup_append.2 ⟨nd1.1, by simp, fun a h1 b h2 e => ?_⟩, nd1.2.1.filter _, fun a h1 b h2 e => ?_⟩
      ·rw [List.mem_singleton.1 h2] at e
       exact hnI (e ▸ h1)
      ·have h3 := List.mem_filter.1 h2
       rcases List.mem_append.1 h1 with h1 | h1
       ·exact nd1.2.2 a h1 b h3.1 e
       ·have := h3.2
        rw [← e, List.mem_singleton.1 h1] at this
        simp at this
     have a1 := aAb (gf := gf) I [n]
     have a2 := tQ (gf := gf) I [n]
     rw [aAc] at a1
     rw [tR] at a2
     by_cases hgn : gf n = true
     ·rw [if_pos hgn]
      rw [hgn, if_pos rfl] at a1 a2
      have h5 := hx.2 hgn
      have h6 := (List.getElem?_eq_some_iff.1 h5).1
      exact ih ⟨s.u, s.g + 1, s.m, s.c + 1⟩ _ _ ⟨by show s.u = uC gf (I ++ [n]); omega, by show s.g + 1 = gC gf (I ++ [n]); omega, (uZ (E0 := A0) (gf := gf) (s.m, s.c) true h5).symm, ⟨h.b.1, h6⟩, hp2, nd2⟩
     ·have hgf : gf n = false := by simpa using hgn
      rw [if_neg hgn]
      rw [hgf, if_neg (by simp)] at a1 a2
      have h5 := hx.1 hgf
      have h6 := (List.getElem?_eq_some_iff.1 h5).1
      exact ih ⟨s.u + 1, s.g, s.m + 1, s.c⟩ _ _ ⟨by show s.u + 1 = uC gf (I ++ [n]); omega, by show s.g = gC gf (I ++ [n]); omega, (uZ (E0 := A0) (gf := gf) (s.m, s.c) false h5).symm, ⟨h6, h.b.2⟩, hp2, nd2⟩
  ·rw [if_neg hlt, if_neg hlt]; exact h
theorem aSv {s : Spt} {I A : List Int} (h : Qs A0 gf p s (I, A)) {q : Int} (hq : q ∈ I) : (if gf q then s.g ≠ 0 else s.u ≠ 0) ∧ Qs A0 gf p (if gf q then ⟨s.u, s.g - 1, s.m, s.c⟩ else ⟨s.u - 1, s.g, s.m, s.c⟩) (I.filter fun m => !decide (m = q), A) := by
 have nd := h.n
 simp only at nd
 have nd1 := List.nodup_append.1 nd
 have hu := h.u
 have hg := h.g
 simp only at hu hg
 have f1 := aAu (gf := gf) nd1.1 (k := q)
 have f2 := aAn (gf := gf) nd1.1 (k := q)
 have hp2 : p ∉ I.filter fun m => !decide (m = q) := fun hm => h.p (List.mem_filter.1 hm).1
 have nd2 : ((I.filter fun m => !decide (m = q)) ++ A).Nodup := List.nodup_append.2 ⟨nd1.1.filter _, nd1.2.1, fun a h1 b h2 => nd1.2.2 a (List.mem_filter.1 h1).1 b h2⟩
 cases hgq : gf q with
 | true =>
  have := aSg hq hgq
  rw [if_neg (by simp [hgq])] at f1
  rw [if_pos ⟨hq, hgq⟩] at f2
  refine ⟨by simp; omega, ?_⟩
  rw [if_pos rfl]
  exact ⟨by show s.u = uC gf (I.filter fun m => !decide (m = q)); omega, by show s.g - 1 = gC gf (I.filter fun m => !decide (m = q)); omega, h.a, h.b, hp2, nd2⟩
 | false =>
  have := aTp hq hgq
  rw [if_pos ⟨hq, hgq⟩] at f1
  rw [if_neg (by simp [hgq])] at f2
  refine ⟨by simp; omega, ?_⟩
  rw [if_neg (by simp)]
  exact ⟨by show s.u - 1 = uC gf (I.filter fun m => !decide (m = q)); omega, by show s.g = gC gf (I.filter fun m => !decide (m = q)); omega, h.a, h.b, hp2, nd2⟩
theorem aQg (I : List Int) (b : Bool) : (I.find? (fun n => decide (gf n = b)) = none ↔ (bif b then gC gf I = 0 else uC gf I = 0)) := by
 rw [List.find?_eq_none]
 cases b with
 | true =>
  show _ ↔ (I.filter gf).length = 0
  rw [List.length_eq_zero_iff, List.filter_eq_nil_iff]
  simp
 | false =>
  show _ ↔ (I.filter fun n => !gf n).length = 0
  rw [List.length_eq_zero_iff, List.filter_eq_nil_iff]
  simp
theorem aKr (hn : A0.Nodup) {s : Spt} {k : List Int × List Int} (h : Qs A0 gf p s k) (b : Bool) : (aCy gf P G b k = none ∧ jD (lQ A0 gf P G p 100) b s = none) ∨ ∃ k' o, aCy gf P G b k = some k' ∧ jD (lQ A0 gf P G p 100) b s = some o ∧ (match o with | none => p ∈ k'.1 | some t => Qs A0 gf p t k') := by
 obtain ⟨I, A⟩ := k
 have hu := h.u
 have hg := h.g
 simp only at hu hg
 have hfc := aQg (gf := gf) I b
 unfold aCy
 cases hf : I.find? (fun n => decide (gf n = b)) with
 | none =>
  have := hfc.1 hf
  left
  refine ⟨rfl, ?_⟩
  unfold jD
  cases b with
  | true => rw [cond_true] at this ⊢; rw [if_pos (by omega)]
  | false => rw [cond_false] at this ⊢; rw [if_pos (by omega)]
 | some q =>
  right
  have hq := List.mem_of_find?_eq_some hf
  have hgq : gf q = b := by have := List.find?_some hf; simpa using this
  have hr := aSv h hq
  rw [hgq] at hr
  refine ⟨_, jD (lQ A0 gf P G p 100) b s |>.getD none, rfl, ?_⟩
  cases b with
  | true =>
   rw [if_pos rfl, if_pos rfl] at hr
   have e : jD (lQ A0 gf P G p 100) true s = some (lQ A0 gf P G p 100 ⟨s.u, s.g - 1, s.m, s.c⟩) := by unfold jD; rw [cond_true, if_neg hr.1]
   rw [e]
   exact ⟨rfl, aJt hn 100 _ _ _ hr.2⟩
  | false =>
   rw [if_neg (by simp), if_neg (by simp)] at hr
   have e : jD (lQ A0 gf P G p 100) false s = some (lQ A0 gf P G p 100 ⟨s.u - 1, s.g, s.m, s.c⟩) := by unfold jD; rw [cond_false, if_neg hr.1]
   rw [e]
   exact ⟨rfl, aJt hn 100 _ _ _ hr.2⟩
theorem aYy (hn : A0.Nodup) : ∀ (n : Nat) (s : Spt) (k : List Int × List Int), Qs A0 gf p s k → (rch Prod.fst (aCy gf P G) p k n ↔ rS (lQ A0 gf P G p 100) n s) := by
 intro n
 induction n with
 | zero => intro s k h; exact ⟨fun hm => absurd hm h.p, fun hm => absurd hm (fun x => x)⟩
 | succ n ih =>
  intro s k h
  constructor
  ·rintro ⟨_, b, k', hb, hr⟩
   rcases aKr (P := P) (G := G) hn h b with ⟨e, _⟩ | ⟨k2, o, e1, e2, e3⟩
   ·rw [e] at hb; cases hb
   ·rw [hb] at e1
    obtain rfl : k' = k2 := by simpa using e1
    cases o with
    | none =>
     refine ⟨b, .inl ⟨e2, ?_⟩⟩
     cases n with
     | zero => rfl
     | succ n => exact absurd e3 hr.1
    | some t => exact ⟨b, .inr ⟨t, e2, (ih t k' e3).1 hr⟩⟩
  ·rintro ⟨b, hb⟩
   refine ⟨h.p, b, ?_⟩
   rcases aKr (P := P) (G := G) hn h b with ⟨_, e⟩ | ⟨k2, o, e1, e2, e3⟩
   ·rcases hb with ⟨hb, _⟩ | ⟨t, hb, _⟩ <;> (rw [e] at hb; cases hb)
   ·rcases hb with ⟨hb, hn0⟩ | ⟨t, hb, hr⟩
    ·rw [hb] at e2
     obtain rfl : none = o := by simpa using e2
     subst hn0
     exact ⟨k2, e1, e3⟩
    ·rw [hb] at e2
     obtain rfl : some t = o := by simpa using e2
     exact ⟨k2, e1, (ih t k2 e3).2 hr⟩
theorem aZo {F : Spt → Option Spt} {sz : Spt → Nat} {Bd : Spt → Prop} (hZ : SzS F sz Bd) (hpos : ∀ b s, jD F b s ≠ none → 1 ≤ sz s) : ∀ (n : Nat) (s : Spt), Bd s → rS F n s → n ≤ sz s := by
 intro n
 induction n with
 | zero => intro s _ _; exact Nat.zero_le _
 | succ n ih =>
  rintro s hb ⟨b, ⟨h1, h2⟩ | ⟨t, h1, h2⟩⟩
  ·have := hpos b s (by rw [h1]; simp)
   omega
  ·have hd := hZ.dn hb h1
   have := ih t hd.2 h2
   omega
end
theorem aYv {f : aT} {L0 : aN} {s0 : aK} {i0 : Nat} (hS : StE f L0 s0 i0) (hi0 : i0 ≤ 20) {hour : Int} (hh : wi hour 0 9999 = true) (hz : f.Freeze < hour) (hf : L0.frozen = true) (hwd : ∀ m, isE L0.players m = true → wi m 0 999 = true ∧ (pl L0 m).wild = false) {p : Int} (hp : p ∉ bD L0) :
  ∃ r, mB L0 p = some r ∧ cQ hour p f BIG [s0] 0 = some (bif decide (r = 61) then (0, 3) else (r, 0)) := by
 have hw := hS.good.wf
 have hpl := qA hw
 have hnd := aBm hS
 have hA := (List.nodup_append.1 hnd).2.1
 have hl := aCk hS.good
 obtain ⟨r, e, hr⟩ := aRq hS.good hi0 hS.ms hS.pk.nd p
 refine ⟨r, e, ?_⟩
 have hboth : (bD L0).length + (iT L0 (bD L0)).length ≤ 20 := by
  have := hnd.length_le_of_subset (l₂ := bF L0) fun n hn => by
   rcases List.mem_append.1 hn with hn | hn
   ·exact jV.2 (hS.ms n hn)
   ·exact (List.mem_filter.1 hn).1
  rw [List.length_append] at this
  omega
 have hR : RF f L0 i0 0 s0 (bD L0, iT L0 (bD L0)) := ⟨aWk, L0, hS, hf, rfl, rfl, fun m => rfl, rfl, hwd, by omega⟩
 have ho := aEm (aZx hS hi0 hh hz p) hR (by show (bD L0).length + (iT L0 (bD L0)).length < 39; omega) (by show (bD L0).length + (iT L0 (bD L0)).length ≤ 38; omega)
 have hQ : Qs (iT L0 (bD L0)) (gfL L0) p (sp0 L0) (bD L0, iT L0 (bD L0)) := ⟨rfl, rfl, by
  show _ = eab _ _ (0, 0)
  unfold eab
  rw [List.filter_eq_self.2 fun m _ => by simp], ⟨Nat.zero_le _, Nat.zero_le _⟩, hp, hnd⟩
 rw [hS.good.fd] at hr
 have hiff := fun n => aYy (P := plc L0) (G := f.Guards) hA n (sp0 L0) _ hQ
 have hle : ∀ n, rS (lQ (iT L0 (bD L0)) (gfL L0) (plc L0) f.Guards p 100) n (sp0 L0) → n ≤ 60 := fun n hn => by
  have hs := yU (gf := gfL L0) (bD L0)
  have := aZo (aTn (gf := gfL L0) (G := f.Guards) (p := p) hA hpl.2) (fun b s hb => by
   unfold jD at hb
   unfold szS
   cases b with
   | true => rw [cond_true] at hb; by_cases h0 : s.g = 0; rw [if_pos h0] at hb; exact absurd rfl hb; omega
   | false => rw [cond_false] at hb; by_cases h0 : s.u = 0; rw [if_pos h0] at hb; exact absurd rfl hb; omega) n (sp0 L0) ⟨Nat.zero_le _, Nat.zero_le _, by unfold sp0; simp only; omega⟩ hn
  have h2 : szS (iT L0 (bD L0)) (sp0 L0) ≤ 60 := by unfold szS sp0; simp only; omega
  omega
 rcases ho with ⟨D, h1, h2, h3⟩ | ⟨h1, h2⟩
 ·rcases hr with ⟨D2, hr, h4, h5⟩ | ⟨hr, h4⟩
  ·have a1 : ¬ D2 < D := fun hlt => h3 D2 hlt ((hiff D2).2 h4)
   have a2 : ¬ D < D2 := fun hlt => h5 D hlt ((hiff D).1 h2)
   obtain rfl : D2 = D := by omega
   have := hle _ h4
   obtain rfl : r = (D2 : Int) := by simpa using hr
   rw [h1, decide_eq_false (by omega), cond_false]
  ·exact absurd ((hiff D).1 h2) (h4 D)
 ·rcases hr with ⟨D2, hr, h4, h5⟩ | ⟨hr, h4⟩
  ·exact absurd ((hiff D2).2 h4) (h2 D2)
  ·obtain rfl : r = 61 := by simpa using hr
   rw [h1]; rfl
end Go.Am
end
section
namespace Go.Am
theorem aMj {f : aT} {l : List aO} (h : VL f l) {hour : Int} (hz : f.Freeze < hour) : (bV f l hour).frozen = true := by
 have hT := qE l
 have hlen := h.len
 obtain ⟨_, _, ga⟩ := wX hour (dC l) (eI f) 0 (jX h.fd) (by omega) fun x hx => h.nt x ((fK x).1 hx)
 unfold bV pK
 rw [ga.fd, decide_eq_true hz, cond_true]
 unfold dT
 cases hf : (rP hour (eI f) (dC l)).frozen with
 | false => rfl
 | true => exact hf
theorem aTk {L : aN} {p : Int} : ((pD L p).1 = 1 ↔ p ∈ bD L) ∧ ((pD L p).1 = 3 → p ∈ vC L) := by
 have key : ∀ xs : List Int, decide (0 ≤ fE (fun x => decide (p = x)) xs) = decide (p ∈ xs) := fun xs => by
  rw [aJw, Bool.eq_iff_iff, List.any_eq_true, decide_eq_true_eq]
  constructor
  ·rintro ⟨x, hx, e⟩; rw [decide_eq_true_eq] at e; rw [e]; exact hx
  ·intro h; exact ⟨p, h, decide_eq_true rfl⟩
 unfold pD sC
 rw [key, key, key]
 by_cases h1 : p ∈ bD L
 ·rw [decide_eq_true h1, cond_true]; simp [h1]
 ·rw [decide_eq_false h1, cond_false]
  by_cases h2 : p ∈ L.wilds
  ·rw [decide_eq_true h2, cond_true]; simp [h1]
  ·rw [decide_eq_false h2, cond_false]
   by_cases h3 : p ∈ vC L
   ·rw [decide_eq_true h3, cond_true]; simp [h1, h3]
   ·rw [decide_eq_false h3, cond_false]; simp [h1]
theorem aOo {f : aT} {l : List aO} (h : VL f l) (hl : l.length ≤ 20) {hour p : Int} (hh : wi hour 0 9999 = true) (hp : wi p 0 999 = true) : ∃ v, kT f l hour p = some v ∧ jR f l hour p = some v := by
 obtain ⟨s0, i0, eA, hi0, hS⟩ := aLt h hour
 have A := aft h hour
 have hwd : ∀ m, isE (bV f l hour).players m = true → wi m 0 999 = true ∧ (pl (bV f l hour) m).wild = false := fun m hm => ⟨aWa h hour m (.inl (aIv hm)), aSn A hm⟩
 obtain ⟨j, hj, g⟩ := A.good
 have hml := nM g
 have hol := aCn g.wf
 have hwl := g.cn.wl
 have hst := aTk (L := bV f l hour) (p := p)
 unfold kT jR
 rw [qS, vO, kV.2 h, hh, hp]
 simp only [decide_true, Bool.not_true, cond_false, Bool.or_self, Option.bind_some]
 rw [aHc g hj, Option.bind_some, eA, Option.bind_some]
 show ∃ v, _ = some v ∧ ((idx [s0] 0).bind fun x4 => (jS f x4).bind fun r5 => (lF r5 p).bind fun r6 => _) = some v
 rw [show idx [s0] 0 = some s0 from rfl, Option.bind_some, aLu hS (by omega), Option.bind_some, aRw _ _ (show (bD (bV f l hour)).length ≤ 1000 by omega) (show (bV f l hour).wilds.length ≤ 1000 by omega) (show (vC (bV f l hour)).length ≤ 1000 by omega), Option.bind_some]
 show ∃ v, _ = some v ∧ ((bif !decide ((pD (bV f l hour) p).1 = 1) then some (!decide ((pD (bV f l hour) p).1 = 3)) else some false).bind fun b7 => _) = some v
 by_cases h1 : (pD (bV f l hour) p).1 = 1
 ·rw [decide_eq_true h1, cond_true, Bool.not_true, cond_false, Option.bind_some, cond_false]
  refine ⟨(0, 0), rfl, ?_⟩
  have hin := hst.1.1 h1
  obtain ⟨K, hK⟩ : ∃ K, BIG = K + 1 := ⟨BIG - 1, by unfold BIG; omega⟩
  have u0 : ∀ K2, dR (cQ hour p f K) hour p [s0] 0 f (K2 + 1) 0 [] = some (0, 0) := fun K2 => by
   rw [dR, show decide ((0 : Int) < (([s0] : List aK).length : Int)) = true from rfl, cond_true, show idx [s0] 0 = some s0 from rfl, Option.bind_some, dIn _ _ (by rw [hS.inn]; omega), Option.bind_some, hS.inn, decide_eq_true hin, cond_true]
  have u1 := u0 K
  rw [← hK] at u1
  have u2 : cQ hour p f (K + 1) [s0] 0 = some (0, 0) := by
   rw [cQ, show decide ((0 : Int) < (([s0] : List aK).length : Int)) = true from rfl, cond_true]
   exact u1
  rw [← hK] at u2
  exact u2
 ·simp only [decide_eq_false h1, cond_false, Bool.not_false, cond_true, Option.bind_some]
  by_cases h3 : (pD (bV f l hour) p).1 = 3
  ·have hout := hst.2 h3
   have hpm : p ∉ bD (bV f l hour) := fun hm => h1 (hst.1.2 hm)
   have hpE := (List.mem_filter.1 hout).1
   rw [decide_eq_true h3, cond_true, Option.bind_some, Bool.not_true, cond_false]
   by_cases hz : hour ≤ f.Freeze
   ·have hf := A.fz hz
    obtain ⟨r, e1, e2⟩ := aYw hS (by omega) hh hz hf hwd hpE
    rw [hf, cond_false, cond_true, e1, Option.bind_some]
    refine ⟨_, ?_, e2⟩
    cases decide (r = 61) <;> rfl
   ·have hf := aMj h (hour := hour) (by omega)
    obtain ⟨r, e1, e2⟩ := aYv hS (by omega) hh (by omega) hf hwd hpm
    rw [hf, cond_true, e1, Option.bind_some]
    refine ⟨_, ?_, e2⟩
    cases decide (r = 61) <;> rfl
  ·rw [decide_eq_false h3, cond_false, Option.bind_some, cond_false, cond_false, Bool.not_false, cond_true]
   exact ⟨(0, 3), rfl, rfl⟩
theorem aQr (f : aT) (l : List aO) (hl : l.length ≤ 20 ∨ 60 < l.length) (hour p : Int) : ∃ v, kT f l hour p = some v ∧ jR f l hour p = some v := by
 by_cases hc : nE f l = 0
 ·have hV := kV.1 hc
  have := hV.len
  cases hb : !wi hour 0 9999 || !wi p 0 999 with
  | false =>
   rw [Bool.or_eq_false_iff, Bool.not_eq_false', Bool.not_eq_false'] at hb
   exact aOo hV (by omega) hb.1 hb.2
  | true =>
   refine ⟨(0, 1), ?_, ?_⟩
   ·unfold kT
    rw [qS, hb, decide_eq_true hc]; rfl
   ·unfold jR
    rw [vO, hb, decide_eq_true hc]; rfl
 ·refine ⟨(0, nE f l), ?_, ?_⟩
  ·unfold kT
   rw [qS, decide_eq_false hc, Bool.not_false, cond_true, Option.bind_some]
   show (bif !decide (nE f l = 0) then _ else _) = _
   rw [decide_eq_false hc]; rfl
  ·unfold jR
   rw [vO, decide_eq_false hc, Bool.not_false, cond_true, Option.bind_some, decide_eq_false hc]; rfl
theorem aJx {α T : Type} (F : Nat → Int → T) (xs : List α) (q : α → Bool) (res : α → T) (stop : T) (h1 : ∀ k i (hi : i < xs.length), F (k + 1) (i : Int) = bif q xs[i] then res xs[i] else F k ((i : Int) - 1)) (h2 : ∀ k, F (k + 1) (-1) = stop) :
  ∀ j k, j ≤ xs.length → j < k → F k ((j : Int) - 1) = match (xs.take j).reverse.find? q with | some n => res n | none => stop := by
 intro j
 induction j with
 | zero =>
  intro k _ hk
  obtain ⟨k, rfl⟩ : ∃ q, k = q + 1 := ⟨k - 1, by omega⟩
  rw [show ((0 : Nat) : Int) - 1 = -1 by omega, h2]; rfl
 | succ j ih =>
  intro k hj hk
  obtain ⟨k, rfl⟩ : ∃ q, k = q + 1 := ⟨k - 1, by omega⟩
  have hjl : j < xs.length := by omega
  rw [show ((j + 1 : Nat) : Int) - 1 = (j : Int) by omega, h1 k j hjl, List.take_succ_eq_append_getElem hjl, List.reverse_append, List.reverse_singleton, List.singleton_append, List.find?_cons]
  cases q xs[j] with
  | true => rfl
  | false => exact ih k (by omega) (by omega)
def aQb (L : aN) : Int × Int := match (bF L).reverse.find? (fun n => !(pl L n).guard && decide (n ∈ bD L)) with | some n => ((pl L n).rank, 0) | none => (0, 3)
theorem aUa {f : aT} {l : List aO} (h : VL f l) {hour : Int} (hh : wi hour 0 9999 = true) : qZ f l hour = some (aQb (bV f l hour)) := by
 obtain ⟨j, hj, g⟩ := vN h hour
 have hml := nM g
 have hE := jU g.wf
 unfold qZ
 rw [qS, kV.2 h, hh]
 simp only [decide_true, Bool.not_true, cond_false, show wi 0 0 999 = true from rfl, Bool.or_self, Option.bind_some]
 rw [zT g, Option.bind_some, uF g.wf, Option.bind_some]
 show ((pI (bF (bV f l hour))).bind fun x12 => _) = _
 rw [show pI (bF (bV f l hour)) = some () from rfl, Option.bind_some]
 have key := aJx (T := Option ((Int × Int) × Bool)) (fun k i => gB (S := Int × Int) (fun s13 x14 x15 => (bif !((aL x15 (aA.mk false false 0 0 false false false false) (bV f l hour).players).guard) then ((fN (bD (bV f l hour)) x15).bind fun r18 => some r18) else (some false)).bind fun b19 =>
  bif b19 then (some (((aL x15 (aA.mk false false 0 0 false false false false) (bV f l hour).players).rank, 0), false)) else (some ((s13.1, s13.2), true))) (bF (bV f l hour)) k i (0, 0)) (bF (bV f l hour)) (fun n => !(pl (bV f l hour) n).guard && decide (n ∈ bD (bV f l hour))) (fun n => some (((pl (bV f l hour) n).rank, 0), false)) (some ((0, 0), true))
  (fun k i hi => by
   simp only [gB, show decide ((0 : Int) ≤ (i : Int)) = true from decide_eq_true (by omega), cond_true, dA hi, Option.bind_some, aBo, vK _ (show (bD (bV f l hour)).length ≤ 9223372036854775807 by omega), kZ, dD (n := (i : Int) - 1) (by omega) (by omega)]
   cases !(pl (bV f l hour) (bF (bV f l hour))[i]).guard && decide ((bF (bV f l hour))[i] ∈ bD (bV f l hour)) <;> rfl)
  (fun k => rfl) (bF (bV f l hour)).length BIG (Nat.le_refl _) (dP (by omega))
 have e : (iJ (S := Int × Int) (fun s13 x14 x15 => (bif !((aL x15 (aA.mk false false 0 0 false false false false) (bV f l hour).players).guard) then ((fN (bD (bV f l hour)) x15).bind fun r18 => some r18) else (some false)).bind fun b19 =>
  bif b19 then (some (((aL x15 (aA.mk false false 0 0 false false false false) (bV f l hour).players).rank, 0), false)) else (some ((s13.1, s13.2), true))) (bF (bV f l hour)) (0, 0)) = match (bF (bV f l hour)).reverse.find? (fun n => !(pl (bV f l hour) n).guard && decide (n ∈ bD (bV f l hour))) with | some n => some (((pl (bV f l hour) n).rank, 0), false) | none => some ((0, 0), true) := by
  unfold iJ
  rw [dD (by omega) (by omega)]
  rw [List.take_length] at key
  refine key.trans ?_
  cases (bF (bV f l hour)).reverse.find? (fun n => !(pl (bV f l hour) n).guard && decide (n ∈ bD (bV f l hour))) <;> rfl
 show ((iJ (S := Int × Int) (fun s13 x14 x15 => (bif !((aL x15 (aA.mk false false 0 0 false false false false) (bV f l hour).players).guard) then ((fN (bD (bV f l hour)) x15).bind fun r18 => some r18) else (some false)).bind fun b19 =>
  bif b19 then (some (((aL x15 (aA.mk false false 0 0 false false false false) (bV f l hour).players).rank, 0), false)) else (some ((s13.1, s13.2), true))) (bF (bV f l hour)) (0, 0)).bind fun s20 => bif s20.2 then (some (0, 3)) else (some (s20.1.1, s20.1.2))) = _
 rw [e]
 unfold aQb
 cases (bF (bV f l hour)).reverse.find? (fun n => !(pl (bV f l hour) n).guard && decide (n ∈ bD (bV f l hour))) <;> rfl
theorem aWx {f : aT} {l : List aO} (h : VL f l) {hour : Int} (hh : wi hour 0 9999 = true) : lH f l hour = some (aQb (bV f l hour)) := by
 obtain ⟨s, i, e, hi, hS⟩ := aLt h hour
 have hl := h.len
 have hml := nM hS.good
 have hE := jU hS.good.wf
 unfold lH
 rw [vO, kV.2 h, hh]
 simp only [decide_true, Bool.not_true, cond_false, show wi 0 0 999 = true from rfl, Bool.or_self, Option.bind_some]
 rw [e, Option.bind_some, aHk hS.rel (by omega) hS.good.wf, Option.bind_some]
 have key := aJx (fun k i => mA ((bF (bV f l hour)).map (bW (bV f l hour))) s k i) (bF (bV f l hour)) (fun n => !(pl (bV f l hour) n).guard && decide (n ∈ bD (bV f l hour))) (fun n => some ((pl (bV f l hour) n).rank, 0)) (some (0, 3))
  (fun k i hi => by
   have hi2 : i < ((bF (bV f l hour)).map (bW (bV f l hour))).length := by simpa using hi
   have hnn : ((bF (bV f l hour)).map (bW (bV f l hour)))[i] = bW (bV f l hour) (bF (bV f l hour))[i] := List.getElem_map _
   simp only [mA, show decide ((0 : Int) ≤ (i : Int)) = true from decide_eq_true (by omega), cond_true, dA hi2, Option.bind_some, hnn, hS.inn, dIn _ _ (show (bD (bV f l hour)).length ≤ 1000 by omega), kZ, dD (n := (i : Int) - 1) (by omega) (by omega)]
   rfl)
  (fun k => rfl) (bF (bV f l hour)).length BIG (Nat.le_refl _) (dP (by omega))
 rw [List.take_length] at key
 rw [List.length_map, dD (by omega) (by omega)]
 refine key.trans ?_
 unfold aQb
 cases (bF (bV f l hour)).reverse.find? (fun n => !(pl (bV f l hour) n).guard && decide (n ∈ bD (bV f l hour))) <;> rfl
theorem aUb (f : aT) (l : List aO) (hour : Int) : ∃ v, qZ f l hour = some v ∧ lH f l hour = some v := by
 by_cases hc : nE f l = 0
 ·have hV := kV.1 hc
  cases hb : wi hour 0 9999 with
  | true => exact ⟨_, aUa hV hb, aWx hV hb⟩
  | false =>
   refine ⟨(0, 1), ?_, ?_⟩
   ·unfold qZ
    rw [qS, hb, decide_eq_true hc]; rfl
   ·unfold lH
    rw [vO, hb, decide_eq_true hc]; rfl
 ·refine ⟨(0, nE f l), ?_, ?_⟩
  ·unfold qZ
   rw [qS, decide_eq_false hc, Bool.not_false, cond_true, Option.bind_some]
   show (bif !decide (nE f l = 0) then _ else _) = _
   rw [decide_eq_false hc]; rfl
  ·unfold lH
   rw [vO, decide_eq_false hc, Bool.not_false, cond_true, Option.bind_some, decide_eq_false hc]; rfl
theorem aIt {q : Int → Bool} {xs ys : List Int} (hx : xs.Pairwise fun a b => a ≤ b) (hy : ys.Pairwise fun a b => a ≤ b) (hm : ∀ x, x ∈ xs ↔ x ∈ ys) : xs.find? q = ys.find? q := by
 have least : ∀ {zs : List Int} {x : Int}, zs.Pairwise (fun a b => a ≤ b) → zs.find? q = some x → ∀ y ∈ zs, q y = true → x ≤ y := by
  intro zs x
  induction zs with
  | nil => intro _ h; simp at h
  | cons a t ih =>
   intro hs h y hy hq
   have h1 := List.pairwise_cons.1 hs
   rw [List.find?_cons] at h
   cases ha : q a with
   | true =>
    rw [ha] at h
    obtain rfl : a = x := by simpa using h
    rcases List.mem_cons.1 hy with rfl | hy
    ·exact Int.le_refl _
    ·exact h1.1 y hy
   | false =>
    rw [ha] at h
    rcases List.mem_cons.1 hy with rfl | hy
    ·rw [ha] at hq; cases hq
    ·exact ih h1.2 h y hy hq
 cases h1 : xs.find? q with
 | none =>
  symm
  rw [List.find?_eq_none]
  intro y hy2
  exact List.find?_eq_none.1 h1 y ((hm y).2 hy2)
 | some x =>
  cases h2 : ys.find? q with
  | none => exact absurd (List.find?_some h1) (List.find?_eq_none.1 h2 x ((hm x).1 (List.mem_of_find?_eq_some h1)))
  | some y =>
   have a := least hx h1 y ((hm y).2 (List.mem_of_find?_eq_some h2)) (List.find?_some h2)
   have b := least hy h2 x ((hm x).1 (List.mem_of_find?_eq_some h1)) (List.find?_some h1)
   congr 1; omega
theorem aVz {f : aT} {l : List aO} (h : VL f l) {p : Int} (hp : wi p 0 999 = true) : kK f l p = some (match (rY l).find? (yF f l p) with | some x => (x, 0) | none => (0, 3)) := by
 have hb : ∀ x ∈ l, bN x := fun x hx => yM (h.nt x hx)
 have hs := oA hb h.id
 have hT := qE l
 have hl := h.len
 have hfe : ((dC l).map fun x => x.Hour).find? (yF f l p) = (rY l).find? (yF f l p) := by
  refine aIt ?_ (aMo l) fun x => ?_
  ·rw [List.pairwise_map]
   refine (List.Pairwise.and_mem.1 hs).imp fun {a b} hab => ?_
   have b1 := hb a ((fK a).1 hab.1)
   have b2 := hb b ((fK b).1 hab.2.1)
   have := hab.2.2
   unfold bN at b1 b2
   unfold dS at this
   omega
  ·rw [aSi, List.mem_map]
   constructor
   ·rintro ⟨y, hy, e⟩; exact ⟨y, (fK y).1 hy, e⟩
   ·rintro ⟨y, hy, e⟩; exact ⟨y, (fK y).2 hy, e⟩
 rw [← hfe]
 unfold kK
 rw [vO, kV.2 h, hp]
 simp only [decide_true, Bool.not_true, cond_false, show wi 0 0 9999 = true from rfl, Bool.or_self, Option.bind_some]
 rw [aRx h.len hb h.id, Option.bind_some]
 have key := mG (S := Unit) (fun k j _ => iY l p (dC l) f k j) (dC l).length (fun j _ => some (match (((dC l).drop j).map fun x => x.Hour).find? (yF f l p) with | some x => (x, 0) | none => (0, 3))) (fun _ _ => True) (fun k j _ hj _ ih => ?_) (fun k _ _ => ?_) BIG () (dP (by omega)) trivial
 ·exact key
 ·obtain ⟨s, i, e, hi, hS⟩ := aLt h (dC l)[j].Hour
  have hml := nM hS.good
  have hol := aCn hS.good.wf
  have hwl := hS.good.cn.wl
  simp only [iY, show decide ((j : Int) < ((dC l).length : Int)) = true from decide_eq_true (by omega), cond_true, dA hj, Option.bind_some]
  rw [e, Option.bind_some, aLu hS (by omega), Option.bind_some, aRw _ _ (show (bD (bV f l (dC l)[j].Hour)).length ≤ 1000 by omega) (show (bV f l (dC l)[j].Hour).wilds.length ≤ 1000 by omega) (show (vC (bV f l (dC l)[j].Hour)).length ≤ 1000 by omega), Option.bind_some, oP, Option.bind_some]
  show (bif yF f l p (dC l)[j].Hour then some ((dC l)[j].Hour, 0) else iY l p (dC l) f k (w64 ((j : Int) + 1))) = _
  rw [List.drop_eq_getElem_cons hj, List.map_cons, List.find?_cons, cF (by omega)]
  cases yF f l p (dC l)[j].Hour with
  | true => rfl
  | false => exact ih () trivial
 ·simp [iY, tJ]
theorem aTr (f : aT) (l : List aO) (p : Int) : ∃ v, nJ f l p = some v ∧ kK f l p = some v := by
 by_cases hc : nE f l = 0
 ·have hV := kV.1 hc
  cases hb : wi p 0 999 with
  | true => exact ⟨_, aPb hV hb, aVz hV hb⟩
  | false =>
   refine ⟨(0, 1), ?_, ?_⟩
   ·unfold nJ
    rw [qS, hb, decide_eq_true hc]; rfl
   ·unfold kK
    rw [vO, hb, decide_eq_true hc]; rfl
 ·refine ⟨(0, nE f l), ?_, ?_⟩
  ·unfold nJ
   rw [qS, decide_eq_false hc, Bool.not_false, cond_true, Option.bind_some]
   show (bif !decide (nE f l = 0) then _ else _) = _
   rw [decide_eq_false hc]; rfl
  ·unfold kK
   rw [vO, decide_eq_false hc, Bool.not_false, cond_true, Option.bind_some, decide_eq_false hc]; rfl
end Go.Am
end
