/- Layer 7, plain: more results, one by one. -/
import Derived.Test.YtenffgkkeafnpaaBmSh
import Derived.Test.YtenffgkkeafnpaaBkPlain5
import Derived.Test.YtenffgkkeafnpaaBracketCourse1
namespace Go.Am

theorem uC {bad : Nat → Bool} {n r : Nat} (hr : r ≤ n) : r ≤ mV bad n ↔ ∀ q, q < r → bad q = false := by
  cases r with
  | zero => simp
  | succ r =>
    have := uD (bad := bad) (n := n) (r := r) (by omega)
    constructor
    · intro h q hq
      exact this.1 (by omega) q (by omega)
    · intro h
      have := this.2 fun q hq => h q (by omega)
      omega
theorem aMe {t : aO} (ht : TreeOK t) {l : List aD} (hl : l.length ≤ 1000) {a k : Nat} (ha : a < t.Slots.length) (hk : k < t.Rounds.toNat) (n : Int) : mE t l a k n = some (qG t l a k n) := by
  have h32 := ht.len32
  have h5 := ht.r5
  have hw : w64 ((k : Int) + 1) = ((k + 1 : Nat) : Int) := cF (by omega)
  have hu : IntKind.u64.wrap ((k + 1 : Nat) : Int) = ((k + 1 : Nat) : Int) := lR (by omega) (by omega)
  have hch : chk (decide (0 ≤ ((k + 1 : Nat) : Int))) = some () := by unfold chk; rw [decide_eq_true (by omega)]; rfl
  have hmin : min ((k + 1 : Nat) : Int).toNat 64 = k + 1 := by omega
  have hin := kF ht ha hk
  have hbye : ((bif decide ((k : Int) = 0) then ((idx t.Slots (w64 (2 * ((a / 2 ^ (k + 1) : Nat) : Int)))).bind fun x4 => (bif decide (x4 = (-1)) then (some true) else ((idx t.Slots (w64 ((w64 (2 * ((a / 2 ^ (k + 1) : Nat) : Int))) + 1))).bind fun x5 => some (decide (x5 = (-1))))).bind fun b6 => some b6) else (some false))) = some (decide (k = 0) && rW t (a / 2 ^ (k + 1))) := by
    by_cases h0 : k = 0
    · subst h0
      have hp0 := sQ ht
      have hin' : a / 2 ^ (0 + 1) < cD t 0 := hin
      generalize a / 2 ^ (0 + 1) = p at *
      have w1 : w64 (2 * (p : Int)) = ((2 * p : Nat) : Int) := by rw [eZ (by omega) (by omega)]; omega
      have w2 : w64 (((2 * p : Nat) : Int) + 1) = ((2 * p + 1 : Nat) : Int) := cF (by omega)
      have i1 : 2 * p < t.Slots.length := by omega
      have i2 : 2 * p + 1 < t.Slots.length := by omega
      simp only [Int.natCast_zero, decide_true, cond_true, w1, w2, cI i1, cI i2, Option.bind_some, nG, Bool.true_and, rW, bJ i1, bJ i2]
    · have e0 : decide ((k : Int) = 0) = false := decide_eq_false (by omega)
      simp only [e0, cond_false, h0, decide_false, Bool.false_and]
  have hloop : fY k n ((a / 2 ^ (k + 1) : Nat) : Int) l BIG 0 = some (if ∃ y ∈ l, y.Kind ≠ 5 ∧ y.Round = (k : Int) ∧ y.Place = ((a / 2 ^ (k + 1) : Nat) : Int) ∧ y.Player = n then l else l ++ [⟨1, k, ((a / 2 ^ (k + 1) : Nat) : Int), n, 0⟩]) := by
    generalize ((a / 2 ^ (k + 1) : Nat) : Int) = p
    refine oF (S := Unit) (fun q i _ => fY k n p l q i) l.length (fun o => o = some (if ∃ y ∈ l, y.Kind ≠ 5 ∧ y.Round = (k : Int) ∧ y.Place = p ∧ y.Player = n then l else l ++ [⟨1, k, p, n, 0⟩])) (fun i _ => ∀ y ∈ l.take i, ¬ (y.Kind ≠ 5 ∧ y.Round = (k : Int) ∧ y.Place = p ∧ y.Player = n)) ?_ ?_ BIG 0 () (cU (by omega)) (by simp)
    · rintro q i _ hi hI ih
      have ht1 : l.take (i + 1) = l.take i ++ [l[i]] := List.take_succ_eq_append_getElem hi
      have hlt : decide ((i : Int) < (l.length : Int)) = true := decide_eq_true (by omega)
      simp only [fY, hlt, cond_true, cI hi, Option.bind_some, iD, cF (show i < 9223372036854775807 by omega)]
      cases hb : (!decide (l[i].Kind = 5) && decide (l[i].Round = (k : Int)) && decide (l[i].Place = p) && decide (l[i].Player = n)) with
      | true =>
        simp only [Bool.and_eq_true, Bool.not_eq_true', decide_eq_false_iff_not, decide_eq_true_eq] at hb
        rw [cond_true, if_pos ⟨l[i], List.getElem_mem hi, hb.1.1.1, hb.1.1.2, hb.1.2, hb.2⟩]
      | false =>
        rw [cond_false]
        refine ih () fun y hy => ?_
        rw [ht1, List.mem_append, List.mem_singleton] at hy
        rcases hy with hy | rfl
        · exact hI y hy
        · rintro ⟨c1, c2, c3, c4⟩
          simp [c1, c2, c3, c4] at hb
    · rintro q i _ hi hI
      have hlt : decide ((i : Int) < (l.length : Int)) = false := decide_eq_false (by omega)
      have hta : l.take i = l := List.take_of_length_le (by omega)
      rw [hta] at hI
      simp only [fY, hlt, cond_false, oQ]
      rw [iG (by simp; omega), Option.bind_some, if_neg fun ⟨y, hy, h⟩ => hI y hy h]
  unfold mE
  simp only [hw, hu, hch, hmin, oD, Option.bind_some, hbye]
  unfold qG
  by_cases hb : k = 0 ∧ rW t (a / 2 ^ (k + 1)) = true
  · have : (decide (k = 0) && rW t (a / 2 ^ (k + 1))) = true := by simpa using hb
    rw [if_pos hb, this]; rfl
  · have : (decide (k = 0) && rW t (a / 2 ^ (k + 1))) = false := by
      rw [Bool.eq_false_iff]; intro h
      simp only [Bool.and_eq_true, decide_eq_true_eq] at h
      exact hb h
    rw [if_neg hb, this, cond_false, hloop]

/-- A player can have won the first n matches. -/
def CW (P : iR) (d : List Int) (a n : Nat) : Prop := ∀ q, q < n → ∀ v, P (cell a q) v → v = d.getD a 0
theorem aKk {t : aO} (ht : TreeOK t) {d : List Int} (hD : DOK t d) {must : List (List Int)} {P : iR} (hM : MustIs t must P) {a n : Nat} (ha : a < d.length) (hn : n ≤ t.Rounds.toNat) : n ≤ lJ d must a t ↔ CW P d a n := by
  unfold lJ
  rw [uC hn]
  exact ⟨fun h q hq v hv => (vA ht hD hM ha (by omega)).1 (h q hq) v hv, fun h q hq => (vA ht hD hM ha (by omega)).2 (h q hq)⟩
/-- Slips that stay valid. -/
theorem aGx {t : aO} (ht : TreeOK t) {l : List aD} (hs : ∀ s ∈ l, eD t s = true) {a k : Nat} {n : Int} (ha : a < t.Slots.length) (hk : k < t.Rounds.toNat) (h0 : 0 ≤ n) (h1 : n ≤ 999) : (∀ s ∈ qG t l a k n, eD t s = true) ∧ (∀ s ∈ l, s ∈ qG t l a k n) ∧ ∀ s ∈ qG t l a k n, s.Kind = 5 → s ∈ l := by
  unfold qG
  split
  · exact ⟨hs, fun s h => h, fun s h _ => h⟩
  · rename_i hb
    split
    · exact ⟨hs, fun s h => h, fun s h _ => h⟩
    · refine ⟨fun s h => ?_, fun s h => List.mem_append_left _ h, fun s h hk5 => ?_⟩
      · rcases List.mem_append.1 h with h | h
        · exact hs s h
        · rw [List.mem_singleton.1 h]; exact xP ht ha hk h0 h1 hb
      · rcases List.mem_append.1 h with h | h
        · exact h
        · rw [List.mem_singleton.1 h] at hk5; simp at hk5
/-- What has been added: C: the claims; bad: that they do not agree. -/
def aFm (t : aO) (d : List Int) (o : List aD) (C : iR) (bad : Prop) (n : Nat) : Prop :=
  (∀ s ∈ o, eD t s = true) ∧ o.length ≤ n ∧ ((Good t o d ∧ ∀ m v, dC d (Res o) m v ↔ C m v) ∨ (Stat t o 72 ∧ bad))
theorem aFr {t : aO} (ht : TreeOK t) {d : List Int} (hlen : d.length = t.Slots.length) {o : List aD} {C C' : iR} {bad : Prop} {n : Nat} (h : aFm t d o C bad n) (hn : n < 60) {a k : Nat} (ha : a < d.length) (h0 : 0 ≤ d.getD a 0) (h1 : d.getD a 0 ≤ 999) (hk : k < t.Rounds.toNat)
    (hC : ∀ m v, C' m v ↔ C m v ∨ clm d a k m v) (hb : ¬ iC C (clm d a k) → bad) : aFm t d (qG t o a k (d.getD a 0)) C' bad (n + 1) := by
  obtain ⟨g1, g2, g3⟩ := h
  have hal : a < t.Slots.length := hlen ▸ ha
  obtain ⟨v1, v2, v3⟩ := aGx ht g1 hal hk h0 h1
  have hwl := aKc t o a k (d.getD a 0)
  refine ⟨v1, by omega, ?_⟩
  rcases g3 with ⟨hg, hc⟩ | ⟨hs, hbad⟩
  · by_cases hco : iC C (clm d a k)
    · obtain ⟨w1, w2⟩ := aKd hg ha rfl h0 h1 hk (by omega) fun m v w hp hq => hco m v w ((hc m v).1 hp) hq
      exact .inl ⟨w1, fun m v => (w2 m v).trans ((or_congr (hc m v) Iff.rfl).trans (hC m v).symm)⟩
    · exact .inr ⟨aLk hg ha rfl h0 h1 hk (by omega) fun h => hco fun m v w hp hq => h m v w ((hc m v).2 hp) hq, hb hco⟩
  · exact .inr ⟨aFv hs (by omega) v2 v3 v1, hbad⟩
/-- The cells of a slot up to a round. -/
def sC (d : List Int) (a n : Nat) : iR := fun m v => v = d.getD a 0 ∧ ∃ q, q < n ∧ m = cell a q
theorem aIl (d : List Int) (a n : Nat) (m : aB) (v : Int) : sC d a (n + 1) m v ↔ clm d a n m v := by
  unfold sC clm
  exact and_congr Iff.rfl ⟨fun ⟨q, h, e⟩ => ⟨q, by omega, e⟩, fun ⟨q, h, e⟩ => ⟨q, by omega, e⟩⟩
theorem aLi {d : List Int} {a n n' : Nat} (h : n ≤ n') {m : aB} {v : Int} (hu : sC d a n m v) : sC d a n' m v := ⟨hu.1, let ⟨q, hq, e⟩ := hu.2; ⟨q, by omega, e⟩⟩
end Go.Am
