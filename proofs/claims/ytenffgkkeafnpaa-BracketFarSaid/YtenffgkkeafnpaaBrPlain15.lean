/- Layer 7, plain: results that say that a player has won. -/
import Derived.Test.YtenffgkkeafnpaaBrPlain14
namespace Go.Am

/-- A match of the first round with a bye. -/
def rW (t : aO) (p : Nat) : Bool := decide (t.Slots.getD (2 * p) 0 = -1) || decide (t.Slots.getD (2 * p + 1) 0 = -1)
/-- One more result, if it is not known. -/
def qG (t : aO) (l : List aD) (a k : Nat) (n : Int) : List aD :=
  if k = 0 ∧ rW t (a / 2 ^ (k + 1)) = true then l
  else if ∃ y ∈ l, y.Kind ≠ 5 ∧ y.Round = (k : Int) ∧ y.Place = ((a / 2 ^ (k + 1) : Nat) : Int) ∧ y.Player = n then l
  else l ++ [⟨1, k, ((a / 2 ^ (k + 1) : Nat) : Int), n, 0⟩]
theorem aKc (t : aO) (l : List aD) (a k : Nat) (n : Int) : (qG t l a k n).length ≤ l.length + 1 := by
  unfold qG; split
  · omega
  · split
    · omega
    · simp
theorem aKh {t : aO} (ht : TreeOK t) {r p : Nat} (hr : r < t.Rounds.toNat) (hp : p < cD t r) : gT t r p = true := by
  have h1 := ht.r1
  simp only [gT, Bool.and_eq_true, gU]
  omega
theorem xP {t : aO} (ht : TreeOK t) {a k : Nat} {n : Int} (ha : a < t.Slots.length) (hk : k < t.Rounds.toNat) (h0 : 0 ≤ n) (h1 : n ≤ 999) (hb : ¬ (k = 0 ∧ rW t (a / 2 ^ (k + 1)) = true)) : eD t ⟨1, k, ((a / 2 ^ (k + 1) : Nat) : Int), n, 0⟩ = true := by
  have hm := aKh ht hk (kF ht ha hk)
  have hw : wi n 0 999 = true := gU.2 ⟨h0, h1⟩
  have hb' : (decide ((0 : Int) < (k : Int)) || !decide (t.Slots.getD (2 * (((a / 2 ^ (k + 1) : Nat) : Int))).toNat 0 = -1) && !decide (t.Slots.getD (2 * (((a / 2 ^ (k + 1) : Nat) : Int)) + 1).toNat 0 = -1)) = true := by
    by_cases hk0 : k = 0
    · have hbf : rW t (a / 2 ^ (k + 1)) = false := by
        cases h : rW t (a / 2 ^ (k + 1)) with
        | false => rfl
        | true => exact absurd ⟨hk0, h⟩ hb
      have e1 : (2 * (((a / 2 ^ (k + 1) : Nat) : Int))).toNat = 2 * (a / 2 ^ (k + 1)) := by omega
      have e2 : (2 * (((a / 2 ^ (k + 1) : Nat) : Int)) + 1).toNat = 2 * (a / 2 ^ (k + 1)) + 1 := by omega
      rw [e1, e2]
      unfold rW at hbf
      rw [Bool.or_eq_false_iff] at hbf
      rw [hbf.1, hbf.2]
      simp
    · rw [decide_eq_true (by omega)]; rfl
  unfold eD
  simp only [show ((1 : Int) = 5) = False by simp, if_false, hw, hm, hb', show wi 1 1 4 = true by decide, decide_true, Bool.and_self]

section
variable {t : aO} {l : List aD} {d : List Int} (hg : Good t l d)
include hg
theorem Good.bye_claim {a : Nat} (ha : a < d.length) (hn : d.getD a 0 ≠ -1) (hb : rW t (a / 2 ^ (0 + 1)) = true) : dC d (Res l) (cell a 0) (d.getD a 0) := by
  have hD := hg.dok
  have hlen := hD.len
  have hsl : sib a < d.length := by rw [hlen]; exact rS hg.ht (by omega)
  have hbs : d.getD (sib a) 0 = -1 := by
    have hcase : a = 2 * (a / 2 ^ (0 + 1)) ∨ a = 2 * (a / 2 ^ (0 + 1)) + 1 := by simp; omega
    have hna := fun h => hn ((hD.bye a ha).2 h)
    refine (hD.bye _ hsl).2 ?_
    unfold rW at hb
    simp only [Bool.or_eq_true, decide_eq_true_eq] at hb
    unfold sib
    rcases hcase with e | e
    · rw [← e] at hb
      rw [if_pos (by omega)]
      exact hb.resolve_left hna
    · rw [← e] at hb
      rw [if_neg (by omega)]
      have e2 : a - 1 = 2 * (a / 2 ^ (0 + 1)) := by omega
      rw [e2]
      exact hb.resolve_right hna
  refine .inl ⟨sib a, hsl, hbs, ?_, ?_⟩ <;> rw [aBe]
theorem aKd {a k : Nat} {n : Int} (ha : a < d.length) (he : d.getD a 0 = n) (h0 : 0 ≤ n) (h1 : n ≤ 999) (hk : k < t.Rounds.toNat) (hl : l.length < 60) (hco : iC (dC d (Res l)) (clm d a k)) :
    Good t (qG t l a k n) d ∧ ∀ m v, dC d (Res (qG t l a k n)) m v ↔ dC d (Res l) m v ∨ clm d a k m v := by
  have hal : a < t.Slots.length := hg.dok.len ▸ ha
  subst he
  unfold qG
  split
  · rename_i hb
    obtain ⟨rfl, hb⟩ := hb
    refine ⟨hg, fun m v => ⟨.inl, fun h => h.elim id ?_⟩⟩
    rintro ⟨rfl, q, hq, rfl⟩
    have : q = 0 := by omega
    subst this
    exact hg.bye_claim ha (by omega) hb
  · rename_i hb
    split
    · rename_i hex
      obtain ⟨y, hy, hk5, hr, hp, hpl⟩ := hex
      refine ⟨hg, fun m v => ⟨.inl, fun h => h.elim id fun hc => .inr ⟨y, ⟨hy, hk5⟩, a, ha, hpl.symm, ?_⟩⟩⟩
      have e : y.Round.toNat = k := by omega
      rw [e]; exact hc
    · rename_i hno
      have hs := xP hg.ht hal hk h0 h1 hb
      have hx : (⟨1, k, ((a / 2 ^ (k + 1) : Nat) : Int), d.getD a 0, 0⟩ : aD).Kind ≠ 5 := by simp
      refine ⟨hg.add hx hs hl ha rfl (by simp [cell]) hco fun y hy hk5 hr hp => ?_, sR hg hx hs ha rfl⟩
      refine absurd ⟨y, hy, hk5, hr, hp, ?_⟩ hno
      obtain ⟨b, hb', e, hc⟩ := hg.agr.2.slot y ⟨hy, hk5⟩
      have hP : dC d (Res l) (cell a k) y.Player := by
        refine .inr ⟨y, ⟨hy, hk5⟩, b, hb', e, e.symm, y.Round.toNat, Nat.le_refl _, ?_⟩
        rw [hc, hr, hp]; rfl
      exact hco _ _ _ hP ⟨rfl, k, Nat.le_refl _, rfl⟩
theorem aLk {a k : Nat} {n : Int} (ha : a < d.length) (he : d.getD a 0 = n) (h0 : 0 ≤ n) (h1 : n ≤ 999) (hk : k < t.Rounds.toNat) (hl : l.length < 60) (hco : ¬ iC (dC d (Res l)) (clm d a k)) : Stat t (qG t l a k n) 72 := by
  have hal : a < t.Slots.length := hg.dok.len ▸ ha
  subst he
  unfold qG
  split
  · rename_i hb
    obtain ⟨rfl, hb⟩ := hb
    refine absurd ?_ hco
    rintro m v w hP ⟨rfl, q, hq, rfl⟩
    have : q = 0 := by omega
    subst this
    exact hg.fn _ _ _ hP (hg.bye_claim ha (by omega) hb)
  · rename_i hb
    split
    · rename_i hex
      obtain ⟨y, hy, hk5, hr, hp, hpl⟩ := hex
      refine absurd ?_ hco
      rintro m v w hP ⟨rfl, q, hq, rfl⟩
      exact hg.fn _ _ _ hP (.inr ⟨y, ⟨hy, hk5⟩, a, ha, hpl.symm, rfl, q, by omega, rfl⟩)
    · have hs := xP hg.ht hal hk h0 h1 hb
      have hx : (⟨1, k, ((a / 2 ^ (k + 1) : Nat) : Int), d.getD a 0, 0⟩ : aD).Kind ≠ 5 := by simp
      refine Stat.add hg hx hs hl fun ⟨b, hb', e, hc, hco'⟩ => hco ?_
      have : a = b := hg.dok.uni ha hb' e.symm (by omega)
      subst this
      exact hco'
end
/-- Where slips clash, more results do not help. -/
theorem aFv {t : aO} {l l' : List aD} (h : Stat t l 72) (hl : l'.length ≤ 60) (hsub : ∀ s ∈ l, s ∈ l') (hlk : ∀ s ∈ l', s.Kind = 5 → s ∈ l) (hs : ∀ s ∈ l', eD t s = true) : Stat t l' 72 := by
  cases h with
  | s72 ht _ hsl hno =>
    refine .s72 ht hl hs fun d hd => hno d ⟨?_, fun x hx y hy => hd.2.two x (hsub x hx) y (hsub y hy), fun x hx => hd.2.slot x ⟨hsub x hx.1, hx.2⟩, hd.2.fn.sub fun m v hc => ?_⟩
    · rw [aAm (l' := l') fun x hx => ⟨hsub x, fun hm => hlk x hm hx⟩]; exact hd.1
    · rcases hc with hc | ⟨x, hx, hc⟩
      · exact .inl hc
      · exact .inr ⟨x, ⟨hsub x hx.1, hx.2⟩, hc⟩
end Go.Am
