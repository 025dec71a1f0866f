/- Layer 7, plain: slips in any order; one more result; who can win. -/
import Derived.Test.YtenffgkkeafnpaaBrPlain12
namespace Go.Am

/-! Only the set of slips counts. -/
theorem aLz {α : Type} {l l' : List α} (hn : l.Nodup) (hn' : l'.Nodup) (h : ∀ x, x ∈ l ↔ x ∈ l') : (l = [] ↔ l' = []) ∧ (∀ x, l = [x] ↔ l' = [x]) := by
  have key : ∀ {l l' : List α}, l.Nodup → l'.Nodup → (∀ x, x ∈ l ↔ x ∈ l') → (l = [] → l' = []) ∧ ∀ x, l = [x] → l' = [x] := by
    intro l l' hn hn' h
    refine ⟨fun e => ?_, fun x e => ?_⟩
    · subst e
      cases l' with
      | nil => rfl
      | cons a l' => exact absurd ((h a).2 (by simp)) (by simp)
    · subst e
      cases l' with
      | nil => exact absurd ((h x).1 (by simp)) (by simp)
      | cons a l' =>
        have ha : a = x := by simpa using (h a).2 (by simp)
        subst ha
        cases l' with
        | nil => rfl
        | cons b l' =>
          have hb : b = a := by simpa using (h b).2 (by simp)
          subst hb
          simp at hn'
  exact ⟨⟨(key hn hn' h).1, (key hn' hn fun x => (h x).symm).1⟩, fun x => ⟨(key hn hn' h).2 x, (key hn' hn fun x => (h x).symm).2 x⟩⟩
theorem aDg {α : Type} [DecidableEq α] {l l' : List α} (hn : l.Nodup) (hn' : l'.Nodup) (h : ∀ x, x ∈ l ↔ x ∈ l') : l.length = l'.length :=
  Nat.le_antisymm (lE hn fun x hx => (h x).1 hx) (lE hn' fun x hx => (h x).2 hx)
theorem aBw {L L' : List aD} (hn : L.Nodup) (hn' : L'.Nodup) (h : ∀ x, x ∈ L ↔ x ∈ L') (i : Int) : ∀ (n : Nat) (now : Int) (ever : List Int) (U : List aD), gI L i n now ever U = gI L' i n now ever U
  | 0, _, _, _ => rfl
  | n + 1, now, ever, U => by
    have hc := aLz (l := fI L i now) (l' := fI L' i now) (hn.filter _) (hn'.filter _) fun x => by simp only [mJ, h]
    unfold gI
    cases e : fI L i now with
    | nil => rw [hc.1.1 e]
    | cons s cs =>
      cases cs with
      | nil =>
        rw [(hc.2 s).1 e]
        simp only
        rw [aBw hn hn' h i n]
      | cons s2 cs =>
        cases e' : fI L' i now with
        | nil => rw [hc.1.2 e'] at e; cases e
        | cons s' cs' =>
          cases cs' with
          | nil => rw [(hc.2 s').2 e'] at e; cases e
          | cons s2' cs' => rfl
theorem aBv {L L' : List aD} (hn : L.Nodup) (hn' : L'.Nodup) (h : ∀ x, x ∈ L ↔ x ∈ L') : ∀ (n i : Nat) (d ever : List Int) (U : List aD), gZ L n i d ever U = gZ L' n i d ever U
  | 0, _, _, _, _ => rfl
  | n + 1, i, d, ever, U => by
    unfold gZ
    rw [aBw hn hn' h, aDg hn hn' h]
    cases gI L' i (L'.length + 1) (d.getD i 0) ever U with
    | none => rfl
    | some q => exact aBv hn hn' h n _ _ _ _
theorem qA (l : List aD) : (dB l).Nodup := (uG l).filter _
theorem vL {l : List aD} {x : aD} : x ∈ dB l ↔ x ∈ l ∧ x.Kind = 5 := by simp [dB, kT, isL]
theorem aAm {t : aO} {l l' : List aD} (h : ∀ x : aD, x.Kind = 5 → (x ∈ l ↔ x ∈ l')) : jK t l = jK t l' := by
  have hm : ∀ x, x ∈ dB l ↔ x ∈ dB l' := fun x => by
    rw [vL, vL]
    exact ⟨fun ⟨a, b⟩ => ⟨(h x b).1 a, b⟩, fun ⟨a, b⟩ => ⟨(h x b).2 a, b⟩⟩
  unfold jK vP
  rw [aBv (qA l) (qA l') hm, aDg (qA l) (qA l') hm]
/-! What the claims of a draw are like. -/
section
variable {t : aO} {l : List aD} {d : List Int} (hg : Good t l d)
include hg
theorem Good.fn : Func (dC d (Res l)) := hg.agr.2.fn
theorem Good.rok {x : aD} (hx : Res l x) : ROK t x := zJ (hg.slips x hx.1) hx.2
/-- Who has won a match has won those before. -/
theorem Good.down {q p : Nat} {v : Int} (h : dC d (Res l) ⟨q, p⟩ v) : ∃ a, a < d.length ∧ v = d.getD a 0 ∧ d.getD a 0 ≠ -1 ∧ cell a q = ⟨q, p⟩ ∧ q < t.Rounds.toNat ∧ ∀ q', q' ≤ q → dC d (Res l) (cell a q') v := by
  have hD := hg.dok
  have h1 := hg.ht.r1
  rcases h with ⟨i, hi, hb, hm, hv⟩ | ⟨x, hx, a, ha, he, hv, q', hq, hm⟩
  · have hsl : sib i < d.length := by rw [hD.len]; exact rS hg.ht (by rw [← hD.len]; exact hi)
    have hq0 : q = 0 := by simp only [cell, aB.mk.injEq] at hm; omega
    refine ⟨sib i, hsl, hv, hD.sib_ne hg.ht hi hb, by rw [hq0] at hm ⊢; exact hm.symm, by omega, fun q' hq' => ?_⟩
    have : q' = 0 := by omega
    subst this
    exact .inl ⟨i, hi, hb, rfl, hv⟩
  · have hr := hg.rok hx
    have hp := hr.p0
    have hr0 := hr.r0
    have hr1 := hr.r1
    have hqq : q = q' := by simp only [cell, aB.mk.injEq] at hm; omega
    subst hqq
    exact ⟨a, ha, hv, by omega, hm.symm, by omega, fun q' hq' => .inr ⟨x, hx, a, ha, he, hv, q', by omega, rfl⟩⟩
theorem Good.at_cell {a q : Nat} {v : Int} (h : dC d (Res l) (cell a q) v) : ∃ b, b < d.length ∧ v = d.getD b 0 ∧ d.getD b 0 ≠ -1 ∧ cell b q = cell a q ∧ q < t.Rounds.toNat ∧ ∀ q', q' ≤ q → dC d (Res l) (cell b q') v := hg.down h
/-- Somebody can win each match. -/
theorem Good.someone : ∀ {q p : Nat}, q < t.Rounds.toNat → p < cD t q → ∃ a, a < d.length ∧ d.getD a 0 ≠ -1 ∧ cell a q = ⟨q, p⟩ ∧ iC (dC d (Res l)) (clm d a q) := by
  have hD := hg.dok
  intro q
  induction q with
  | zero =>
    intro p hq hp
    by_cases hex : ∃ v, dC d (Res l) ⟨((0 : Nat) : Int), p⟩ v
    · obtain ⟨v, hv⟩ := hex
      obtain ⟨a, ha, e, hn, hc, _, hall⟩ := hg.down hv
      refine ⟨a, ha, hn, hc, ?_⟩
      rintro m v' w hP ⟨rfl, q', hq', rfl⟩
      exact (hg.fn _ _ _ hP (hall q' hq')).trans e
    · have hp0 := sQ hg.ht
      have hlen := hD.len
      have i1 : 2 * p < d.length := by have : p < cD t 0 := hp; omega
      have s1 : sib (2 * p) = 2 * p + 1 := by unfold sib; split <;> omega
      have hn : d.getD (2 * p) 0 ≠ -1 := fun hb => hex ⟨_, .inl ⟨2 * p, i1, hb, by rw [s1]; simp [cell]; omega, rfl⟩⟩
      refine ⟨2 * p, i1, hn, by simp [cell], ?_⟩
      rintro m v' w hP ⟨rfl, q', hq', rfl⟩
      have : q' = 0 := by omega
      subst this
      exact absurd ⟨v', by have : cell (2 * p) 0 = ⟨((0 : Nat) : Int), p⟩ := by simp [cell]
                           rw [← this]; exact hP⟩ hex
  | succ q ih =>
    intro p hq hp
    by_cases hex : ∃ v, dC d (Res l) ⟨((q + 1 : Nat) : Int), p⟩ v
    · obtain ⟨v, hv⟩ := hex
      obtain ⟨a, ha, e, hn, hc, _, hall⟩ := hg.down hv
      refine ⟨a, ha, hn, hc, ?_⟩
      rintro m v' w hP ⟨rfl, q', hq', rfl⟩
      exact (hg.fn _ _ _ hP (hall q' hq')).trans e
    · have hph := rC (t := t) hq
      obtain ⟨a, ha, hn, hc, hco⟩ := ih (p := 2 * p) (by omega) (by omega)
      have hc2 : cell a (q + 1) = ⟨((q + 1 : Nat) : Int), p⟩ := by
        simp only [cell, aB.mk.injEq] at hc ⊢
        refine ⟨trivial, ?_⟩
        have h2 : a / 2 ^ (q + 1) = 2 * p := by omega
        have : a / 2 ^ (q + 1 + 1) = a / 2 ^ (q + 1) / 2 := by rw [Nat.pow_succ, Nat.div_div_eq_div_mul]
        rw [this, h2]; omega
      refine ⟨a, ha, hn, hc2, ?_⟩
      rintro m v' w hP ⟨rfl, q', hq', rfl⟩
      by_cases hqe : q' = q + 1
      · subst hqe
        rw [hc2] at hP
        exact absurd ⟨v', hP⟩ hex
      · exact hco _ v' _ hP ⟨rfl, q', by omega, rfl⟩
end

/-! One more result. -/
theorem pM {l : List aD} {x : aD} (hx : x.Kind ≠ 5) (y : aD) : Res (l ++ [x]) y ↔ Res l y ∨ y = x := by
  unfold Res
  rw [List.mem_append, List.mem_singleton]
  constructor
  · rintro ⟨h | h, h2⟩
    · exact .inl ⟨h, h2⟩
    · exact .inr h
  · rintro (⟨h, h2⟩ | rfl)
    · exact ⟨.inl h, h2⟩
    · exact ⟨.inr rfl, hx⟩
section
variable {t : aO} {l : List aD} {d : List Int} (hg : Good t l d) {x : aD} (hx : x.Kind ≠ 5) (hs : eD t x = true)
include hg hx hs
theorem sR {a : Nat} (ha : a < d.length) (he : d.getD a 0 = x.Player) (m : aB) (v : Int) : dC d (Res (l ++ [x])) m v ↔ dC d (Res l) m v ∨ clm d a x.Round.toNat m v := by
  have h1 := xJ hg.dok (zJ hs hx) ha he m v
  constructor
  · rintro (h | ⟨y, hy, h⟩)
    · exact .inl (.inl h)
    · rcases (pM hx y).1 hy with hy | rfl
      · exact .inl (.inr ⟨y, hy, h⟩)
      · exact .inr (h1.1 ⟨_, rfl, h⟩)
  · rintro ((h | ⟨y, hy, h⟩) | h)
    · exact .inl h
    · exact .inr ⟨y, (pM hx y).2 (.inl hy), h⟩
    · exact .inr ⟨x, (pM hx x).2 (.inr rfl), a, ha, he, h⟩
omit hg hs in
theorem aAl : jK t (l ++ [x]) = jK t l := aAm fun y hy => by
  rw [List.mem_append, List.mem_singleton]
  exact ⟨fun h => h.resolve_right fun e => hx (e ▸ hy), .inl⟩
/-- One more result agrees, if its player can win its match, and no other result is about it. -/
theorem aKj {a : Nat} (ha : a < d.length) (he : d.getD a 0 = x.Player) (hc : cell a x.Round.toNat = ⟨x.Round, x.Place⟩) (hco : iC (dC d (Res l)) (clm d a x.Round.toNat)) (hno : ∀ y ∈ l, y.Kind ≠ 5 → y.Round = x.Round → y.Place = x.Place → y = x) : AGR t (l ++ [x]) d := by
  have hO := hg.agr.2
  refine ⟨by rw [aAl hx]; exact hg.agr.1, fun y hy z hz ky kz e1 e2 => ?_, fun y hy => ?_, fun m v w h1 h2 => ?_⟩
  · rcases (pM hx y).1 ⟨hy, ky⟩ with hy' | rfl
    · rcases (pM hx z).1 ⟨hz, kz⟩ with hz' | rfl
      · exact hO.two y hy'.1 z hz'.1 ky kz e1 e2
      · exact hno y hy'.1 ky e1 e2
    · rcases (pM hx z).1 ⟨hz, kz⟩ with hz' | hz'
      · exact (hno z hz'.1 kz e1.symm e2.symm).symm
      · exact hz'.symm
  · rcases (pM hx y).1 hy with hy' | rfl
    · exact hO.slot y hy'
    · exact ⟨a, ha, he, hc⟩
  · rcases (sR hg hx hs ha he m v).1 h1 with p1 | p1 <;> rcases (sR hg hx hs ha he m w).1 h2 with p2 | p2
    · exact hO.fn m v w p1 p2
    · exact hco m v w p1 p2
    · exact (hco m w v p2 p1).symm
    · rw [p1.1, p2.1]
theorem aEd {d' : List Int} (hA : AGR t (l ++ [x]) d') : d' = d ∧ ∃ a, a < d.length ∧ d.getD a 0 = x.Player ∧ cell a x.Round.toNat = ⟨x.Round, x.Place⟩ ∧ iC (dC d (Res l)) (clm d a x.Round.toNat) := by
  have h1 := hA.1
  rw [aAl hx, hg.agr.1] at h1
  cases h1
  obtain ⟨a, ha, he, hc⟩ := hA.2.slot x ((pM hx x).2 (.inr rfl))
  refine ⟨rfl, a, ha, he, hc, fun m v w p1 p2 => hA.2.fn m v w ((sR hg hx hs ha he m v).2 (.inl p1)) ((sR hg hx hs ha he m w).2 (.inr p2))⟩
theorem Good.add {a : Nat} (hl : l.length < 60) (ha : a < d.length) (he : d.getD a 0 = x.Player) (hc : cell a x.Round.toNat = ⟨x.Round, x.Place⟩) (hco : iC (dC d (Res l)) (clm d a x.Round.toNat)) (hno : ∀ y ∈ l, y.Kind ≠ 5 → y.Round = x.Round → y.Place = x.Place → y = x) : Good t (l ++ [x]) d :=
  ⟨hg.tree, by simp; omega, fun s hm => by
    rcases List.mem_append.1 hm with h | h
    · exact hg.slips s h
    · rw [List.mem_singleton.1 h]; exact hs, aKj hg hx hs ha he hc hco hno⟩
theorem Stat.add (hl : l.length < 60) (hno : ¬ ∃ a, a < d.length ∧ d.getD a 0 = x.Player ∧ cell a x.Round.toNat = ⟨x.Round, x.Place⟩ ∧ iC (dC d (Res l)) (clm d a x.Round.toNat)) : Stat t (l ++ [x]) 72 :=
  .s72 hg.tree (by simp; omega) (fun s hm => by
    rcases List.mem_append.1 hm with h | h
    · exact hg.slips s h
    · rw [List.mem_singleton.1 h]; exact hs) fun d' hd => hno (aEd hg hx hs hd).2
end
end Go.Am
