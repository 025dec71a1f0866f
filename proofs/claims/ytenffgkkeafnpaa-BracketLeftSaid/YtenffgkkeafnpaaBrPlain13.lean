/- Layer 7, plain: slips in any order; one more result; who can win. -/
import Derived.Test.YtenffgkkeafnpaaBrPlain12
namespace Go.Am

/-! Only the set of slips counts. -/
theorem aMl {α : Type} {l l' : List α} (hn : l.Nodup) (hn' : l'.Nodup) (h : ∀ x, x ∈ l ↔ x ∈ l') : (l = [] ↔ l' = []) ∧ (∀ x, l = [x] ↔ l' = [x]) := by
  have key : ∀ {l l' : List α}, l.Nodup → l'.Nodup → (∀ x, x ∈ l ↔ x ∈ l') → (l = [] → l' = []) ∧ ∀ x, l = [x] → l' = [x] := by
    intro l l' hn hn' h
    refine ⟨fun e => ?_, fun x e => ?_⟩
    · subst e
      cases l' with
      | nil => rfl
      | cons a l' => exact absurd ((h a).2 (by simp)) (by simp)
    · subst e
      cases l' with
      | nil => exact absurd ((h x).1 (by simp)) (by simp)
      | cons a l' =>
        have ha : a = x := by simpa using (h a).2 (by simp)
        subst ha
        cases l' with
        | nil => rfl
        | cons b l' =>
          have hb : b = a := by simpa using (h b).2 (by simp)
          subst hb
          simp at hn'
  exact ⟨⟨(key hn hn' h).1, (key hn' hn fun x => (h x).symm).1⟩, fun x => ⟨(key hn hn' h).2 x, (key hn' hn fun x => (h x).symm).2 x⟩⟩
theorem aAq {α : Type} [DecidableEq α] {l l' : List α} (hn : l.Nodup) (hn' : l'.Nodup) (h : ∀ x, x ∈ l ↔ x ∈ l') : l.length = l'.length :=
  Nat.le_antisymm (lH hn fun x hx => (h x).1 hx) (lH hn' fun x hx => (h x).2 hx)
theorem aCn {L L' : List aE} (hn : L.Nodup) (hn' : L'.Nodup) (h : ∀ x, x ∈ L ↔ x ∈ L') (i : Int) : ∀ (n : Nat) (now : Int) (ever : List Int) (U : List aE), gS L i n now ever U = gS L' i n now ever U
  | 0, _, _, _ => rfl
  | n + 1, now, ever, U => by
    have hc := aMl (l := fP L i now) (l' := fP L' i now) (hn.filter _) (hn'.filter _) fun x => by simp only [mT, h]
    unfold gS
    cases e : fP L i now with
    | nil => rw [hc.1.1 e]
    | cons s cs =>
      cases cs with
      | nil =>
        rw [(hc.2 s).1 e]
        simp only
        rw [aCn hn hn' h i n]
      | cons s2 cs =>
        cases e' : fP L' i now with
        | nil => rw [hc.1.2 e'] at e; cases e
        | cons s' cs' =>
          cases cs' with
          | nil => rw [(hc.2 s').2 e'] at e; cases e
          | cons s2' cs' => rfl
theorem aCk {L L' : List aE} (hn : L.Nodup) (hn' : L'.Nodup) (h : ∀ x, x ∈ L ↔ x ∈ L') : ∀ (n i : Nat) (d ever : List Int) (U : List aE), iA L n i d ever U = iA L' n i d ever U
  | 0, _, _, _, _ => rfl
  | n + 1, i, d, ever, U => by
    unfold iA
    rw [aCn hn hn' h, aAq hn hn' h]
    cases gS L' i (L'.length + 1) (d.getD i 0) ever U with
    | none => rfl
    | some q => exact aCk hn hn' h n _ _ _ _
theorem qI (l : List aE) : (dD l).Nodup := (uO l).filter _
theorem vW {l : List aE} {x : aE} : x ∈ dD l ↔ x ∈ l ∧ x.Kind = 5 := by simp [dD, kW, isL]
theorem aGx {t : aO} {l l' : List aE} (h : ∀ x : aE, x.Kind = 5 → (x ∈ l ↔ x ∈ l')) : kG t l = kG t l' := by
  have hm : ∀ x, x ∈ dD l ↔ x ∈ dD l' := fun x => by
    rw [vW, vW]
    exact ⟨fun ⟨a, b⟩ => ⟨(h x b).1 a, b⟩, fun ⟨a, b⟩ => ⟨(h x b).2 a, b⟩⟩
  unfold kG wB
  rw [aCk (qI l) (qI l') hm, aAq (qI l) (qI l') hm]
/-! What the claims of a draw are like. -/
section
variable {t : aO} {l : List aE} {d : List Int} (hg : Good t l d)
include hg
theorem Good.fn : Func (eA d (Res l)) := hg.agr.2.fn
theorem Good.rok {x : aE} (hx : Res l x) : ROK t x := zY (hg.slips x hx.1) hx.2
/-- Who has won a match has won those before. -/
theorem Good.down {q p : Nat} {v : Int} (h : eA d (Res l) ⟨q, p⟩ v) : ∃ a, a < d.length ∧ v = d.getD a 0 ∧ d.getD a 0 ≠ -1 ∧ cell a q = ⟨q, p⟩ ∧ q < t.Rounds.toNat ∧ ∀ q', q' ≤ q → eA d (Res l) (cell a q') v := by
  have hD := hg.dok
  have h1 := hg.ht.r1
  rcases h with ⟨i, hi, hb, hm, hv⟩ | ⟨x, hx, a, ha, he, hv, q', hq, hm⟩
  · have hsl : sib i < d.length := by rw [hD.len]; exact tU hg.ht (by rw [← hD.len]; exact hi)
    have hq0 : q = 0 := by simp only [cell, aB.mk.injEq] at hm; omega
    refine ⟨sib i, hsl, hv, hD.sib_ne hg.ht hi hb, by rw [hq0] at hm ⊢; exact hm.symm, by omega, fun q' hq' => ?_⟩
    have : q' = 0 := by omega
    subst this
    exact .inl ⟨i, hi, hb, rfl, hv⟩
  · have hr := hg.rok hx
    have hp := hr.p0
    have hr0 := hr.r0
    have hr1 := hr.r1
    have hqq : q = q' := by simp only [cell, aB.mk.injEq] at hm; omega
    subst hqq
    exact ⟨a, ha, hv, by omega, hm.symm, by omega, fun q' hq' => .inr ⟨x, hx, a, ha, he, hv, q', by omega, rfl⟩⟩
end

/-! One more result. -/
theorem pV {l : List aE} {x : aE} (hx : x.Kind ≠ 5) (y : aE) : Res (l ++ [x]) y ↔ Res l y ∨ y = x := by
  unfold Res
  rw [List.mem_append, List.mem_singleton]
  constructor
  · rintro ⟨h | h, h2⟩
    · exact .inl ⟨h, h2⟩
    · exact .inr h
  · rintro (⟨h, h2⟩ | rfl)
    · exact ⟨.inl h, h2⟩
    · exact ⟨.inr rfl, hx⟩
section
variable {t : aO} {l : List aE} {d : List Int} (hg : Good t l d) {x : aE} (hx : x.Kind ≠ 5) (hs : eL t x = true)
include hg hx hs
theorem tF {a : Nat} (ha : a < d.length) (he : d.getD a 0 = x.Player) (m : aB) (v : Int) : eA d (Res (l ++ [x])) m v ↔ eA d (Res l) m v ∨ clm d a x.Round.toNat m v := by
  have h1 := xV hg.dok (zY hs hx) ha he m v
  constructor
  · rintro (h | ⟨y, hy, h⟩)
    · exact .inl (.inl h)
    · rcases (pV hx y).1 hy with hy | rfl
      · exact .inl (.inr ⟨y, hy, h⟩)
      · exact .inr (h1.1 ⟨_, rfl, h⟩)
  · rintro ((h | ⟨y, hy, h⟩) | h)
    · exact .inl h
    · exact .inr ⟨y, (pV hx y).2 (.inl hy), h⟩
    · exact .inr ⟨x, (pV hx x).2 (.inr rfl), a, ha, he, h⟩
omit hg hs in
theorem aBa : kG t (l ++ [x]) = kG t l := aGx fun y hy => by
  rw [List.mem_append, List.mem_singleton]
  exact ⟨fun h => h.resolve_right fun e => hx (e ▸ hy), .inl⟩
/-- One more result agrees, if its player can win its match, and no other result is about it. -/
theorem aLc {a : Nat} (ha : a < d.length) (he : d.getD a 0 = x.Player) (hc : cell a x.Round.toNat = ⟨x.Round, x.Place⟩) (hco : nI (eA d (Res l)) (clm d a x.Round.toNat)) (hno : ∀ y ∈ l, y.Kind ≠ 5 → y.Round = x.Round → y.Place = x.Place → y = x) : AGR t (l ++ [x]) d := by
  have hO := hg.agr.2
  refine ⟨by rw [aBa hx]; exact hg.agr.1, fun y hy z hz ky kz e1 e2 => ?_, fun y hy => ?_, fun m v w h1 h2 => ?_⟩
  · rcases (pV hx y).1 ⟨hy, ky⟩ with hy' | rfl
    · rcases (pV hx z).1 ⟨hz, kz⟩ with hz' | rfl
      · exact hO.two y hy'.1 z hz'.1 ky kz e1 e2
      · exact hno y hy'.1 ky e1 e2
    · rcases (pV hx z).1 ⟨hz, kz⟩ with hz' | hz'
      · exact (hno z hz'.1 kz e1.symm e2.symm).symm
      · exact hz'.symm
  · rcases (pV hx y).1 hy with hy' | rfl
    · exact hO.slot y hy'
    · exact ⟨a, ha, he, hc⟩
  · rcases (tF hg hx hs ha he m v).1 h1 with p1 | p1 <;> rcases (tF hg hx hs ha he m w).1 h2 with p2 | p2
    · exact hO.fn m v w p1 p2
    · exact hco m v w p1 p2
    · exact (hco m w v p2 p1).symm
    · rw [p1.1, p2.1]
theorem aEx {d' : List Int} (hA : AGR t (l ++ [x]) d') : d' = d ∧ ∃ a, a < d.length ∧ d.getD a 0 = x.Player ∧ cell a x.Round.toNat = ⟨x.Round, x.Place⟩ ∧ nI (eA d (Res l)) (clm d a x.Round.toNat) := by
  have h1 := hA.1
  rw [aBa hx, hg.agr.1] at h1
  cases h1
  obtain ⟨a, ha, he, hc⟩ := hA.2.slot x ((pV hx x).2 (.inr rfl))
  refine ⟨rfl, a, ha, he, hc, fun m v w p1 p2 => hA.2.fn m v w ((tF hg hx hs ha he m v).2 (.inl p1)) ((tF hg hx hs ha he m w).2 (.inr p2))⟩
theorem Good.add {a : Nat} (hl : l.length < 60) (ha : a < d.length) (he : d.getD a 0 = x.Player) (hc : cell a x.Round.toNat = ⟨x.Round, x.Place⟩) (hco : nI (eA d (Res l)) (clm d a x.Round.toNat)) (hno : ∀ y ∈ l, y.Kind ≠ 5 → y.Round = x.Round → y.Place = x.Place → y = x) : Good t (l ++ [x]) d :=
  ⟨hg.tree, by simp; omega, fun s hm => by
    rcases List.mem_append.1 hm with h | h
    · exact hg.slips s h
    · rw [List.mem_singleton.1 h]; exact hs, aLc hg hx hs ha he hc hco hno⟩
theorem Stat.add (hl : l.length < 60) (hno : ¬ ∃ a, a < d.length ∧ d.getD a 0 = x.Player ∧ cell a x.Round.toNat = ⟨x.Round, x.Place⟩ ∧ nI (eA d (Res l)) (clm d a x.Round.toNat)) : Stat t (l ++ [x]) 72 :=
  .s72 hg.tree (by simp; omega) (fun s hm => by
    rcases List.mem_append.1 hm with h | h
    · exact hg.slips s h
    · rw [List.mem_singleton.1 h]; exact hs) fun d' hd => hno (aEx hg hx hs hd).2
end
end Go.Am
