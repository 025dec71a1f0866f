/- The plain law BracketLucky. -/
import Derived.Test.YtenffgkkeafnpaaBkLucky1
import Derived.Test.YtenffgkkeafnpaaBracketCourse1
namespace Go.Am

/-- A player, the new one for the old one. -/
def qM (o n v : Int) : Int := if v = o then n else v
theorem aHe (v o n : Int) : gU v o n = some (qM o n v) := by
  unfold gU qM
  by_cases h : v = o
  · rw [decide_eq_true h, if_pos h]; rfl
  · rw [decide_eq_false h, if_neg h]; rfl

/-- What is asked of the new player. -/
structure aGf (t : aO) (l : List aE) (d : List Int) (q : Nat) (o n : Int) : Prop where
  qd : q < d.length
  dq : d.getD q 0 = o
  on : o ≠ -1
  n0 : 0 ≤ n
  n9 : n ≤ 999
  ns : n ∉ t.Slots
  nd : ∀ a, a < d.length → d.getD a 0 ≠ n
  nl : ∀ x ∈ l, x.Player ≠ n
  ol : ∀ x ∈ l, x.Kind ≠ 5 → x.Player ≠ o

section
variable {t : aO} {l : List aE} {d : List Int} (hg : Good t l d) {q : Nat} {o n : Int} (hN : aGf t l d q o n)
include hg hN
theorem mG {a : Nat} (ha : a < d.length) : (d.set q n).getD a 0 = qM o n (d.getD a 0) := by
  rw [fT hN.qd]
  unfold qM
  by_cases h : a = q
  · subst h; rw [if_pos rfl, if_pos hN.dq]
  · rw [if_neg h, if_neg fun e => h (hg.dok.uni ha hN.qd (e.trans hN.dq.symm) (by rw [e]; exact hN.on))]
theorem aAp : 0 ≤ o ∧ o ≤ 999 ∧ o ≠ n := by
  have := hg.dok.rng q hN.qd
  have h9 := hg.le999 hN.qd
  have := hN.on
  have := hN.nd q hN.qd
  have := hN.dq
  omega
theorem qJ (m : aB) (v : Int) : eX (d.set q n) (Res (l ++ [⟨5, 0, q, n, o⟩])) m v ↔ ∃ w, eX d (Res l) m w ∧ v = qM o n w := by
  obtain ⟨o0, o9, one⟩ := aAp hg hN
  have hD := hg.dok
  have hlen := hD.len
  have hres : ∀ x, Res (l ++ [⟨5, 0, q, n, o⟩]) x ↔ Res l x := fun x => by
    unfold Res
    rw [List.mem_append, List.mem_singleton]
    constructor
    · rintro ⟨h | h, h2⟩
      · exact ⟨h, h2⟩
      · exact absurd (by rw [h]) h2
    · rintro ⟨h, h2⟩; exact ⟨.inl h, h2⟩
  have hbye : ∀ a, a < d.length → ((d.set q n).getD a 0 = -1 ↔ d.getD a 0 = -1) := fun a ha => by
    rw [mG hg hN ha]
    unfold qM
    have := hN.n0
    split <;> omega
  have hpl : ∀ x, Res l x → ∀ a, a < d.length → ((d.set q n).getD a 0 = x.Player ↔ d.getD a 0 = x.Player) := fun x hx a ha => by
    rw [mG hg hN ha]
    have h1 := hN.nl x hx.1
    have h2 := hN.ol x hx.1 hx.2
    unfold qM
    split
    · rename_i e
      exact ⟨fun h => absurd h.symm h1, fun h => absurd (h.symm.trans e) h2⟩
    · exact Iff.rfl
  have hsib : ∀ i, i < d.length → sib i < d.length := fun i hi => by rw [hlen]; exact tZ hg.ht (by omega)
  constructor
  · rintro (⟨i, hi, hb, hm, rfl⟩ | ⟨x, hx, a, ha, he, rfl, r, hr, hm⟩)
    · rw [List.length_set] at hi
      exact ⟨_, .inl ⟨i, hi, (hbye i hi).1 hb, hm, rfl⟩, mG hg hN (hsib i hi)⟩
    · rw [List.length_set] at ha
      have hx' := (hres x).1 hx
      exact ⟨d.getD a 0, .inr ⟨x, hx', a, ha, (hpl x hx' a ha).1 he, rfl, r, hr, hm⟩, mG hg hN ha⟩
  · rintro ⟨w, ⟨i, hi, hb, hm, rfl⟩ | ⟨x, hx, a, ha, he, rfl, r, hr, hm⟩, rfl⟩
    · exact .inl ⟨i, by rw [List.length_set]; exact hi, (hbye i hi).2 hb, hm, (mG hg hN (hsib i hi)).symm⟩
    · exact .inr ⟨x, (hres x).2 hx, a, by rw [List.length_set]; exact ha, (hpl x hx a ha).2 he, (mG hg hN ha).symm, r, hr, hm⟩
theorem aGt (hl : l.length < 60) : Good t (l ++ [⟨5, 0, q, n, o⟩]) (d.set q n) := by
  obtain ⟨o0, o9, one⟩ := aAp hg hN
  have hD := hg.dok
  have hlen := hD.len
  have hqd := hN.qd
  have hnew : (⟨5, 0, q, n, o⟩ : aE) ∉ l := fun hm => hN.nl _ hm rfl
  have hs : eL t ⟨5, 0, q, n, o⟩ = true := by
    unfold eL
    rw [if_pos rfl, gC.2 ⟨hN.n0, hN.n9⟩, gC.2 ⟨o0, o9⟩, gC.2 (show (0 : Int) ≤ (q : Int) ∧ (q : Int) ≤ (t.Slots.length : Int) - 1 by omega)]
    rfl
  have hsl : ∀ x ∈ l ++ [⟨5, 0, q, n, o⟩], eL t x = true := fun x hx => by
    rcases List.mem_append.1 hx with hx | hx
    · exact hg.slips x hx
    · rw [List.mem_singleton.1 hx]; exact hs
  have hmem : ∀ x ∈ l ++ [⟨5, 0, q, n, o⟩], x.Kind ≠ 5 → x ∈ l := fun x hx hk => by
    rcases List.mem_append.1 hx with hx | hx
    · exact hx
    · rw [List.mem_singleton.1 hx] at hk; exact absurd rfl hk
  have hO := hg.agr.2
  refine ⟨hg.tree, by simp; omega, hsl, aEc hg.ht hg.slips hg.agr.1 rfl hnew rfl hqd hN.dq hN.ns hN.nl one, fun x hx y hy kx ky => hO.two x (hmem x hx kx) y (hmem y hy ky) kx ky, fun x hx => ?_, fun m v w h1 h2 => ?_⟩
  · have hx' : Res l x := ⟨hmem x hx.1 hx.2, hx.2⟩
    obtain ⟨a, ha, he, hc⟩ := hO.slot x hx'
    refine ⟨a, by rw [List.length_set]; exact ha, ?_, hc⟩
    rw [mG hg hN ha, he]
    unfold qM
    rw [if_neg (hN.ol x hx'.1 hx'.2)]
  · obtain ⟨v', p1, rfl⟩ := (qJ hg hN m v).1 h1
    obtain ⟨w', p2, rfl⟩ := (qJ hg hN m w).1 h2
    rw [hO.fn m v' w' p1 p2]
variable {must must' : List (List Int)} (hM : MustIs t must (eX d (Res l))) (hM' : MustIs t must' (eX (d.set q n) (Res (l ++ [⟨5, 0, q, n, o⟩]))))
include hM hM'
theorem xJ {r p : Nat} (hr : r < t.Rounds.toNat) (hp : p < cF t r) : mat must' r p = qM o n (mat must r p) := by
  obtain ⟨o0, o9, one⟩ := aAp hg hN
  by_cases h : mat must r p = -2
  · have e : qM o n (-2) = -2 := by unfold qM; rw [if_neg (by omega)]
    rw [h, e]
    refine Classical.byContradiction fun h2 => ?_
    obtain ⟨w, p1, _⟩ := (qJ hg hN _ _).1 ((hM'.mem r p _ hr hp).1 ⟨rfl, h2⟩)
    have := (hM.mem r p w hr hp).2 p1
    exact this.2 (this.1.symm.trans h)
  · exact ((hM'.mem r p _ hr hp).2 ((qJ hg hN _ _).2 ⟨_, (hM.mem r p _ hr hp).1 ⟨rfl, h⟩, rfl⟩)).1
theorem aAm {x : Nat × Nat} (hx : x ∈ gL t) {s : Nat} (hs : s < 2) : lC (d.set q n) must' x.1 (2 * x.2 + s) = qM o n (lC d must x.1 (2 * x.2 + s)) := by
  have hlen := hg.dok.len
  obtain ⟨h1, h2⟩ := rJ.1 hx
  unfold lC
  rcases aLt hx hs with h0 | ⟨g1, g2⟩
  · rw [if_pos h0, if_pos h0]
    have hp0 := tD hg.ht
    rw [h0] at h2
    have h2' : x.2 < cF t 0 := h2
    exact mG hg hN (by omega)
  · split
    · rename_i h0
      have hp0 := tD hg.ht
      rw [h0] at h2
      have h2' : x.2 < cF t 0 := h2
      exact mG hg hN (by omega)
    · exact xJ hg hN hM hM' g1 g2
omit hM' in
/-- A winner is no one new. -/
theorem aLl {r p : Nat} (hr : r < t.Rounds.toNat) (hp : p < cF t r) : mat must r p ≠ n := by
  have := hN.n0
  intro e
  obtain ⟨a, ha, e2, _⟩ := hg.down ((hM.mem r p _ hr hp).1 ⟨rfl, by omega⟩)
  exact hN.nd a ha (e2.symm.trans e)
theorem aFd : tQ (d.set q n) must' q t = tQ d must q t ∧ oU (d.set q n) must' q t = oU d must q t := by
  obtain ⟨o0, o9, one⟩ := aAp hg hN
  have hlen := hg.dok.len
  have hqd := hN.qd
  have hdq : (d.set q n).getD q 0 = n := by rw [fT hqd, if_pos rfl]
  have n0 := hN.n0
  have key : ∀ r, r < t.Rounds.toNat → decide (mat must' r (q / 2 ^ (r + 1)) = n) = decide (mat must r (q / 2 ^ (r + 1)) = o) ∧ decide (mat must' r (q / 2 ^ (r + 1)) = -2) = decide (mat must r (q / 2 ^ (r + 1)) = -2) := by
    intro r hr
    have hin := nL hg.ht (hlen ▸ hqd) hr
    have h1 := xJ hg hN hM hM' hr hin
    have h2 := aLl hg hN hM hr hin
    rw [h1]
    unfold qM
    by_cases h : mat must r (q / 2 ^ (r + 1)) = o
    · rw [if_pos h, h]
      exact ⟨by simp, by rw [decide_eq_false (by omega), decide_eq_false (by omega)]⟩
    · rw [if_neg h]
      exact ⟨by rw [decide_eq_false h2, decide_eq_false h], rfl⟩
  have hcong : ∀ (b1 b2 : Nat → Bool), (∀ r, r < t.Rounds.toNat → b1 r = b2 r) → iP b1 t.Rounds.toNat = iP b2 t.Rounds.toNat := by
    intro b1 b2 h
    refine Nat.le_antisymm (Nat.le_of_not_lt fun hlt => ?_) (Nat.le_of_not_lt fun hlt => ?_)
    · have hl1 := yU b1 t.Rounds.toNat
      have hb := xB (bad := b2) (n := t.Rounds.toNat) (by omega)
      have := (yT (bad := b1) (show iP b2 t.Rounds.toNat < t.Rounds.toNat by omega)).1 hlt _ (Nat.le_refl _)
      rw [h _ (by omega)] at this
      rw [this] at hb; cases hb
    · have hl1 := yU b2 t.Rounds.toNat
      have hb := xB (bad := b1) (n := t.Rounds.toNat) (by omega)
      have := (yT (bad := b2) (show iP b1 t.Rounds.toNat < t.Rounds.toNat by omega)).1 hlt _ (Nat.le_refl _)
      rw [← h _ (by omega)] at this
      rw [this] at hb; cases hb
  refine ⟨hcong _ _ fun r hr => ?_, hcong _ _ fun r hr => ?_⟩
  · unfold aBj; rw [hdq, (key r hr).1, hN.dq]
  · unfold aBk; rw [hdq, (key r hr).1, (key r hr).2, hN.dq]
variable (hd : cS t l = some (⟨d, must⟩, true)) (hG' : Good t (l ++ [⟨5, 0, q, n, o⟩]) (d.set q n)) (hd' : cS t (l ++ [⟨5, 0, q, n, o⟩]) = some (⟨d.set q n, must'⟩, true))
include hd hG' hd'
theorem aIm {x : dL} (hx : x.A = n) : iK l o (l ++ [⟨5, 0, q, n, o⟩]) t x = some true := by
  obtain ⟨o0, o9, one⟩ := aAp hg hN
  have hqd := hN.qd
  have hdq : (d.set q n).getD q 0 = n := by rw [fT hqd, if_pos rfl]
  have hqd' : q < (d.set q n).length := by rw [List.length_set]; exact hqd
  have n0 := hN.n0
  have n9 := hN.n9
  obtain ⟨e1, e2⟩ := aFd hg hN hM hM'
  have s1 : nG d o = (q : Int) := by rw [← hN.dq]; exact aEj hg.dok hqd (by rw [hN.dq]; exact hN.on)
  have s2 : nG (d.set q n) n = (q : Int) := by
    have := aEj hG'.dok hqd' (by rw [hdq]; omega)
    rwa [hdq] at this
  have s3 : nG (d.set q n) o = -1 := by
    rcases rP (d.set q n) o with ⟨h, _⟩ | ⟨a, _, ha, he⟩
    · exact h
    · rw [List.length_set] at ha
      rw [mG hg hN ha] at he
      unfold qM at he
      split at he
      · omega
      · rename_i h; exact absurd he h
  have r1 : nF t d must o = (⟨tQ d must q t, oU d must q t⟩, 0) := by
    unfold nF
    rw [gC.2 ⟨o0, o9⟩, if_pos rfl, s1, if_neg (by omega), Int.toNat_natCast]
    rfl
  have r2 : nF t (d.set q n) must' n = (⟨tQ d must q t, oU d must q t⟩, 0) := by
    unfold nF
    rw [gC.2 ⟨n0, n9⟩, if_pos rfl, s2, if_neg (by omega), Int.toNat_natCast, ← e1, ← e2]
    rfl
  have r3 : nF t (d.set q n) must' o = (⟨0, 0⟩, 3) := by
    unfold nF
    rw [gC.2 ⟨o0, o9⟩, if_pos rfl, s3, if_pos (by omega)]
  unfold iK iC
  rw [hx, qA hg hd hM, qA hG' hd' hM', qA hG' hd' hM', r1, r2, r3]
  simp [nN]
theorem aGu {x : dL} (hx : x.A = n) : dI l o (l ++ [⟨5, 0, q, n, o⟩]) (fG t d must) (qR t must) (fG t (d.set q n) must') (qR t must') t x BIG 0 = some true := by
  have hend := aIm hg hN hM hM' hd hG' hd' hx
  have hil := tO hg.ht
  have h32 := hg.ht.len32
  have hbl : ∀ dd mm, (fG t dd mm).length = (gL t).length := fun dd mm => by rw [mV, List.length_map]
  have hwl : ∀ mm, (qR t mm).length = (gL t).length := fun mm => by simp [qR]
  have main := tR (fun k i => dI l o (l ++ [⟨5, 0, q, n, o⟩]) (fG t d must) (qR t must) (fG t (d.set q n) must') (qR t must') t x k i) (gL t).length (fun _ => true) (some false) (some true) ?_ ?_ BIG (cY (by omega))
  · rw [main, show (List.range (gL t).length).all (fun _ => true) = true by simp]; rfl
  · intro k i hi
    have hlt : decide ((i : Int) < ((fG t d must).length : Int)) = true := decide_eq_true (by rw [hbl]; omega)
    have i1 : i < (fG t d must).length := by rw [hbl]; exact hi
    have i2 : i < (fG t (d.set q n) must').length := by rw [hbl]; exact hi
    have i3 : i < (qR t must).length := by rw [hwl]; exact hi
    have i4 : i < (qR t must').length := by rw [hwl]; exact hi
    have g1 : (fG t d must)[i] = yG d must (gL t)[i] := by simp only [mV, List.getElem_map]
    have g2 : (fG t (d.set q n) must')[i] = yG (d.set q n) must' (gL t)[i] := by simp only [mV, List.getElem_map]
    have g3 : (qR t must)[i] = mat must (gL t)[i].1 (gL t)[i].2 := by simp only [qR, List.getElem_map]
    have g4 : (qR t must')[i] = mat must' (gL t)[i].1 (gL t)[i].2 := by simp only [qR, List.getElem_map]
    have hxm : (gL t)[i] ∈ gL t := List.getElem_mem hi
    obtain ⟨hr, hp⟩ := rJ.1 hxm
    have c1 := aAm hg hN hM hM' hxm (s := 0) (by omega)
    have c2 := aAm hg hN hM hM' hxm (s := 1) (by omega)
    have c3 := xJ hg hN hM hM' hr hp
    simp only [Nat.add_zero] at c1
    simp only [dI, hlt, cond_true, cJ i1, cJ i2, cJ i3, cJ i4, Option.bind_some, aHe, g1, g2, g3, g4, yG, hx, c1, c2, c3, decide_true, Bool.not_true, cond_false, cK (show i < 9223372036854775807 by omega)]
  · intro k
    have hlt : decide (((gL t).length : Int) < ((fG t d must).length : Int)) = false := decide_eq_false (by rw [hbl]; omega)
    simp only [dI, hlt, cond_false, hend]
end
theorem aIn (A B : Option (List bO × List Int × Bool)) (F : List bO → List Int → List bO → List Int → Option Bool) {a b : List bO} {m k : List Int} (hA : A = some (a, m, true)) (hB : B = some (b, k, true)) (hF : F a m b k = some true) :
    (A.bind fun r30 => B.bind fun r31 => (bif !r30.2.2 then (some true) else (some (!r31.2.2))).bind fun b32 => bif b32 then (some false) else (F r30.1 r30.2.1 r31.1 r31.2.1)) = some true := by
  subst hA; subst hB; exact hF
section
variable {t : aO} {l : List aE} {d : List Int} (hg : Good t l d)
include hg
theorem aGv {x : dL} {q : Nat} {o : Int} (hq : x.Place = (q : Int)) (hl : l.length < 60) (hN : aGf t l d q o x.A) : iJ l o t x = some true := by
  have hG' := aGt hg hN hl
  obtain ⟨must, hd, hM⟩ := mR hg
  obtain ⟨must', hd', hM'⟩ := mR hG'
  have hL := aGu hg hN hM hM' hd hG' hd' (x := x) rfl
  have h1 := aDc hg hd hM
  have h2 := aDc hG' hd' hM'
  generalize hmo : l ++ [(⟨5, 0, q, x.A, o⟩ : aE)] = more at *
  unfold iJ
  rw [hq, hZ (by simp; omega), Option.bind_some, hZ (by simp; omega), Option.bind_some, List.nil_append, hmo]
  exact aIn _ _ (fun a m b k => dI l o more a m b k t x BIG 0) h1 h2 hL
theorem aFe {x : dL} {q : Nat} {o : Int} (hq : x.Place = (q : Int)) (hl : l.length < 60) (hN : (∀ s ∈ l, s.Player ≠ x.A) → (∀ s ∈ l, s.Kind ≠ 5 → s.Player ≠ o) → aGf t l d q o x.A) : iI l o t x = some true := by
  have hK := fun h1 h2 => aGv hg hq hl (hN h1 h2)
  unfold iI
  refine oJ (S := Unit) (fun k i _ => eE l o t x k i) l.length (fun r => r = some true) (fun i _ => (∀ s ∈ l.take i, s.Player ≠ x.A) ∧ ∀ s ∈ l.take i, s.Kind ≠ 5 → s.Player ≠ o) ?_ ?_ BIG 0 () (cY (by omega)) ⟨by simp, by simp⟩
  · rintro k i _ hi ⟨h1, h2⟩ ih
    have ht1 : l.take (i + 1) = l.take i ++ [l[i]] := List.take_succ_eq_append_getElem hi
    simp only [eE, Int.ofNat_lt, hi, decide_true, cond_true, cJ hi, Option.bind_some, iM, mP, cK (show i < 9223372036854775807 by omega)]
    cases hb : (decide (l[i].Player = x.A) || !decide (l[i].Kind = 5) && decide (l[i].Player = o)) with
    | true => simp only [cond_true, nN, Option.bind_some]
    | false =>
      simp only [cond_false]
      simp only [Bool.or_eq_false_iff, Bool.and_eq_false_iff, decide_eq_false_iff_not, Bool.not_eq_false', decide_eq_true_eq] at hb
      refine ih () ⟨fun s hs => ?_, fun s hs hk => ?_⟩
      · rw [ht1, List.mem_append, List.mem_singleton] at hs
        rcases hs with hs | rfl
        · exact h1 s hs
        · exact hb.1
      · rw [ht1, List.mem_append, List.mem_singleton] at hs
        rcases hs with hs | rfl
        · exact h2 s hs hk
        · exact hb.2.resolve_left hk
  · rintro k i _ hi ⟨h1, h2⟩
    have hlt : decide ((i : Int) < (l.length : Int)) = false := decide_eq_false (by omega)
    have hta : l.take i = l := List.take_of_length_le (by omega)
    rw [hta] at h1 h2
    simp only [eE, hlt, cond_false]
    exact hK h1 h2
theorem aFf {x : dL} {q : Nat} (hq : x.Place = (q : Int)) (hqd : q < d.length) (hb : d.getD q 0 ≠ -1) (hA : 0 ≤ x.A) (h9 : x.A ≤ 999) (hl : l.length < 60) : dH l d (d.getD q 0) t x BIG 0 = some true := by
  have hlen := hg.dok.len
  have h32 := hg.ht.len32
  have hK := fun (h1 : x.A ∉ t.Slots) (h2 : ∀ a, a < d.length → d.getD a 0 ≠ x.A) => aFe hg hq hl (o := d.getD q 0) fun h3 h4 => ⟨hqd, rfl, hb, hA, h9, h1, h2, h3, h4⟩
  refine oJ (S := Unit) (fun k i _ => dH l d (d.getD q 0) t x k i) t.Slots.length (fun r => r = some true) (fun i _ => (∀ a, a < i → a < d.length → t.Slots.getD a 0 ≠ x.A ∧ d.getD a 0 ≠ x.A)) ?_ ?_ BIG 0 () (cY (by omega)) (by omega)
  · rintro k i _ hi hI ih
    have hid : i < d.length := by omega
    simp only [dH, Int.ofNat_lt, hi, decide_true, cond_true, cJ hi, cJ hid, Option.bind_some, mP, cK (show i < 9223372036854775807 by omega)]
    rw [← bR hi 0, ← bR hid 0]
    cases hb : (decide (t.Slots.getD i 0 = x.A) || decide (d.getD i 0 = x.A)) with
    | true => simp only [cond_true, nN, Option.bind_some]
    | false =>
      simp only [cond_false]
      simp only [Bool.or_eq_false_iff, decide_eq_false_iff_not] at hb
      refine ih () fun a ha hal => ?_
      by_cases e : a = i
      · subst e; exact hb
      · exact hI a (by omega) hal
  · rintro k i _ hi hI
    have hlt : decide ((i : Int) < (t.Slots.length : Int)) = false := decide_eq_false (by omega)
    simp only [dH, hlt, cond_false]
    refine hK (fun hm => ?_) fun a ha => (hI a (by omega) ha).2
    obtain ⟨a, ha, e⟩ := List.mem_iff_getElem.1 hm
    exact (hI a (by omega) (by omega)).1 (by rw [bR ha]; exact e)
end
theorem aKg (A : Option (List Int × Bool)) (W : Option Bool) (I : List Int → Option Int) (F : List Int → Int → Option Bool) {d : List Int} {z : Int} (hA : A = some (d, true)) (hI : I d = some z) (hW : W = some true) (hF : z ≠ -1 → F d z = some true) :
    (A.bind fun r10 => (bif !r10.2 then (some true) else ((I r10.1).bind fun x11 => some (decide (x11 = (-1))))).bind fun b12 =>
    bif b12 then (W.bind fun r13 => some r13) else ((I r10.1).bind fun x14 => F r10.1 x14)) = some true := by
  subst hA; subst hW
  simp only [Option.bind_some, Bool.not_true, cond_false, hI]
  by_cases h : z = -1
  · simp [h]
  · simp [h, hF h]
theorem rC (t : aO) (l : List aE) (x : dL) (ht : aCi t) (hl : okL xQ l) (hx : sN x) : jQ t l x = some true := by
  unfold jQ
  rcases aFj t l with hr | ⟨d, hg, hr, h60⟩
  · simp only [hr, Option.bind_some, Bool.not_false, cond_true, nN]
  · rw [hr, Option.bind_some, Bool.not_true, cond_false, Option.bind_some, mP, Option.bind_some, mP, Option.bind_some, mP, Option.bind_some, mP, Option.bind_some]
    cases hb : (decide (59 < (l.length : Int)) || decide (x.Place < 0) || decide ((t.Slots.length : Int) ≤ x.Place) || decide (x.A < 0) || decide (999 < x.A)) with
    | true => rw [cond_true, nN]; rfl
    | false =>
      rw [cond_false]
      simp only [Bool.or_eq_false_iff, decide_eq_false_iff_not] at hb
      obtain ⟨⟨⟨⟨h1, h2⟩, h3⟩, h4⟩, h5⟩ := hb
      obtain ⟨q, hq⟩ : ∃ q : Nat, x.Place = q := ⟨x.Place.toNat, by omega⟩
      have hqd : q < d.length := by rw [hg.dok.len]; omega
      exact aKg _ _ (fun dd => idx dd x.Place) (fun dd z => dH l dd z t x BIG 0) (aCy hg) (by rw [hq, cJ hqd, ← bR hqd 0]) nN fun hne => aFf hg hq hqd hne (by omega) (by omega) (by omega)
end Go.Am
