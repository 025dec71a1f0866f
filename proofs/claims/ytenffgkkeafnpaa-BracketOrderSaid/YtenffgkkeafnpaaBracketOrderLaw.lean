/- The plain law BracketOrder. -/
import Derived.Test.YtenffgkkeafnpaaBkPlain5
namespace Go.Am

theorem aKb (A B : Option (List bP × List Int × Bool)) (W : Option Bool) (S : List bP → List bP → Option Bool) (I : List Int → List Int → Option Bool) {r : List bP × List Int × Bool} (hA : A = some r) (hB : B = some r) (hr : r.2.2 = true) (hS : S r.1 r.1 = some true) (hI : I r.2.1 r.2.1 = some true) (hW : W = some true) :
    (A.bind fun r41 => B.bind fun r42 =>
    (bif r41.2.2 then (some r42.2.2) else (some false)).bind fun b43 =>
    (bif b43 then ((S r41.1 r42.1).bind fun r44 => some r44) else (some false)).bind fun b45 =>
    (bif b45 then ((I r41.2.1 r42.2.1).bind fun r46 => some r46) else (some false)).bind fun b47 =>
    (bif b47 then (W.bind fun r48 => some r48) else (some false)).bind fun b49 =>
    some b49) = some true := by
  subst hA; subst hB; subst hW
  simp [hr, hS, hI]
theorem vV {t : aP} {l l' : List aE} {d : List Int} (hg : Good t l d) (hg' : Good t l' d) (h : ∀ m v, eB d (Res l) m v ↔ eB d (Res l') m v) :
    ((dK t l).bind fun r41 => (dK t l').bind fun r42 =>
    (bif r41.2.2 then (some r42.2.2) else (some false)).bind fun b43 =>
    (bif b43 then ((dT r41.1 r42.1).bind fun r44 => some r44) else (some false)).bind fun b45 =>
    (bif b45 then ((dS r41.2.1 r42.2.1).bind fun r46 => some r46) else (some false)).bind fun b47 =>
    (bif b47 then (fP.bind fun r48 => some r48) else (some false)).bind fun b49 =>
    some b49) = some true := by
  obtain ⟨r, h1, h2, h3, h4, h5⟩ := aJb hg hg' h
  exact aKb _ _ _ dT dS h1 h2 h3 (aBg _ (by omega)) (aBh _ (by omega)) uL

section
variable {t : aP} {l : List aE} {d : List Int} (hg : Good t l d) (h58 : l.length ≤ 58)
include hg
theorem aDk {l' : List aE} (hm : ∀ x, x ∈ l' ↔ x ∈ l) (hl : l'.length ≤ 60) : Good t l' d := ⟨hg.tree, hl, fun s hs => hg.slips s ((hm s).1 hs), aKs (fun x => (hm x).symm) hg.agr⟩
omit hg in
theorem zR {l' : List aE} (hm : ∀ x, x ∈ l' ↔ x ∈ l) (m : aB) (v : Int) : eB d (Res l) m v ↔ eB d (Res l') m v := aCs (fun x => by unfold Res; rw [hm]) m v
/-- A slip that says what is sure. -/
theorem aKf {must : List (List Int)} (hM : MustIs t must (eB d (Res l))) {r p : Nat} (hr : r < t.Rounds.toNat) (hp : p < cF t r) {n : Int} (hn : mat must r p = n) (h2 : n ≠ -2) (hl : l.length < 60) (hb : ¬ (r = 0 ∧ sX t p = true)) (hno : ∀ y ∈ l, y.Kind ≠ 5 → y.Round = r → ¬ y.Place = p) :
    0 ≤ n ∧ Good t (l ++ [⟨1, r, p, n, 0⟩]) d ∧ ∀ m v, eB d (Res l) m v ↔ eB d (Res (l ++ [⟨1, r, p, n, 0⟩])) m v := by
  have hP := (hM.mem r p n hr hp).1 ⟨hn, h2⟩
  obtain ⟨a, ha, e, hna, hc, _, hall⟩ := hg.down hP
  have hrng := hg.dok.rng a ha
  have h0 : 0 ≤ n := by omega
  have h999 : n ≤ 999 := by
    rcases hP with ⟨i, hi, hbi, hm, hv⟩ | ⟨x, hx, b, hb', he, hv, _⟩
    · have hr0 : r = 0 := by simp only [cell, aB.mk.injEq] at hm; omega
      subst hr0
      refine absurd ⟨rfl, ?_⟩ hb
      have hDi := (hg.dok.bye i hi).1 hbi
      have hpi : p = i / 2 := by rw [vG] at hm; simp only [cell, aB.mk.injEq] at hm; omega
      unfold sX
      rw [Bool.or_eq_true, decide_eq_true_eq, decide_eq_true_eq, hpi]
      rcases (show i = 2 * (i / 2) ∨ i = 2 * (i / 2) + 1 by omega) with e2 | e2
      · exact .inl (e2 ▸ hDi)
      · exact .inr (e2 ▸ hDi)
    · have hs := hg.slips x hx.1
      simp only [eS, hx.2, if_false, Bool.and_eq_true, jG] at hs
      rw [hv, he]; exact hs.1.2
  have hpa : p = a / 2 ^ (r + 1) := by simp only [cell, aB.mk.injEq] at hc; omega
  have hs : eS t ⟨1, r, p, n, 0⟩ = true := by
    have := aIv hg.ht (a := a) (k := r) (n := n) (hg.dok.len ▸ ha) hr h0 h999 (by rw [← hpa]; exact hb)
    rw [← hpa] at this
    exact this
  have hx : (⟨1, r, p, n, 0⟩ : aE).Kind ≠ 5 := by simp
  have hco : nG (eB d (Res l)) (clm d a r) := by
    rintro m v w hP' ⟨rfl, q, hq, rfl⟩
    exact (hg.fn _ _ _ hP' (hall q hq)).trans e
  refine ⟨h0, hg.add hx hs hl ha e.symm hc hco fun y hy k5 e1 e2 => absurd e2 (hno y hy k5 e1), fun m v => ⟨fun h => (qV hg hx hs ha e.symm m v).2 (.inl h), fun h => ?_⟩⟩
  rcases (qV hg hx hs ha e.symm m v).1 h with h | ⟨rfl, q, hq, rfl⟩
  · exact h
  · rw [← e]; exact hall q hq
/-- The end: with the slip about the match, or without. -/
theorem aIg {must : List (List Int)} (hM : MustIs t must (eB d (Res l))) {l' : List aE} (hm : ∀ x, x ∈ l' ↔ x ∈ l) (hl : l'.length < 60) {r p : Nat} (hr : r < t.Rounds.toNat) (hp : p < cF t r) (free : Bool) (n : Int)
    (hf : free = true → mat must r p = n ∧ n ≠ -2 ∧ ¬ (r = 0 ∧ sX t p = true) ∧ ∀ y ∈ l, y.Kind ≠ 5 → y.Round = r → ¬ y.Place = p) : gJ l free t l' ⟨1, r, p, max 0 n, 0⟩ = some true := by
  have hg' := aDk hg hm (by omega)
  have hc' := zR (d := d) hm
  unfold gJ
  cases free with
  | false => rw [cond_false]; exact vV hg hg' hc'
  | true =>
    obtain ⟨f1, f2, f3, f4⟩ := hf rfl
    obtain ⟨h0, hG, hC⟩ := aKf hg' (hM.ext hc') hr hp f1 f2 hl f3 fun y hy => f4 y ((hm y).1 hy)
    have e : max 0 n = n := by omega
    rw [cond_true, e, iD (by simp; omega), Option.bind_some]
    exact vV hg hG fun m v => (hc' m v).trans (hC m v)
theorem aGq {must : List (List Int)} (hM : MustIs t must (eB d (Res l))) {l' : List aE} (hm : ∀ x, x ∈ l' ↔ x ∈ l) (hl : l'.length < 60) {r p : Nat} (hr : r < t.Rounds.toNat) (hp : p < cF t r) {x : eQ} (ex : x.Round = r) (ep : x.Place = p) (f0 : Bool) (n : Int)
    (hf : f0 = true → mat must r p = n ∧ n ≠ -2 ∧ ¬ (r = 0 ∧ sX t p = true)) : cU l t x l' ⟨1, x.Round, x.Place, max 0 n, 0⟩ BIG f0 0 = some true := by
  have hlen := hg.len
  rw [ex, ep]
  have hE := fun free hh => aIg hg hM hm hl hr hp free n hh
  refine pT (S := Bool) (fun k i f => cU l t x l' ⟨1, r, p, max 0 n, 0⟩ k f i) l.length (fun o => o = some true) (fun i f => f = true → (mat must r p = n ∧ n ≠ -2 ∧ ¬ (r = 0 ∧ sX t p = true)) ∧ ∀ y ∈ l.take i, y.Kind ≠ 5 → y.Round = r → ¬ y.Place = p) ?_ ?_ BIG 0 f0 (cX (by omega)) (fun h => ⟨hf h, by simp⟩)
  · rintro k i f hi hI ih
    have hlt : decide ((i : Int) < (l.length : Int)) = true := decide_eq_true (by omega)
    simp only [cU, hlt, cond_true, cL hi, Option.bind_some, rH, iM, ex, ep, cK (show i < 9223372036854775807 by omega)]
    refine ih _ fun hb => ?_
    simp only [Bool.and_eq_true, Bool.or_eq_true, decide_eq_true_eq, Bool.not_eq_true', decide_eq_false_iff_not] at hb
    obtain ⟨h1, h2⟩ := hI hb.1
    refine ⟨h1, fun y hy k5 e1 e2 => ?_⟩
    rw [List.take_succ_eq_append_getElem hi, List.mem_append, List.mem_singleton] at hy
    rcases hy with hy | rfl
    · exact h2 y hy k5 e1 e2
    · rcases hb.2 with (h | h) | h
      · exact k5 h
      · exact h e1
      · exact h e2
  · rintro k i f hi hI
    have hlt : decide ((i : Int) < (l.length : Int)) = false := decide_eq_false (by omega)
    have hta : l.take i = l := List.take_of_length_le (by omega)
    rw [hta] at hI
    simp only [cU, hlt, cond_false]
    exact hE f fun hh => ⟨(hI hh).1.1, (hI hh).1.2.1, (hI hh).1.2.2, (hI hh).2⟩
/-- Behind the slips moved: the match asked for. -/
theorem yN {l' : List aE} (hm : ∀ x, x ∈ l' ↔ x ∈ l) (hl : l'.length < 60) (x : eQ) :
    ((fH t x.Round x.Place).bind fun r59 =>
    bif r59 then ((iE t l x.Round x.Place).bind fun r60 =>
    (bif decide (r60.2 = 0) then ((bif decide (0 < x.Round) then (some true) else ((idx t.Slots (w64 (2 * x.Place))).bind fun x62 =>
    (bif !decide (x62 = (-1)) then ((idx t.Slots (w64 ((w64 (2 * x.Place)) + 1))).bind fun x63 =>
    some (!decide (x63 = (-1)))) else (some false)).bind fun b64 =>
    some b64)).bind fun b65 =>
    some b65) else (some false)).bind fun b66 =>
    cU l t x l' (aE.mk 1 x.Round x.Place (max 0 r60.1) 0) BIG b66 0)
    else ((dK t l).bind fun r67 =>
    (dK t l').bind fun r68 =>
    (bif r67.2.2 then (some r68.2.2) else (some false)).bind fun b69 =>
    (bif b69 then ((dT r67.1 r68.1).bind fun r70 =>
    some r70) else (some false)).bind fun b71 =>
    (bif b71 then ((dS r67.2.1 r68.2.1).bind fun r72 =>
    some r72) else (some false)).bind fun b73 =>
    (bif b73 then ((fP).bind fun r74 =>
    some r74) else (some false)).bind fun b75 =>
    some b75)) = some true := by
  obtain ⟨must, hd, hM⟩ := mA hg
  rw [vC hg.ht, Option.bind_some]
  cases hmb : fY t x.Round x.Place with
  | false => rw [cond_false]; exact vV hg (aDk hg hm (by omega)) (zR hm)
  | true =>
    obtain ⟨r, p, er, ep, hr, hp⟩ := qG hmb
    have hF := fun f0 n hh => aGq hg hM hm hl hr hp er ep f0 n hh
    rw [cond_true]
    unfold iE
    have hW := uC hg hd hM (aGl hg.ht hr hp)
    rw [← er, ← ep] at hW
    rw [hW, Option.bind_some]
    have h32 := hg.ht.len32
    by_cases h2 : mat must r p = -2
    · simp only [h2, if_true, show decide ((3 : Int) = 0) = false by decide, cond_false, Option.bind_some]
      exact hF false 0 fun h => by cases h
    · simp only [h2, if_false, decide_true, cond_true]
      have hbye : (bif decide (0 < x.Round) then (some true) else ((idx t.Slots (w64 (2 * x.Place))).bind fun x62 => (bif !decide (x62 = (-1)) then ((idx t.Slots (w64 ((w64 (2 * x.Place)) + 1))).bind fun x63 => some (!decide (x63 = (-1)))) else (some false)).bind fun b64 => some b64)) = some (!(decide (r = 0) && sX t p)) := by
        by_cases h0 : r = 0
        · subst h0
          have hp0 := uU hg.ht
          have hpp' : p < cF t 0 := hp
          have w1 : w64 (2 * x.Place) = ((2 * p : Nat) : Int) := by rw [ep, eK (by omega) (by omega)]; omega
          have w2 : w64 (((2 * p : Nat) : Int) + 1) = ((2 * p + 1 : Nat) : Int) := cK (by omega)
          have i1 : 2 * p < t.Slots.length := by omega
          have i2 : 2 * p + 1 < t.Slots.length := by omega
          have e0 : decide (0 < x.Round) = false := decide_eq_false (by omega)
          simp only [e0, cond_false, w1, w2, cL i1, cL i2, Option.bind_some, iM, decide_true, Bool.true_and, sX, bW i1, bW i2, Bool.not_or]
        · have e0 : decide (0 < x.Round) = true := decide_eq_true (by omega)
          simp only [e0, cond_true, h0, decide_false, Bool.false_and, Bool.not_false]
      rw [hbye, Option.bind_some, Option.bind_some]
      refine hF _ (mat must r p) fun h => ⟨rfl, h2, fun ⟨a, b⟩ => ?_⟩
      simp [a, b] at h
/-- Behind the loop that moves the slips. -/
theorem aEz (h58 : l.length ≤ 58) {l' : List aE} (hm : ∀ x, x ∈ l' ↔ x ∈ l) (hl : l'.length = l.length) (x : eQ) : fE l t x l' = some true := by
  unfold fE
  by_cases h0 : 0 < l.length
  · have e0 : decide ((0 : Int) < (l.length : Int)) = true := decide_eq_true (by omega)
    have hi : idx l 0 = some l[0] := by have := cL (xs := l) (i := 0) h0; simpa using this
    rw [e0, cond_true, hi, Option.bind_some, iD (by simp; omega), Option.bind_some]
    exact yN hg (fun y => by
      rw [List.mem_append, List.mem_singleton, hm]
      exact ⟨fun h => h.elim id fun e => e ▸ List.getElem_mem h0, .inl⟩) (by simp; omega) x
  · have e0 : decide ((0 : Int) < (l.length : Int)) = false := decide_eq_false (by omega)
    rw [e0, cond_false]
    exact yN hg hm (by omega) x
end
/-- The slips moved: from the last one on. -/
def oZ (l : List aE) (s : Nat) : Nat → List aE
  | 0 => []
  | j + 1 => l.getD ((j + s) % l.length) ⟨0, 0, 0, 0, 0⟩ :: oZ l s j
theorem aAf (l : List aE) (s : Nat) : ∀ j, (oZ l s j).length = j
  | 0 => rfl
  | j + 1 => by simp [oZ, aAf l s j]
theorem aAe {l : List aE} {s : Nat} {x : aE} : ∀ {j : Nat}, x ∈ oZ l s j ↔ ∃ i, i < j ∧ x = l.getD ((i + s) % l.length) ⟨0, 0, 0, 0, 0⟩
  | 0 => by simp [oZ]
  | j + 1 => by
    rw [oZ, List.mem_cons, aAe]
    constructor
    · rintro (rfl | ⟨i, h1, h2⟩)
      · exact ⟨j, by omega, rfl⟩
      · exact ⟨i, by omega, h2⟩
    · rintro ⟨i, h1, h2⟩
      by_cases e : i = j
      · subst e; exact .inl h2
      · exact .inr ⟨i, by omega, h2⟩
theorem aIb {l : List aE} {s : Nat} (hs : l.length = 0 ∨ s < l.length) (x : aE) : x ∈ oZ l s l.length ↔ x ∈ l := by
  rw [aAe]
  constructor
  · rintro ⟨i, hi, rfl⟩
    have : (i + s) % l.length < l.length := Nat.mod_lt _ (by omega)
    rw [bW this]; exact List.getElem_mem this
  · intro hx
    obtain ⟨j, hj, rfl⟩ := List.mem_iff_getElem.1 hx
    have hs' : s < l.length := by omega
    by_cases hjs : s ≤ j
    · refine ⟨j - s, by omega, ?_⟩
      have e : (j - s + s) % l.length = j := by rw [Nat.sub_add_cancel hjs, Nat.mod_eq_of_lt hj]
      rw [e, bW hj]
    · refine ⟨j + l.length - s, by omega, ?_⟩
      have e : (j + l.length - s + s) % l.length = j := by rw [Nat.sub_add_cancel (by omega), Nat.add_mod_right, Nat.mod_eq_of_lt hj]
      rw [e, bW hj]
theorem aGr {t : aP} {l : List aE} {x : eQ} (h58 : l.length ≤ 58) (hA : 0 ≤ x.A) (hx : x.A ≤ 9223372036854775807) (hK : ∀ l', (∀ y, y ∈ l' ↔ y ∈ l) → l'.length = l.length → fE l t x l' = some true) :
    dV l t x BIG (w64 ((l.length : Int) - 1)) [] = some true := by
  have key : ∀ j k acc, j ≤ l.length → j < k → acc.length + j = l.length → dV l t x k ((j : Int) - 1) acc = fE l t x (acc ++ oZ l (x.A.toNat % l.length) j) := by
    intro j
    induction j with
    | zero =>
      intro k acc hj hk ha
      cases k with
      | zero => omega
      | succ k =>
        have hlt : decide ((0 : Int) ≤ ((0 : Nat) : Int) - 1) = false := by decide
        simp only [dV, hlt, cond_false, oZ, List.append_nil]
    | succ j ih =>
      intro k acc hj hk ha
      cases k with
      | zero => omega
      | succ k =>
        have ej : ((j + 1 : Nat) : Int) - 1 = (j : Int) := by omega
        rw [ej]
        have hlt : decide ((0 : Int) ≤ (j : Int)) = true := decide_eq_true (by omega)
        have hch : chk (!decide ((l.length : Int) = 0)) = some () := by unfold chk; rw [decide_eq_false (by omega)]; rfl
        have hmod : x.A.tmod (l.length : Int) = ((x.A.toNat % l.length : Nat) : Int) := by
          obtain ⟨a, ha⟩ : ∃ a : Nat, x.A = a := ⟨x.A.toNat, by omega⟩
          rw [ha, Int.toNat_natCast, Int.tmod_eq_emod_of_nonneg (by omega)]; exact (Int.natCast_emod a l.length).symm
        have hs : x.A.toNat % l.length < l.length := Nat.mod_lt _ (by omega)
        have hw : w64 ((j : Int) + ((x.A.toNat % l.length : Nat) : Int)) = ((j + x.A.toNat % l.length : Nat) : Int) := by rw [eK (by omega) (by omega)]; omega
        have hmod2 : (((j + x.A.toNat % l.length : Nat)) : Int).tmod (l.length : Int) = (((j + x.A.toNat % l.length) % l.length : Nat) : Int) := by
          rw [Int.tmod_eq_emod_of_nonneg (by omega)]; exact (Int.natCast_emod _ _).symm
        have hi : (j + x.A.toNat % l.length) % l.length < l.length := Nat.mod_lt _ (by omega)
        have hwp : w64 ((j : Int) - 1) = (j : Int) - 1 := eK (by omega) (by omega)
        simp only [dV, hlt, cond_true, hch, hmod, hw, hmod2, cL hi, Option.bind_some, hwp]
        rw [iD (by simp; omega), Option.bind_some, ih k _ (by omega) (by omega) (by simp; omega), oZ, bW hi, List.append_assoc]
        rfl
  have e : w64 ((l.length : Int) - 1) = (l.length : Int) - 1 := eK (by omega) (by omega)
  rw [e, key l.length BIG [] (Nat.le_refl _) (cX (by omega)) (by simp), List.nil_append]
  refine hK _ (aIb ?_) (aAf _ _ _)
  by_cases h0 : l.length = 0
  · exact .inl h0
  · exact .inr (Nat.mod_lt _ (by omega))
theorem rA (t : aP) (l : List aE) (x : eQ) (ht : aBw t) (hl : okL xJ l) (hx : sH x) : jV t l x = some true := by
  unfold jV
  rcases aFb t l with hr | ⟨d, hg, hr, h60⟩
  · simp only [hr, Option.bind_some, Bool.not_false, cond_true, uL]
  · simp only [hr, Option.bind_some, Bool.not_true, cond_false, rH, Bool.false_or]
    cases hb : (decide (58 < (l.length : Int)) || decide (x.A < 0)) with
    | true => simp only [cond_true, uL, Option.bind_some]
    | false =>
      simp only [Bool.or_eq_false_iff, decide_eq_false_iff_not] at hb
      rw [cond_false]
      have hxa : x.A ≤ 9223372036854775807 := hx.2.2.1.2
      exact aGr (by omega) (by omega) hxa fun l' hm hl' => aEz hg (by omega) hm hl' x
end Go.Am
