/- The plain law TopDrawn. -/
import Derived.Test.YtiohgpipanopaaaGreatDrPlain8
import Derived.Test.YtiohgpipanopaaaGreatDrFar
import Derived.Test.YtiohgpipanopaaaGreatDrWorks
namespace Go.Am
theorem aWc : (eX.bind fun r => some r) = some true := by rw [aIf]; rfl
theorem aRj (p : aR) : nW p = some (if p.Size = 4 then 2 else 3) := by
 unfold nW
 by_cases h : p.Size = 4
 ·rw [decide_eq_true h, if_pos h]; rfl
 ·rw [decide_eq_false h, if_neg h]; rfl
theorem aXb : ∀ a b : Fin 4, dM ⟨2, []⟩ a b = if a.val / 2 = b.val / 2 then 0 else 1 := by decide +kernel
theorem aXc : ∀ a b : Fin 8, dM ⟨3, []⟩ a b = if a.val / 2 = b.val / 2 then 0 else if a.val / 4 = b.val / 4 then 1 else 2 := by decide +kernel
theorem aOd {t t' : aJ} (h : t.Rounds = t'.Rounds) (a b : Nat) : dM t a b = dM t' a b := by unfold dM; rw [h]
section
variable {p : aR} (hp : jY p = true) {l : List Int} (hl : aKu p l)
include hp hl
theorem aIr : (cT p l).Rounds = 2 ∧ p.Size = 4 ∧ l.length = 4 ∨ (cT p l).Rounds = 3 ∧ p.Size = 8 ∧ l.length = 8 := by
 rcases (aLs hp hl).2.2 with ⟨h, h'⟩ | ⟨h, h'⟩
 ·exact .inl ⟨if_pos h, h, h'⟩
 ·exact .inr ⟨if_neg (by omega), h, h'⟩
theorem aIp {s a : Nat} (hs : s < l.length) (ha : a < p.Persons.length) (he : l.getD s 0 = (a : Int)) :
  (l.map (plF p)).getD s 0 = (pp p a).Player ∧ gG (l.map (plF p)) (pp p a).Player = (s : Int) ∧ (l.map (plF p)).getD s 0 ≠ -1 := by
 have hpl : (l.map (plF p)).getD s 0 = (pp p a).Player := by
  rw [aDr hs, he, plF, if_neg (by omega), pn, Int.toNat_natCast]
 have hne : (pp p a).Player ≠ -1 := by have := xS hp ha; omega
 refine ⟨hpl, ?_, by rw [hpl]; exact hne⟩
 rcases oH (l.map (plF p)) (pp p a).Player with ⟨_, h⟩ | ⟨q, h1, h2, h3⟩
 ·exact absurd hpl (h s (by simpa using hs))
 ·rw [h1]
  have hD := (xJ (xZ hp hl)).dok
  have : q = s := hD.uni h2 (by simpa [cT] using hs) (h3.trans hpl.symm) (show (l.map (plF p)).getD q 0 ≠ -1 by rw [h3]; exact hne)
  rw [this]
theorem aBn {s a : Nat} (hs : s < l.length) (ha : (a : Int) < p.Seeds) (he : l.getD s 0 = (a : Int)) : (a = 0 → s = 0) ∧ (a = 1 → (s : Int) = p.Size - 1) ∧ (2 ≤ a → (s : Int) = p.Size / 4 ∨ (s : Int) = p.Size - 1 - p.Size / 4) := by
 have hsz := eG (shp hp)
 have h8 := aLs hp hl
 have h0 := hl.seat 0 (by omega)
 have h1 := hl.seat (l.length - 1) (by omega)
 have hh := hl.seat s hs
 have hdup : ∀ q, q < l.length → l.getD q 0 = (a : Int) → q = s := by
  intro q hq hqa
  rcases Nat.lt_trichotomy q s with h | h | h
  ·have := hl.nd q s h hs (hqa.trans he.symm); omega
  ·exact h
  ·have := hl.nd s q h hq (he.trans hqa.symm); omega
 have e0 : l.getD 0 0 = 0 := by
  unfold wP at h0
  rw [if_pos ⟨rfl, by omega⟩] at h0
  exact of_decide_eq_true h0
 have e1 : 1 < p.Seeds → l.getD (l.length - 1) 0 = 1 := by
  intro h
  unfold wP at h1
  rw [if_neg (by omega), if_pos ⟨by omega, h⟩] at h1
  exact of_decide_eq_true h1
 refine ⟨fun h => ?_, fun h => ?_, fun h => ?_⟩
 ·subst h
  exact (hdup 0 (by omega) e0).symm
 ·subst h
  have := hdup (l.length - 1) (by omega) (e1 (by omega))
  omega
 ·unfold wP at hh
  split at hh
  ·have := of_decide_eq_true hh; omega
  ·split at hh
   ·have := of_decide_eq_true hh; omega
   ·simp only [Bool.or_eq_true, decide_eq_true_eq, Bool.and_eq_true] at hh
    omega
theorem aUx {must : List (List Int)} (hM : MustIs (cT p l) must (fF (cT p l).Slots (Res []))) {s q a b : Nat} (hs : s < l.length) (hq : q < l.length) (ha : a < p.Persons.length) (hb : b < p.Persons.length) (hab : a ≠ b)
  (ea : l.getD s 0 = (a : Int)) (eb : l.getD q 0 = (b : Int)) : aHl (cT p l) (l.map (plF p)) must (pp p a).Player (pp p b).Player = ((dM (cT p l) s q : Int), 0) := by
 have hT := xZ hp hl
 obtain ⟨a1, a2, a3⟩ := aIp hp hl hs ha ea
 obtain ⟨b1, b2, b3⟩ := aIp hp hl hq hb eb
 have ra := xS hp ha
 have rb := xS hp hb
 have hs' : s < (cT p l).Slots.length := by simpa [cT] using hs
 have hq' : q < (cT p l).Slots.length := by simpa [cT] using hq
 have m1 := aGb hT hM hs' a3
 have m2 := aGb hT hM hq' b3
 have hlt := xN (lJ hT) hs' hq'
 have hne : (pp p a).Player ≠ (pp p b).Player := fun h => hab (aMd hp ha hb h)
 unfold aHl
 rw [if_pos ⟨fO.2 ra, fO.2 rb, hne⟩, a2, b2, if_neg (by omega)]
 simp only [Int.toNat_natCast]
 have m1' : gC (l.map (plF p)) must s (cT p l) = (cT p l).Rounds.toNat := m1
 have m2' : gC (l.map (plF p)) must q (cT p l) = (cT p l).Rounds.toNat := m2
 rw [m1', m2', if_neg (by omega)]
theorem aPn {must : List (List Int)} (hM : MustIs (cT p l) must (fF (cT p l).Slots (Res []))) {s a : Nat} (hs : s < l.length) (ha : a < p.Persons.length) (ea : l.getD s 0 = (a : Int)) :
  tA (cT p l) (l.map (plF p)) must (pp p a).Player = (⟨if (l.map (plF p)).getD (sib s) 0 = -1 then 1 else 0, (cT p l).Rounds⟩, 0) := by
 have hT := xZ hp hl
 obtain ⟨a1, a2, a3⟩ := aIp hp hl hs ha ea
 have ra := xS hp ha
 have hr := aIr hp hl
 have hs' : s < (cT p l).Slots.length := by simpa [cT] using hs
 have m1 : gC (l.map (plF p)) must s (cT p l) = (cT p l).Rounds.toNat := aGb hT hM hs' a3
 have m2 : aCw (l.map (plF p)) must s (cT p l) = if (l.map (plF p)).getD (sib s) 0 = -1 then 1 else 0 := aQv hT hM (by omega) hs' a3
 unfold tA
 rw [if_pos (fO.2 ra), a2, if_neg (by omega)]
 simp only [Int.toNat_natCast, tA.leftFrom, tA.mostFrom, m1, m2]
 have e : (((cT p l).Rounds.toNat : Nat) : Int) = (cT p l).Rounds := by omega
 rw [e]
 split <;> rfl
theorem aWv {s q a b : Nat} (hs : s < l.length) (hq : q < l.length) (ha : a < p.Persons.length) (hab : b < a) (ea : l.getD s 0 = (a : Int)) (eb : l.getD q 0 = (b : Int)) :
  (dM (cT p l) s q = 0 → ¬ ((pp p a).Nation = (pp p b).Nation ∧ (pp p a).Nation ≠ 0) ∧ ¬ ((pp p a).Qualified = true ∧ (pp p b).Qualified = true)) ∧
  (a = 1 → 1 < p.Seeds → ((dM (cT p l) s q : Nat) : Int) = (cT p l).Rounds - 1) ∧ ((a : Int) < p.Seeds → (cT p l).Rounds - 2 ≤ ((dM (cT p l) s q : Nat) : Int)) := by
 have hsz := eG (shp hp)
 have hr := aIr hp hl
 have hmeet : (p.Size = 4 ∧ dM (cT p l) s q = if s / 2 = q / 2 then 0 else 1) ∨ (p.Size = 8 ∧ dM (cT p l) s q = if s / 2 = q / 2 then 0 else if s / 4 = q / 4 then 1 else 2) := by
  rcases hr with ⟨h, h', h2⟩ | ⟨h, h', h2⟩
  ·refine .inl ⟨h', ?_⟩
   rw [aOd (t' := ⟨2, []⟩) h]
   exact aXb ⟨s, by omega⟩ ⟨q, by omega⟩
  ·refine .inr ⟨h', ?_⟩
   rw [aOd (t' := ⟨3, []⟩) h]
   exact aXc ⟨s, by omega⟩ ⟨q, by omega⟩
 refine ⟨fun h0 => ?_, fun h1 hsd => ?_, fun hsd => ?_⟩
 ·have h2 : s / 2 = q / 2 := by
   rcases hmeet with ⟨_, h⟩ | ⟨_, h⟩
   ·rw [h] at h0; split at h0
    ·assumption
    ·omega
   ·rw [h] at h0; split at h0
    ·assumption
    ·split at h0 <;> omega
  have key : sE p (a : Int) (b : Int) = true ∨ sE p (b : Int) (a : Int) = true := by
   have hpair := hl.pair (s / 2) (by have := (aLs hp hl).2.1; omega)
   rcases aEa h2 with h | h
   ·rw [h, eb] at ea
    omega
   ·unfold sib at h
    split at h
    ·have x1 : 2 * (s / 2) = q := by omega
     have x2 : 2 * (s / 2) + 1 = s := by omega
     rw [x2, x1, ea, eb] at hpair
     unfold sM at hpair
     simp only [Bool.and_eq_true] at hpair
     exact .inr hpair.2.1.1
    ·have x1 : 2 * (s / 2) = s := by omega
     have x2 : 2 * (s / 2) + 1 = q := by omega
     rw [x2, x1, ea, eb] at hpair
     unfold sM at hpair
     simp only [Bool.and_eq_true] at hpair
     exact .inl hpair.2.1.1
  rcases key with h | h
  ·unfold sE pn at h
   rw [if_neg (by omega)] at h
   simp only [Int.toNat_natCast, Bool.and_eq_true, Bool.or_eq_true, Bool.not_eq_true', decide_eq_true_eq, decide_eq_false_iff_not, Bool.and_eq_false_iff] at h
   refine ⟨fun ⟨x, y⟩ => ?_, fun ⟨x, y⟩ => ?_⟩
   ·rcases h.1 with h | h
    ·exact h x
    ·exact y h
   ·rcases h.2 with h | h
    ·rw [x] at h; cases h
    ·rw [y] at h; cases h
  ·unfold sE pn at h
   rw [if_neg (by omega)] at h
   simp only [Int.toNat_natCast, Bool.and_eq_true, Bool.or_eq_true, Bool.not_eq_true', decide_eq_true_eq, decide_eq_false_iff_not, Bool.and_eq_false_iff] at h
   refine ⟨fun ⟨x, y⟩ => ?_, fun ⟨x, y⟩ => ?_⟩
   ·rcases h.1 with h | h
    ·exact h x.symm
    ·exact y (x.trans h)
   ·rcases h.2 with h | h
    ·rw [y] at h; cases h
    ·rw [x] at h; cases h
 ·subst h1
  obtain ⟨_, s1, _⟩ := aBn hp hl hs (by omega) ea
  obtain ⟨s0, _, _⟩ := aBn hp hl (a := b) hq (by omega) eb
  have e1 := s1 rfl
  have e0 := s0 (by omega)
  subst e0
  rcases hr with ⟨h, h', h2⟩ | ⟨h, h', h2⟩
  ·rcases hmeet with ⟨_, hm⟩ | ⟨hx, _⟩
   ·have : s = 3 := by omega
    subst this
    rw [hm, h]; decide
   ·omega
  ·rcases hmeet with ⟨hx, _⟩ | ⟨_, hm⟩
   ·omega
   ·have : s = 7 := by omega
    subst this
    rw [hm, h]; decide
 ·obtain ⟨_, sa1, sa2⟩ := aBn hp hl hs hsd ea
  obtain ⟨sb0, sb1, sb2⟩ := aBn hp hl (a := b) hq (by omega) eb
  rcases hr with ⟨h, h', h2⟩ | ⟨h, h', h2⟩
  ·rw [h]; omega
  ·rcases hmeet with ⟨hx, _⟩ | ⟨_, hm⟩
   ·omega
   ·rw [hm, h]
    have hsq : s ≠ q := fun e => by rw [e, eb] at ea; omega
    have ha' : s = 7 ∨ s = 2 ∨ s = 5 := by
     rcases Nat.lt_or_ge a 2 with h | h
     ·exact .inl (by have := sa1 (by omega); omega)
     ·have := sa2 h; omega
    have hb' : q = 0 ∨ q = 7 ∨ q = 2 ∨ q = 5 := by
     rcases Nat.lt_or_ge b 2 with h | h
     ·rcases Nat.lt_or_ge b 1 with h1 | h1
      ·exact .inl (sb0 (by omega))
      ·exact .inr (.inl (by have := sb1 (by omega); omega))
     ·have := sb2 h; omega
    rcases ha' with rfl | rfl | rfl <;> rcases hb' with rfl | rfl | rfl | rfl <;> first | exact absurd rfl hsq | decide
theorem aWd {s a : Nat} (hs : s < l.length) (ha : a < p.Persons.length) (hsd : (a : Int) < p.Seeds) (ea : l.getD s 0 = (a : Int)) : (l.map (plF p)).getD (sib s) 0 = -1 ↔ (a : Int) < p.Size - p.Persons.length := by
 have h8 := aLs hp hl
 have hsib : sib s < l.length := by unfold sib; split <;> omega
 rw [aDr hsib, wZ hp (aEc hl hsib)]
 have hpair := hl.pair (s / 2) (by omega)
 unfold sib
 split
 ·have x1 : 2 * (s / 2) = s := by omega
  rw [x1, ea] at hpair
  unfold sM aCj at hpair
  simp only [Bool.and_eq_true, Bool.or_eq_true, decide_eq_true_eq] at hpair
  have := hpair.2.1.2
  rcases this with (h | h) | h
  ·omega
  ·omega
  ·rw [decide_eq_decide] at h; exact h
 ·have x1 : 2 * (s / 2) = s - 1 := by omega
  have x2 : 2 * (s / 2) + 1 = s := by omega
  rw [x2, x1, ea] at hpair
  unfold sM aCj at hpair
  simp only [Bool.and_eq_true, Bool.or_eq_true, decide_eq_true_eq] at hpair
  have := hpair.2.2
  rcases this with (h | h) | h
  ·omega
  ·omega
  ·rw [decide_eq_decide] at h; exact h
theorem aOx : dA (w64 (p.Size - (p.Persons.length : Int))) p (cT p l) BIG 0 = some true := by
 have hT := xZ hp hl
 have hsz := eG (shp hp)
 have hr := aIr hp hl
 have hg : Good (cT p l) [] (l.map (plF p)) := xJ hT
 obtain ⟨must, hd, hM0⟩ := vO hg
 have hM : MustIs (cT p l) must (fF (cT p l).Slots (Res [])) := hM0
 rw [dS (n := p.Size - p.Persons.length) (by omega) (by omega)]
 have main := iV (S := Unit) (fun k i _ => dA (p.Size - (p.Persons.length : Int)) p (cT p l) k i) p.Persons.length (fun o => o = some true) (fun i _ => i ≤ p.Persons.length) (fun k a _ ha _ ih => ?_) (fun k i _ h5 h6 => ?_) BIG 0 () (bY (by omega)) (Nat.zero_le _)
 ·exact main
 ·obtain ⟨s, hs, ea⟩ := aFb hl ha
  have hR : oI (cT p l) [] (pp p a).Player = some (⟨if (l.map (plF p)).getD (sib s) 0 = -1 then 1 else 0, (cT p l).Rounds⟩, 0) := by
   have := aCh hg hd hM0 (pp p a).Player
   rw [aPn hp hl hM hs ha ea] at this
   exact this
  have hinner : eW (dA (p.Size - (p.Persons.length : Int)) p (cT p l) k) (p.Size - (p.Persons.length : Int)) a p (cT p l) p.Persons[a] BIG 0 = some true := by
   have inner := iV (S := Unit) (fun k2 j _ => eW (dA (p.Size - (p.Persons.length : Int)) p (cT p l) k) (p.Size - (p.Persons.length : Int)) a p (cT p l) p.Persons[a] k2 j) a (fun o => o = some true) (fun j _ => j ≤ a) (fun k2 b _ hb _ ih2 => ?_) (fun k2 j _ h5 h6 => ?_) BIG 0 () (bY (by omega)) (Nat.zero_le _)
   ·exact inner
   ·have hbn : b < p.Persons.length := by omega
    obtain ⟨q, hq, eb⟩ := aFb hl hbn
    have hMt : rQ (cT p l) [] (pp p a).Player (pp p b).Player = some (((dM (cT p l) s q : Nat) : Int), 0) := by
     have := aIs hg hd hM0 (pp p a).Player (pp p b).Player
     rw [aUx hp hl hM hs hq ha hbn (by omega) ea eb] at this
     exact this
    obtain ⟨t1, t2, t3⟩ := aWv hp hl hs hq ha hb ea eb
    have hlt : decide ((b : Int) < (a : Int)) = true := decide_eq_true (by omega)
    simp only [eW, hlt, cond_true]
    rw [bW (bQ hbn), ← jC ha, ← jC hbn, bW hMt]
    simp only [dC, gH, Option.bind_some, decide_true, Bool.not_true, Bool.false_or]
    have e1 : (decide (((dM (cT p l) s q : Nat) : Int) = 0) && ((decide ((pp p a).Nation = (pp p b).Nation) && !decide ((pp p a).Nation = 0)) || ((pp p a).Qualified && (pp p b).Qualified))) = false := by
     rw [Bool.eq_false_iff]
     intro h
     simp only [Bool.and_eq_true, Bool.or_eq_true, decide_eq_true_eq, Bool.not_eq_true', decide_eq_false_iff_not] at h
     obtain ⟨x1, x2⟩ := t1 (by omega)
     rcases h.2 with h | h
     ·exact x1 h
     ·exact x2 h
    have e2 : (decide ((a : Int) = 1) && decide (1 < p.Seeds) && !decide (((dM (cT p l) s q : Nat) : Int) = w64 ((cT p l).Rounds - 1))) = false := by
     rw [Bool.eq_false_iff]
     intro h
     simp only [Bool.and_eq_true, decide_eq_true_eq, Bool.not_eq_true', decide_eq_false_iff_not] at h
     rw [dS (n := (cT p l).Rounds - 1) (by omega) (by omega)] at h
     exact h.2 (t2 (by omega) h.1.2)
    have e3 : (decide ((a : Int) < p.Seeds) && decide (((dM (cT p l) s q : Nat) : Int) < w64 ((cT p l).Rounds - 2))) = false := by
     rw [Bool.eq_false_iff]
     intro h
     simp only [Bool.and_eq_true, decide_eq_true_eq] at h
     rw [dS (n := (cT p l).Rounds - 2) (by omega) (by omega)] at h
     have := t3 h.1
     omega
    have eF : ((false || false) || false) = false := rfl
    rw [e1, e2, e3, eF, cond_false, bT (show b < 9223372036854775807 by omega), jC ha]
    exact ih2 () (by omega)
   ·have : j = a := by omega
    subst this
    simp only [eW, Int.lt_irrefl, decide_false, cond_false, pS, pR]
    rw [bT (show j < 9223372036854775807 by omega)]
    exact ih () (by omega)
  have hlt : decide ((a : Int) < (p.Persons.length : Int)) = true := decide_eq_true (by omega)
  simp only [dA, hlt, cond_true]
  rw [bW (bQ ha), ← jC ha, bW hR]
  simp only [dC, gH, Option.bind_some, decide_true, Bool.not_true, Bool.false_or]
  have e : (decide ((a : Int) < p.Seeds) && !decide (decide ((if (l.map (plF p)).getD (sib s) 0 = -1 then (1 : Int) else 0) = 1) = decide ((a : Int) < p.Size - (p.Persons.length : Int)))) = false := by
   rw [Bool.eq_false_iff]
   intro h
   simp only [Bool.and_eq_true, decide_eq_true_eq, Bool.not_eq_true', decide_eq_false_iff_not] at h
   refine h.2 (decide_eq_decide.2 ?_)
   rw [← aWd hp hl hs ha h.1 ea]
   by_cases hb : (l.map (plF p)).getD (sib s) 0 = -1
   ·rw [if_pos hb]; exact ⟨fun _ => hb, fun _ => rfl⟩
   ·rw [if_neg hb]; exact ⟨fun h => absurd h (by decide), fun h => absurd h hb⟩
  have eF : ((false && true) || false) = false := rfl
  rw [e, eF, cond_false, jC ha]
  exact hinner
 ·have : i = p.Persons.length := by omega
  subst this
  simp only [dA, Int.lt_irrefl, decide_false, cond_false, pQ]
  exact aWc
end
theorem aQm (Fr : Option Bool) (C : Option Int) (W : Option Bool) (hW : (W.bind fun r => some r) = some true) (Dr : Option (List Int × Int)) (Rd : Option Int) (Ck : aJ → Option Int) (Is : aJ → Option Bool) (F : aJ → Option Bool) {b : Bool} {c : Int} (hF : Fr = some b) (hC : C = some c)
  (h : c = 0 → Dr = some ([], 3) ∨ ∃ S R, Dr = some (S, 0) ∧ Rd = some R ∧ Ck ⟨R, S⟩ = some 0 ∧ Is ⟨R, S⟩ = some true ∧ F ⟨R, S⟩ = some true) :
  (Fr.bind fun r2 => (bif r2 then (some true) else (C.bind fun r3 => some (!decide (r3 = 0)))).bind fun b4 =>
  bif b4 then (W.bind fun r5 => some r5)
  else (Dr.bind fun r6 =>
  bif !decide (r6.2 = 0) then ((bif decide (r6.2 = 3) then (W.bind fun r7 => some r7) else (some false)).bind fun b8 => some b8)
  else (Rd.bind fun r9 =>
  (Ck (aJ.mk r9 r6.1)).bind fun r11 =>
  (bif !decide (r11 = 0) then (some true) else ((Is (aJ.mk r9 r6.1)).bind fun r12 => some (!r12))).bind fun b13 =>
  bif b13 then (some false) else (F (aJ.mk r9 r6.1))))) = some true := by
 subst hF; subst hC
 cases b with
 | true => simp [hW]
 | false =>
  by_cases hc : c = 0
  ·rcases h hc with rfl | ⟨S, R, rfl, rfl, h1, h2, h3⟩
   ·simp [hc, hW]
   ·simp [hc, h1, h2, h3]
  ·simp [hc, hW]
theorem zA (p : aR) (_hp : aJo p) : oK p = some true := by
 obtain ⟨b, hb, _⟩ := aUk p
 unfold oK
 refine aQm _ _ eX aWc _ _ (fun t => qS t []) (fun t => gK t) (fun t => dA (w64 (p.Size - (p.Persons.length : Int))) p t BIG 0) hb (aBu p) fun hc => ?_
 have hp : jY p = true := by
  cases h : jY p with
  | true => rfl
  | false => rw [h] at hc; cases hc
 rcases aUj hp with h | ⟨l, hl, h⟩
 ·exact .inl h
 ·have hL := aAa hp hl
  have hT := xZ hp hL
  refine .inr ⟨_, _, h, aRj p, ?_, ?_, aOx hp hL⟩
  ·exact tO (xJ hT)
  ·have := aCg (cT p l)
   rw [hT] at this
   exact this
end Go.Am
