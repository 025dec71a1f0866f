/- The plain law TopChampion. -/
import Derived.Test.YtiohgpipanopaaaGreatChPlain4
import Derived.Test.YtiohgpipanopaaaGreatBbDet
import Derived.Test.YtiohgpipanopaaaGreatDrWorks
import Derived.Test.YtiohgpipanopaaaGreatTopDrawnLaw
namespace Go.Am
def sE (t : aN) (k : Nat) : Prop := t.Slots.getD (2 * k) 0 = -1 ∨ t.Slots.getD (2 * k + 1) 0 = -1
structure CI (t : aN) (r p : Nat) (l : List aF) : Prop where
 good : Good t l t.Slots
 len : l.length ≤ 8 * r + (bV t r - p)
 done : ∀ q k : Nat, q < t.Rounds.toNat → k < bV t q → (q < r ∨ q = r ∧ p ≤ k) → ∃ v, eV t.Slots (Res l) ⟨q, k⟩ v
 only : ∀ (q k : Nat) v, eV t.Slots (Res l) ⟨q, k⟩ v → (q < r ∨ q = r ∧ p ≤ k) ∨ (q = 0 ∧ sE t k)
theorem aFs {a r p : Nat} (h : a / 2 ^ (r + 1) = p) : cell a r = ⟨r, p⟩ := by unfold cell; rw [h]
theorem aBw {a r q p : Nat} (h : cell a r = ⟨q, p⟩) : r = q ∧ a / 2 ^ (r + 1) = p := by
 unfold cell at h
 injection h with h1 h2
 omega
section
variable {t : aN} (ht : TreeOK t)
include ht
omit ht in
theorem CI.start (hB : sB t = true) : CI t 0 (bV t 0) [] := by
 refine ⟨aUx hB, by simp, fun q k hq hk h => ?_, fun q k v h => ?_⟩
 ·rcases h with h | ⟨rfl, h⟩
  ·omega
  ·have : bV t ((0 : Nat) : Int) = bV t 0 := rfl
   omega
 ·rcases h with ⟨i, hi, hb, hc, _⟩ | ⟨x, hx, _⟩
  ·obtain ⟨rfl, hk⟩ := aBw hc.symm
   refine .inr ⟨rfl, ?_⟩
   have hk2 : i / 2 = k := by rw [← hk, Nat.zero_add, Nat.pow_one, aDi]
   unfold sE
   rcases Nat.mod_two_eq_zero_or_one i with h2 | h2
   ·have : i = 2 * k := by omega
    rw [← this]; exact .inl hb
   ·have : i = 2 * k + 1 := by omega
    rw [← this]; exact .inr hb
  ·exact absurd hx.1 (by simp)
omit ht in
theorem CI.next {r : Nat} {l : List aF} (h : CI t r 0 l) (h8 : bV t r ≤ 8) : CI t (r + 1) (bV t ((r + 1 : Nat) : Int)) l :=
 ⟨h.good, by have := h.len; omega, fun q k hq hk hd => h.done q k hq hk (by
  rcases hd with hd | ⟨rfl, hd⟩
  ·rcases Nat.lt_or_ge q r with h1 | h1
   ·exact .inl h1
   ·exact .inr ⟨by omega, Nat.zero_le _⟩
  ·omega), fun q k v hv => by
  rcases h.only q k v hv with (h1 | ⟨h1, _⟩) | h1
  ·exact .inl (.inl (by omega))
  ·exact .inl (.inl (by omega))
  ·exact .inr h1⟩
section
variable {r p : Nat} {l : List aF} (h : CI t r (p + 1) l) (hr : r < t.Rounds.toNat) (hp : p < bV t r) {must : List (List Int)} (hM : MustIs t must (eV t.Slots (Res l)))
include h hr hp
theorem CI.bye (hb : r = 0 ∧ sE t p) : CI t r p l ∧ ∃ v, eV t.Slots (Res l) ⟨r, p⟩ v := by
 obtain ⟨rfl, hb⟩ := hb
 have hlen := wJ ht
 have hp0 : p < bV t 0 := hp
 have hv : ∃ v, eV t.Slots (Res l) ⟨(0 : Nat), p⟩ v := by
  rcases hb with hb | hb
  ·refine ⟨_, .inl ⟨2 * p, by omega, hb, ?_, rfl⟩⟩
   exact (aFs (by rw [Nat.zero_add, Nat.pow_one, aDi]; omega)).symm
  ·refine ⟨_, .inl ⟨2 * p + 1, by omega, hb, ?_, rfl⟩⟩
   exact (aFs (by rw [Nat.zero_add, Nat.pow_one, aDi]; omega)).symm
 refine ⟨⟨h.good, by have := h.len; omega, fun q k hq hk hd => ?_, fun q k v hv => ?_⟩, hv⟩
 ·by_cases he : q = 0 ∧ k = p
  ·obtain ⟨rfl, rfl⟩ := he; exact hv
  ·exact h.done q k hq hk (by omega)
 ·rcases h.only q k v hv with h1 | h1
  ·exact .inl (by omega)
  ·exact .inr h1
omit ht hr hp in
theorem CI.open (hb : ¬ (r = 0 ∧ sE t p)) (v : Int) : ¬ eV t.Slots (Res l) ⟨r, p⟩ v := fun hv => by
 rcases h.only r p v hv with h1 | h1
 ·omega
 ·exact hb h1
include hM
theorem CI.side (hb : ¬ (r = 0 ∧ sE t p)) {s : Nat} (hs : s < 2) : ∃ a, a < t.Slots.length ∧ gF t.Slots must r (2 * p + s) = t.Slots.getD a 0 ∧ t.Slots.getD a 0 ≠ -1 ∧ cell a r = ⟨r, p⟩ ∧ ∀ q, q < r → eV t.Slots (Res l) (cell a q) (t.Slots.getD a 0) := by
 unfold gF
 cases r with
 | zero =>
  have hlen := wJ ht
  have hp0 : p < bV t 0 := hp
  have hb' : ¬ sE t p := fun h => hb ⟨rfl, h⟩
  unfold sE at hb'
  refine ⟨2 * p + s, by omega, if_pos rfl, fun e => hb' ?_, aFs (by rw [Nat.zero_add, Nat.pow_one]; omega), fun q hq => by omega⟩
  rcases (show s = 0 ∨ s = 1 by omega) with rfl | rfl
  ·exact .inl e
  ·exact .inr e
 | succ r =>
  have hpl := aAy hr
  obtain ⟨v, hv⟩ := h.done r (2 * p + s) (by omega) (by omega) (.inl (by omega))
  obtain ⟨a, ha, e1, e2, e3, _, e5⟩ := h.good.down hv
  have hm := (hM.mem r (2 * p + s) v (by omega) (by omega)).2 hv
  obtain ⟨_, hc⟩ := aBw e3
  refine ⟨a, ha, by rw [if_neg (by omega), Nat.add_sub_cancel, hm.1, e1], e2, aFs ?_, fun q hq => by rw [← e1]; exact e5 q (by omega)⟩
  rw [Nat.pow_succ, ← Nat.div_div_eq_div_mul, hc]; omega
theorem CI.play (hb : ¬ (r = 0 ∧ sE t p)) (hl : l.length < 60) {s : Nat} (hs : s < 2) : CI t r p (l ++ [⟨1, r, p, gF t.Slots must r (2 * p + s), 0⟩]) := by
 obtain ⟨a, ha, e1, e2, e3, e4⟩ := h.side ht hr hp hM hb hs
 have hno := h.open hb
 have hrng := ht.rng a ha
 have hga : t.Slots.getD a 0 = t.Slots[a] := by simp [List.getD, ha]
 have hR := ht.r1
 rw [e1]
 have hsl : fK t ⟨1, r, p, t.Slots.getD a 0, 0⟩ = true := by
  have h1 : wi (t.Slots.getD a 0) 0 999 = true := iX.2 (by rw [hga] at e2 ⊢; omega)
  have h2 : gB t (r : Int) (p : Int) = true := by
   unfold gB
   rw [Bool.and_eq_true, iX, iX]; omega
  unfold fK
  simp only [h1, h2]
  have h3 : (decide ((0 : Int) < (r : Int)) || !decide (t.Slots.getD (2 * (p : Int)).toNat 0 = -1) && !decide (t.Slots.getD (2 * (p : Int) + 1).toNat 0 = -1)) = true := by
   by_cases h0 : r = 0
   ·subst h0
    have hb' : ¬ sE t p := fun h => hb ⟨rfl, h⟩
    unfold sE at hb'
    have i1 : (2 * (p : Int)).toNat = 2 * p := by omega
    have i2 : (2 * (p : Int) + 1).toNat = 2 * p + 1 := by omega
    rw [i1, i2, decide_eq_false fun e => hb' (.inl e), decide_eq_false fun e => hb' (.inr e)]; rfl
   ·rw [decide_eq_true (by omega)]; rfl
  rw [h3]; rfl
 have hk : (⟨1, r, p, t.Slots.getD a 0, 0⟩ : aF).Kind ≠ 5 := by simp
 have hco : pM (eV t.Slots (Res l)) (clm t.Slots a r) := by
  rintro m v w hv ⟨rfl, q, hq, rfl⟩
  by_cases hq' : q = r
  ·subst hq'; rw [e3] at hv; exact absurd hv (hno v)
  ·exact h.good.fn _ _ _ hv (e4 q (by omega))
 have hadd := h.good.add (x := ⟨1, r, p, t.Slots.getD a 0, 0⟩) hk hsl hl ha rfl e3 hco (fun y hy ky h1 h2 => by
  exfalso
  have h1 : y.Round = (r : Int) := h1
  have h2 : y.Place = (p : Int) := h2
  obtain ⟨b, hb1, hb2, hb3⟩ := h.good.agr.2.slot y ⟨hy, ky⟩
  refine hno (t.Slots.getD b 0) (.inr ⟨y, ⟨hy, ky⟩, b, hb1, hb2, rfl, r, ?_, ?_⟩)
  ·rw [h1]; simp
  ·rw [h1, h2] at hb3; simpa using hb3.symm)
 have hP := fun m v => yX h.good (x := ⟨1, r, p, t.Slots.getD a 0, 0⟩) hk hsl ha rfl m v
 refine ⟨hadd, by have := h.len; simp; omega, fun q k hq hkk hd => ?_, fun q k v hv => ?_⟩
 ·by_cases he : q = r ∧ k = p
  ·obtain ⟨rfl, rfl⟩ := he
   exact ⟨_, (hP _ _).2 (.inr ⟨rfl, q, by simp, e3.symm⟩)⟩
  ·obtain ⟨v, hv⟩ := h.done q k hq hkk (by omega)
   exact ⟨v, (hP _ _).2 (.inl hv)⟩
 ·rcases (hP _ _).1 hv with hv | ⟨_, q', hq', hc⟩
  ·rcases h.only q k v hv with h1 | h1
   ·exact .inl (by omega)
   ·exact .inr h1
  ·obtain ⟨rfl, hc2⟩ := aBw hc.symm
   have hq2 : q' ≤ r := by simpa using hq'
   obtain ⟨_, hc3⟩ := aBw e3
   by_cases hq3 : q' = r
   ·subst hq3
    exact .inl (.inr ⟨rfl, by omega⟩)
   ·exact .inl (.inl (by omega))
end
end
def zH (r p : Nat) (b : cA) : Bool := decide (b.Round = r) && decide (b.Place = p)
def aJt (f : bH) (x : dF) : Prop := ∀ i : Nat, i < x.First.length → ∃ a b, idx x.First i = some a ∧ idx x.Points i = some b ∧ ∃ s, pA f a b = some (s, 0) ∧ (s.Winner = 0 ∨ s.Winner = 1)
theorem aSr {f : bH} {x : dF} (hx : aJt f x) (a2 : Int → Int → List aF → Option Bool) (a4 : Int → List aF → Option Bool) (nu : Int) (t : aN) {r p at' : Nat} (hat : at' < x.First.length) {bs : List cA} (hbs : bs.length ≤ 100) {l : List aF} (hl : l.length ≤ 100)
  (hone : ∀ i j, i < bs.length → j < bs.length → zH r p (bs.getD i default) = true → zH r p (bs.getD j default) = true → i = j)
  (h0 : (∀ i, i < bs.length → zH r p (bs.getD i default) = false) → gN a2 a4 nu r p false t f x l = some true)
  (h1 : ∀ i, i < bs.length → zH r p (bs.getD i default) = true → ∀ n, n = (bs.getD i default).One ∨ n = (bs.getD i default).Two → gN a2 a4 nu r p true t f x (l ++ [⟨1, r, p, n, 0⟩]) = some true) :
  dO a2 a4 nu r p at' t f x bs BIG false 0 l = some true := by
 obtain ⟨va, vb, e1, e2, s, e3, e4⟩ := hx at' hat
 refine qB (S := Bool × List aF) (fun k i s => dO a2 a4 nu r p at' t f x bs k s.1 i s.2) bs.length (fun o => o = some true)
  (fun i s => i ≤ bs.length ∧ ((∃ j, j < i ∧ zH r p (bs.getD j default) = true ∧ s.1 = true ∧ ∃ n, (n = (bs.getD j default).One ∨ n = (bs.getD j default).Two) ∧ s.2 = l ++ [⟨1, r, p, n, 0⟩]) ∨ ((∀ j, j < i → zH r p (bs.getD j default) = false) ∧ s.1 = false ∧ s.2 = l)))
  ?_ ?_ BIG 0 (false, l) (cX (by omega)) ⟨Nat.zero_le _, .inr ⟨fun j hj => by omega, rfl, rfl⟩⟩
 ·intro k i st hi hI ih
  have hlt : decide ((i : Int) < (bs.length : Int)) = true := decide_eq_true (by omega)
  have hg : bs[i] = bs.getD i default := by simp [List.getD, hi]
  simp only [dO, hlt, cond_true, cI (show i < 9223372036854775807 by omega)]
  rw [bM (cC hi), hg]
  have hcond : ((bif !decide ((bs.getD i default).Round = (r : Int)) then (some true) else ((idx bs (i : Int)).bind fun x22 => some (!decide (x22.Place = (p : Int)))))) = some (!zH r p (bs.getD i default)) := by
   rw [cC hi, Option.bind_some, hg]
   unfold zH
   cases decide ((bs.getD i default).Round = (r : Int)) <;> rfl
  rw [hcond, Option.bind_some]
  cases hh : zH r p (bs.getD i default) with
  | false =>
   rw [Bool.not_false, cond_true]
   refine ih st ⟨by omega, ?_⟩
   rcases hI.2 with ⟨j, a1, a2, a3, a4⟩ | ⟨a1, a2⟩
   ·exact .inl ⟨j, by omega, a2, a3, a4⟩
   ·refine .inr ⟨fun j hj => ?_, a2⟩
    by_cases hji : j = i
    ·rw [hji]; exact hh
    ·exact a1 j (by omega)
  | true =>
   rw [Bool.not_true, cond_false, bM e1, bM e2, bM e3]
   have w0 : decide (s.Winner < 0) = false := decide_eq_false (by omega)
   have w1 : decide (1 < s.Winner) = false := decide_eq_false (by omega)
   have hz : (bif !decide ((s, (0 : Int)).2 = 0) then (some true) else (some (decide ((s, (0 : Int)).1.Winner < 0)))) = some false := by
    show (bif !decide ((0 : Int) = 0) then (some true) else (some (decide (s.Winner < 0)))) = some false
    rw [w0]; rfl
   rw [hz, Option.bind_some, cond_false, w1, Option.bind_some, cond_false, bM (cC hi), hg]
   obtain ⟨b1, b2⟩ : st.1 = false ∧ st.2 = l := by
    rcases hI.2 with ⟨j, a1, a2, _⟩ | ⟨_, a2⟩
    ·have := hone j i (by omega) hi a2 hh; omega
    ·exact a2
   rw [b2]
   have hh2 : ∀ n, (n = (bs.getD i default).One ∨ n = (bs.getD i default).Two) → (fun s : Bool × List aF => dO a2 a4 nu r p at' t f x bs k s.1 ((i + 1 : Nat) : Int) s.2) (true, l ++ [⟨1, r, p, n, 0⟩]) = some true := fun n hn =>
    ih _ ⟨by omega, .inl ⟨i, by omega, hh, rfl, n, hn, rfl⟩⟩
   show (bif decide (s.Winner = 1) then _ else _) = some true
   cases decide (s.Winner = 1) with
   | true =>
    rw [cond_true, bM (cC hi), hg, bM (fQ (by simp; omega))]
    exact hh2 _ (.inr rfl)
   | false =>
    rw [cond_false, bM (fQ (by simp; omega))]
    exact hh2 _ (.inl rfl)
 ·intro k i st hi hI
  have : i = bs.length := by omega
  subst this
  have hlt : decide ((bs.length : Int) < (bs.length : Int)) = false := decide_eq_false (by omega)
  simp only [dO, hlt, cond_false]
  rcases hI.2 with ⟨j, a1, a2, a3, n, a4, a5⟩ | ⟨a1, a2, a3⟩
  ·rw [a3, a5]; exact h1 j a1 a2 n a4
  ·rw [a2, a3]; exact h0 a1
section
variable {t : aN} (ht : TreeOK t)
include ht
theorem aXx {f : bH} {x : dF} (a2 : Int → Int → List aF → Option Bool) (a4 : Int → List aF → Option Bool) (nu : Int) {r p : Nat} (hp : p < bV t r) (found : Bool) (l : List aF) (hb : (found = true ∧ ¬ (r = 0 ∧ sE t p)) ∨ (found = false ∧ r = 0 ∧ sE t p)) (h : a4 (w64 ((p : Int) - 1)) l = some true) :
  gN a2 a4 nu r p found t f x l = some true := by
 have h32 := ht.len32
 have hlen := wJ ht
 have h16 := kF ht (r := (r : Int))
 have e1 : w64 (2 * (p : Int)) = ((2 * p : Nat) : Int) := by rw [dJ (by omega) (by omega)]; omega
 have e2 : w64 (((2 * p : Nat) : Int) + 1) = ((2 * p + 1 : Nat) : Int) := cI (by omega)
 have hbv : ∃ c : Bool, c = !found ∧ (bif decide ((r : Int) = 0) then ((idx t.Slots (w64 (2 * (p : Int)))).bind fun x36 => (bif decide (x36 = (-1)) then (some true) else ((idx t.Slots (w64 ((w64 (2 * (p : Int))) + 1))).bind fun x37 => some (decide (x37 = (-1))))).bind fun b38 => some b38) else (some false)) = some c := by
  by_cases hr : r = 0
  ·subst hr
   have hp0 : p < bV t 0 := hp
   have g1 : t.Slots[2 * p]'(by omega) = t.Slots.getD (2 * p) 0 := (bT (by omega) 0).symm
   have g2 : t.Slots[2 * p + 1]'(by omega) = t.Slots.getD (2 * p + 1) 0 := (bT (by omega) 0).symm
   rw [e1, e2, cC (show 2 * p < t.Slots.length by omega), cC (show 2 * p + 1 < t.Slots.length by omega), g1, g2]
   refine ⟨decide (t.Slots.getD (2 * p) 0 = -1) || decide (t.Slots.getD (2 * p + 1) 0 = -1), ?_, ?_⟩
   ·rcases hb with ⟨rfl, hb⟩ | ⟨rfl, _, hb⟩
    ·have hb' : ¬ sE t p := fun h => hb ⟨rfl, h⟩
     unfold sE at hb'
     rw [decide_eq_false fun e => hb' (.inl e), decide_eq_false fun e => hb' (.inr e)]; rfl
    ·unfold sE at hb
     rcases hb with hb | hb
     ·rw [decide_eq_true hb]; rfl
     ·rw [decide_eq_true hb, Bool.or_true]; rfl
   ·rw [decide_eq_true (show ((0 : Nat) : Int) = 0 from rfl), cond_true]
    simp only [Option.bind_some, oK]
  ·rw [decide_eq_false (by omega)]
   refine ⟨false, ?_, rfl⟩
   rcases hb with ⟨rfl, _⟩ | ⟨_, hb, _⟩
   ·rfl
   ·exact absurd hb hr
 obtain ⟨c, hc, hcv⟩ := hbv
 unfold gN oE
 rw [bM hcv, hc]
 cases found
 ·exact h
 ·exact h
theorem aRn {f : bH} {x : dF} (hx : aJt f x) (a2 : Int → Int → List aF → Option Bool) {nu r : Nat} (hr : r < t.Rounds.toNat) (hnu : nu + bV t r ≤ x.First.length) (hnb : x.First.length ≤ 1000)
  (hK : ∀ l, CI t r 0 l → lH a2 nu r t f x l = some true) : ∀ (p k : Nat) (l : List aF), p ≤ bV t r → p < k → CI t r p l → eL a2 nu r t f x k ((p : Int) - 1) l = some true := by
 have hlr := ht.r5
 have h16 := kF ht (r := (r : Int))
 intro p
 induction p with
 | zero =>
  intro k l _ hk h
  obtain ⟨k, rfl⟩ : ∃ q, k = q + 1 := ⟨k - 1, by omega⟩
  rw [eL, decide_eq_false (by omega), cond_false]
  exact hK l h
 | succ p ih =>
  intro k l hp hk h
  obtain ⟨k, rfl⟩ : ∃ q, k = q + 1 := ⟨k - 1, by omega⟩
  have hpp : p < bV t r := hp
  have ep : ((p + 1 : Nat) : Int) - 1 = (p : Int) := by omega
  have hll := h.len
  obtain ⟨must, hd, hM⟩ := pY h.good
  have hR : rX t l = some (pW t t.Slots must, 0) := aIc h.good hd hM
  have hrl := aRl ht t.Slots must
  rw [ep, eL, decide_eq_true (show (0 : Int) ≤ (p : Int) by omega), cond_true, bM hR]
  have hat : w64 ((nu : Int) + (p : Int)) = ((nu + p : Nat) : Int) := by rw [dJ (by omega) (by omega)]; omega
  rw [decide_eq_true rfl, Bool.not_true, cond_false, hat]
  have hget : ∀ i, i < (pW t t.Slots must).length → ∃ (hi : i < ((gL t).filter (tW t.Slots must)).length), (pW t t.Slots must).getD i default = mI t.Slots must (((gL t).filter (tW t.Slots must))[i]) := fun i hi => by
   have e := aJj t t.Slots must
   have hi' : i < ((gL t).filter (tW t.Slots must)).length := by rw [e, List.length_map] at hi; exact hi
   refine ⟨hi', ?_⟩
   simp only [e]
   rw [List.getD, List.getElem?_map, List.getElem?_eq_getElem hi']; rfl
  have hhit : ∀ y : Nat × Nat, zH r p (mI t.Slots must y) = true ↔ y = (r, p) := fun y => by
   unfold zH mI
   rw [Bool.and_eq_true, decide_eq_true_eq, decide_eq_true_eq, Prod.ext_iff]
   show ((y.1 : Int) = r ∧ (y.2 : Int) = p) ↔ _
   omega
  have hnd : ((gL t).filter (tW t.Slots must)).Nodup := (aIv t).filter _
  have hin : ∀ y : Nat × Nat, y ∈ (gL t).filter (tW t.Slots must) → tW t.Slots must y = true := fun y hy => (List.mem_filter.1 hy).2
  have hmem := hM.mem r p
  have next : ∀ l', CI t r p l' → eL a2 nu r t f x k (w64 ((p : Int) - 1)) l' = some true := fun l' h' => by
   rw [dJ (by omega) (by omega)]
   exact ih k l' (by omega) (by omega) h'
  refine aSr (at' := nu + p) (bs := pW t t.Slots must) (l := l) hx a2 _ nu t (by omega) (by omega) (by omega) (fun i j hi hj h1 h2 => ?_) (fun hno => ?_) (fun i hi hi1 n hn => ?_)
  ·obtain ⟨hi', ei⟩ := hget i hi
   obtain ⟨hj', ej⟩ := hget j hj
   rw [ei, hhit] at h1
   rw [ej, hhit] at h2
   exact (List.getElem_inj hnd).1 (h1.trans h2.symm)
  ·-- nobody plays: a bye
   by_cases hb : r = 0 ∧ sE t p
   ·exact aXx ht a2 _ nu hpp false l (.inr ⟨rfl, hb⟩) (next l (h.bye ht hr hpp hb).1)
   ·exfalso
    have hop := h.open hb
    have hm2 : mat must r p = -2 := Classical.byContradiction fun hne => hop _ ((hmem _ hr hpp).1 ⟨rfl, hne⟩)
    obtain ⟨a, ha, b1, b2, _⟩ := h.side ht hr hpp hM hb (s := 0) (by omega)
    obtain ⟨a', ha', b1', b2', _⟩ := h.side ht hr hpp hM hb (s := 1) (by omega)
    have r1 := ht.rng a ha
    have r2 := ht.rng a' ha'
    rw [← bT ha 0] at r1
    rw [← bT ha' 0] at r2
    rw [Nat.add_zero] at b1
    have hrx : tW t.Slots must (r, p) = true := by
     show (decide (mat must r p = -2) && (decide (0 ≤ gF t.Slots must r (2 * p)) && decide (0 ≤ gF t.Slots must r (2 * p + 1)))) = true
     rw [hm2, b1, b1', decide_eq_true rfl, decide_eq_true (by omega), decide_eq_true (by omega)]; rfl
    have hmi : (r, p) ∈ (gL t).filter (tW t.Slots must) := List.mem_filter.2 ⟨zL.2 ⟨hr, hpp⟩, hrx⟩
    obtain ⟨i, hi, he⟩ := List.getElem_of_mem hmi
    have hi2 : i < (pW t t.Slots must).length := by rw [aJj, List.length_map]; exact hi
    obtain ⟨_, ei⟩ := hget i hi2
    have := hno i hi2
    rw [ei, he, (hhit (r, p)).2 rfl] at this
    cases this
  ·-- the match is played
   obtain ⟨hi', ei⟩ := hget i hi
   rw [ei, hhit] at hi1
   rw [ei, hi1] at hn
   have hrx := hin _ (List.getElem_mem hi')
   rw [hi1] at hrx
   unfold tW at hrx
   rw [Bool.and_eq_true, decide_eq_true_eq] at hrx
   have hm2 : mat must r p = -2 := hrx.1
   have hb : ¬ (r = 0 ∧ sE t p) := fun hb => by
    obtain ⟨v, hv⟩ := (h.bye ht hr hpp hb).2
    have := (hmem v hr hpp).2 hv
    exact this.2 (this.1.symm.trans hm2)
   refine aXx ht a2 _ nu hpp true _ (.inl ⟨rfl, hb⟩) (next _ ?_)
   rcases hn with rfl | rfl
   ·exact h.play ht hr hpp hM hb (by omega) (s := 0) (by omega)
   ·exact h.play ht hr hpp hM hb (by omega) (s := 1) (by omega)
theorem aMu {l : List aF} (h : CI t t.Rounds.toNat (bV t t.Rounds.toNat) l) : lG t l = some true := by
 obtain ⟨must, hd, hM⟩ := pY h.good
 have h1 := ht.r1
 have h5 := ht.r5
 obtain ⟨R, hR⟩ : ∃ R : Nat, t.Rounds = ((R + 1 : Nat) : Int) := ⟨t.Rounds.toNat - 1, by omega⟩
 have hRn : t.Rounds.toNat = R + 1 := by omega
 have hdone : ∀ q k : Nat, q < t.Rounds.toNat → k < bV t q → ∃ v, eV t.Slots (Res l) ⟨q, k⟩ v := fun q k hq hk => h.done q k hq hk (.inl hq)
 have hleft : aAc t must = 0 := by
  unfold aAc
  rw [List.length_eq_zero_iff, List.filter_eq_nil_iff]
  intro y hy
  obtain ⟨hq, hk⟩ := zL.1 hy
  obtain ⟨v, hv⟩ := hdone _ _ hq hk
  have := (hM.mem _ _ v hq hk).2 hv
  unfold kP
  rw [decide_eq_true_eq]
  exact fun e => this.2 (this.1.symm.trans e)
 have h0 : (0 : Nat) < bV t R := yF
 obtain ⟨v, hv⟩ := hdone R 0 (by omega) h0
 have hm := (hM.mem R 0 v (by omega) h0).2 hv
 obtain ⟨a, ha, e1, e2, e3, _, e5⟩ := h.good.down hv
 have hrng := ht.rng a ha
 have hga : t.Slots.getD a 0 = t.Slots[a] := by simp [List.getD, ha]
 have hmB : gB t (R : Int) ((0 : Nat) : Int) = true := by
  unfold gB
  rw [Bool.and_eq_true, iX, iX]; omega
 have hL : sY t l = some (0, 0) := by
  have := aKk h.good hd hM
  rw [hleft] at this; exact this
 have hW : qK t l (w64 (t.Rounds - 1)) 0 = some (v, 0) := by
  have := aGi h.good hd hM hmB
  rw [hm.1, if_neg hm.2] at this
  rw [dJ (by omega) (by omega), show t.Rounds - 1 = (R : Int) by omega]
  exact this
 have hleast : zI t.Slots must a t = R + 1 := by
  have g1 := aGm (aDz t.Slots must a) t.Rounds.toNat
  have g2 := (aVf ht h.good.dok hM ha (r := R) (by omega)).2 fun q hq => by rw [← e1]; exact e5 q hq
  unfold zI at *
  omega
 have hmost : tF t.Slots must a t = R + 1 := by
  have g1 := aGm (aEa t.Slots must a) t.Rounds.toNat
  have g2 := (aXa ht h.good.dok hM ha (r := R) (by omega)).2 (by
   rintro m v' w' hv' ⟨rfl, q, hq, rfl⟩
   rw [← e1]
   exact h.good.fn _ _ _ hv' (e5 q hq))
  unfold tF at *
  omega
 have hRe : mX t l v = some (⟨t.Rounds, t.Rounds⟩, 0) := by
  have := aDw h.good hd hM v
  have hwi : wi v 0 999 = true := iX.2 (by rw [e1, hga]; rw [hga] at e2; omega)
  have hsl : tG t.Slots v = (a : Int) := by rw [e1]; exact aVu h.good.dok ha e2
  unfold wK at this
  rw [if_pos hwi, hsl, if_neg (by omega)] at this
  unfold wK.leftFrom wK.mostFrom at this
  rw [Int.toNat_natCast, hleast, hmost, ← hR] at this
  exact this
 unfold lG
 rw [bM hL, bM hW]
 show (mX t l v).bind _ = _
 rw [bM hRe, decide_eq_true rfl, cond_true, decide_eq_true rfl, Option.bind_some, cond_true, aMs]
 rfl
theorem aPf {f : bH} {x : dF} (hx : aJt f x) (hF : x.First.length + 1 = 2 ^ t.Rounds.toNat) (h8 : 2 ^ t.Rounds.toNat ≤ 8) : ∀ (n r k nu : Nat) (l : List aF), t.Rounds.toNat - r = n → r ≤ t.Rounds.toNat → n < k → nu + 2 ^ (t.Rounds.toNat - r) = 2 ^ t.Rounds.toNat → CI t r (bV t r) l → dY t f x k nu r l = some true := by
 have h1 := ht.r1
 have h5 := ht.r5
 have h32 := ht.len32
 rw [ht.len] at h32
 intro n
 induction n with
 | zero =>
  intro r k nu l hn hr hk hnu h
  obtain ⟨k, rfl⟩ : ∃ q, k = q + 1 := ⟨k - 1, by omega⟩
  have : r = t.Rounds.toNat := by omega
  subst this
  rw [dY, decide_eq_false (by omega), cond_false]
  exact aMu ht h
 | succ n ih =>
  intro r k nu l hn hr hk hnu h
  obtain ⟨k, rfl⟩ : ∃ q, k = q + 1 := ⟨k - 1, by omega⟩
  have hrr : r < t.Rounds.toNat := by omega
  have hP := wQ ht (r := (r : Int)) (by omega) (by omega)
  have hpp := yF (t := t) (r := (r : Int))
  have h16 := kF ht (r := (r : Int))
  have hpw : 2 ^ (t.Rounds.toNat - r) = 2 * bV t r := by
   unfold bV
   rw [Int.toNat_natCast, ← Nat.pow_succ']
   congr 1; omega
  have hpw2 : 2 ^ (t.Rounds.toNat - (r + 1)) = bV t r := by
   unfold bV
   rw [Int.toNat_natCast]
   congr 1; omega
  rw [dY, decide_eq_true (show (r : Int) < t.Rounds by omega), cond_true, bM hP, dJ (n := (bV t r : Int) - 1) (by omega) (by omega)]
  refine aRn ht hx _ hrr (by omega) (by omega) (fun l' h' => ?_) (bV t r) BIG l (Nat.le_refl _) (cX (by omega)) h
  unfold lH oD
  rw [bM hP, cI (show r < 9223372036854775807 by omega), dJ (n := (nu : Int) + (bV t r : Int)) (by omega) (by omega)]
  have hle : 2 ^ (t.Rounds.toNat - r) ≤ 2 ^ t.Rounds.toNat := Nat.pow_le_pow_right (by omega) (Nat.sub_le _ _)
  exact ih (r + 1) k (nu + bV t r) l' (by omega) (by omega) (by omega) (by omega) (h'.next (by omega))
end
theorem aMv (A I : Option Bool) (a b : Bool) (W : Option Bool) (hW : (W.bind fun r => some r) = some true) (F : Option Bool) {i g : Bool} (hI : I = some i) (h : g = false → i = true → a = false → b = false → F = some true) :
  ((bif g then (some true) else (I.bind fun r4 => some (!r4))).bind fun b5 =>
  (bif b5 then (some true) else (some a)).bind fun b6 =>
  (bif b6 then (some true) else (some b)).bind fun b7 =>
  bif b7 then (W.bind fun r8 => some r8) else F) = some true := by
 subst hI
 cases g
 ·cases i
  ·simpa using hW
  ·cases a
   ·cases b
    ·simpa using h rfl rfl rfl rfl
    ·simpa using hW
   ·simpa using hW
 ·simpa using hW
theorem yC (t : aN) (f : bH) (x : dF) (_ht : aLg t) (_hf : aGs f) (_hx : xS x) : nE t f x = some true := by
 unfold nE
 refine aMv none _ _ _ _ aMs _ (aDv t) fun h8 hB h1 h2 => ?_
 have ht := oN hB
 have h8 : t.Slots.length ≤ 8 := by have := of_decide_eq_false h8; omega
 have hlen := ht.len
 have hr5 := ht.r5
 have h1 : (x.First.length : Int) = w64 ((t.Slots.length : Int) - 1) := by simpa using h1
 have h2 : (x.Points.length : Int) = (x.First.length : Int) := by simpa using h2
 have hpos := Nat.two_pow_pos t.Rounds.toNat
 rw [uK (by omega) (by omega)] at h1
 refine qB (S := Unit) (fun k i _ => fM t f x k i) x.First.length (fun o => o = some true)
  (fun i _ => i ≤ x.First.length ∧ ∀ j : Nat, j < i → ∃ a b, idx x.First j = some a ∧ idx x.Points j = some b ∧ ∃ s, pA f a b = some (s, 0) ∧ (s.Winner = 0 ∨ s.Winner = 1)) ?_ ?_ BIG 0 () (cX (by omega)) ⟨Nat.zero_le _, fun j hj => by omega⟩
 ·intro k i _ hi hI ih
  have hip : i < x.Points.length := by omega
  obtain ⟨M, e, hr, hp⟩ := aVn f x.First[i] x.Points[i]
  have hlt : decide ((i : Int) < (x.First.length : Int)) = true := decide_eq_true (by omega)
  simp only [fM, hlt, cond_true, cI (show i < 9223372036854775807 by omega)]
  rw [bM (cC hi), bM (cC hip), bM hr, cC hip]
  by_cases he : e = 0
  ·by_cases hw : M.Score.Winner < 0
   ·have : (bif !decide ((M, e).2 = 0) then (some true) else (some (decide ((M, e).1.Score.Winner < 0)))) = some true := by
     show (bif !decide (e = 0) then (some true) else (some (decide (M.Score.Winner < 0)))) = some true
     rw [decide_eq_true he, decide_eq_true hw]; rfl
    rw [this]; exact aMs
   ·have : (bif !decide ((M, e).2 = 0) then (some true) else (some (decide ((M, e).1.Score.Winner < 0)))) = some false := by
     show (bif !decide (e = 0) then (some true) else (some (decide (M.Score.Winner < 0)))) = some false
     rw [decide_eq_true he, decide_eq_false hw]; rfl
    rw [this, Option.bind_some, cond_false, Option.bind_some]
    cases decide (60 < (x.Points[i].length : Int)) with
    | true => exact aMs
    | false =>
     rw [Option.bind_some, cond_false]
     refine ih () ⟨by omega, fun j hj => ?_⟩
     by_cases hji : j = i
     ·subst hji
      exact ⟨_, _, cC hi, cC hip, hp he (by omega)⟩
     ·exact hI.2 j (by omega)
  ·have : (bif !decide ((M, e).2 = 0) then (some true) else (some (decide ((M, e).1.Score.Winner < 0)))) = some true := by
    show (bif !decide (e = 0) then (some true) else (some (decide (M.Score.Winner < 0)))) = some true
    rw [decide_eq_false he]; rfl
   rw [this]; exact aMs
 ·intro k i _ hi hI
  have : i = x.First.length := by omega
  subst this
  have hlt : decide ((x.First.length : Int) < (x.First.length : Int)) = false := decide_eq_false (by omega)
  simp only [fM, hlt, cond_false, oC]
  exact aPf ht hI.2 (by omega) (by omega) t.Rounds.toNat 0 BIG 0 [] (by omega) (by omega) (cX (by omega)) (by simp) (CI.start hB)
end Go.Am
