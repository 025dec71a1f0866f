/- Matches by points: what the program and the reference make of one point. -/
import Derived.Test.YtiohgpipanopaaaGreatDrPlain3
namespace Go.Am
def small (n : Nat) (p : aI) : Prop := (0 ≤ p.A ∧ p.A ≤ n) ∧ 0 ≤ p.B ∧ p.B ≤ n
theorem small.up {n k : Nat} {p : aI} (h : small n p) (hk : n ≤ k) : small k p := by unfold small at *; omega
theorem aBr (n : Nat) : small n ⟨0, 0⟩ := by unfold small; simp
def cB (p : aI) (s : Int) : aI := bif decide (s = 0) then ⟨p.A + 1, p.B⟩ else ⟨p.A, p.B + 1⟩
theorem pH {n : Nat} {p : aI} (h : small n p) (s : Int) : small (n + 1) (cB p s) := by
 unfold small cB at *
 cases decide (s = 0) <;> simp <;> omega
theorem aNx {n : Nat} {p : aI} (h : small n p) (hn : n ≤ 100000) (s : Int) : iH p s = some (cB p s) := by
 unfold small at h
 unfold iH cB
 rw [dJ (n := p.A + 1) (by omega) (by omega), dJ (n := p.B + 1) (by omega) (by omega)]
 cases decide (s = 0) <;> rfl
theorem aFc {n : Nat} {p : aI} (h : small n p) (hn : n ≤ 100000) (s : Int) : qF p s = some (cB p s) := by
 unfold small at h
 unfold qF cB
 rw [dJ (n := p.A + 1) (by omega) (by omega), dJ (n := p.B + 1) (by omega) (by omega)]
 cases decide (s = 0) <;> rfl
def lead (p : aI) (least : Int) : Int := bif decide (least ≤ p.A) && decide (p.B + 2 ≤ p.A) then 0 else bif decide (least ≤ p.B) && decide (p.A + 2 ≤ p.B) then 1 else -1
theorem qW (p : aI) (least : Int) : (lead p least = 0 ∧ least ≤ p.A ∧ p.B + 2 ≤ p.A) ∨ (lead p least = 1 ∧ least ≤ p.B ∧ p.A + 2 ≤ p.B) ∨ (lead p least = -1 ∧ ¬ (least ≤ p.A ∧ p.B + 2 ≤ p.A) ∧ ¬ (least ≤ p.B ∧ p.A + 2 ≤ p.B)) := by
 unfold lead
 by_cases h1 : least ≤ p.A ∧ p.B + 2 ≤ p.A
 ·exact .inl ⟨by rw [decide_eq_true h1.1, decide_eq_true h1.2]; rfl, h1⟩
 ·have e1 : (decide (least ≤ p.A) && decide (p.B + 2 ≤ p.A)) = false := by rw [← Bool.decide_and]; exact decide_eq_false h1
  rw [e1]
  by_cases h2 : least ≤ p.B ∧ p.A + 2 ≤ p.B
  ·exact .inr (.inl ⟨by rw [decide_eq_true h2.1, decide_eq_true h2.2]; rfl, h2⟩)
  ·have e2 : (decide (least ≤ p.B) && decide (p.A + 2 ≤ p.B)) = false := by rw [← Bool.decide_and]; exact decide_eq_false h2
   rw [e2]
   exact .inr (.inr ⟨rfl, h1, h2⟩)
theorem aHo {n : Nat} {p : aI} (h : small n p) (hn : n ≤ 100000) (least : Int) : fH p least = some (lead p least) := by
 unfold small at h
 unfold fH lead
 rw [dJ (n := p.A + 2) (by omega) (by omega), dJ (n := p.B + 2) (by omega) (by omega), dQ, Option.bind_some, dQ, Option.bind_some]
 cases decide (least ≤ p.A) && decide (p.B + 2 ≤ p.A) <;> cases decide (least ≤ p.B) && decide (p.A + 2 ≤ p.B) <;> rfl
theorem aPu {n : Nat} {p : aI} (h : small n p) (hn : n ≤ 100000) (least b : Int) : kJ p least b = some (bif decide (least ≤ p.A) && decide (b ≤ p.A - p.B) then 0 else bif decide (least ≤ p.B) && decide (b ≤ p.B - p.A) then 1 else -1) := by
 unfold small at h
 unfold kJ
 rw [dJ (n := p.A - p.B) (by omega) (by omega), dJ (n := p.B - p.A) (by omega) (by omega), dQ, Option.bind_some, dQ, Option.bind_some]
 cases decide (least ≤ p.A) && decide (b ≤ p.A - p.B) <;> cases decide (least ≤ p.B) && decide (b ≤ p.B - p.A) <;> rfl
theorem aEp {n : Nat} {p : aI} (h : small n p) (hn : n ≤ 100000) (least : Int) : kJ p least 2 = some (lead p least) := by
 rw [aPu h hn]
 have e1 : decide (2 ≤ p.A - p.B) = decide (p.B + 2 ≤ p.A) := by rw [decide_eq_decide]; omega
 have e2 : decide (2 ≤ p.B - p.A) = decide (p.A + 2 ≤ p.B) := by rw [decide_eq_decide]; omega
 rw [e1, e2]; rfl
def kI (f : bH) (tie : Bool) (to : Int) (p : aI) : Int := bif tie then lead p to else bif f.NoAd then (bif decide (4 ≤ p.A) then 0 else bif decide (4 ≤ p.B) then 1 else -1) else lead p 4
theorem yM (f : bH) (tie : Bool) (to : Int) (p : aI) : kI f tie to p = 0 ∨ kI f tie to p = 1 ∨ kI f tie to p = -1 := by
 unfold kI
 cases tie with
 | true => rcases qW p to with h | h | h <;> simp [h.1]
 | false => cases f.NoAd with
  | true => cases decide (4 ≤ p.A) <;> cases decide (4 ≤ p.B) <;> simp
  | false => rcases qW p 4 with h | h | h <;> simp [h.1]
theorem aSb (f : bH) (tie : Bool) (to : Int) : kI f tie to ⟨0, 0⟩ = -1 := by
 have h : ∀ x, lead ⟨0, 0⟩ x = -1 := fun x => by rcases qW ⟨0, 0⟩ x with h | h | h <;> simp_all
 unfold kI
 rw [h, h]
 cases tie <;> cases f.NoAd <;> rfl
theorem aSu {f : bH} {n : Nat} {p : aI} (h : small n p) (hn : n ≤ 100000) {tie : Bool} (t to : Int) (h3 : tie = false → f.NoAd = true → p.A ≤ 3 ∨ p.B ≤ 3) : lS ⟨f⟩ ⟨t, to⟩ tie p = some (kI f tie to p) := by
 unfold lS kI
 cases tie with
 | true => rw [cond_true, aEp h hn]; rfl
 | false =>
  rw [cond_false]
  cases hA : f.NoAd with
  | false => rw [cond_false, aEp h hn]; rfl
  | true =>
   rw [cond_true, aPu h hn, Option.bind_some]
   have e1 : (decide (4 ≤ p.A) && decide (1 ≤ p.A - p.B)) = decide (4 ≤ p.A) := by
    rw [← Bool.decide_and, decide_eq_decide]; have := h3 rfl hA; omega
   have e2 : (decide (4 ≤ p.B) && decide (1 ≤ p.B - p.A)) = decide (4 ≤ p.B) := by
    rw [← Bool.decide_and, decide_eq_decide]; have := h3 rfl hA; omega
   rw [e1, e2]; rfl
theorem aUw {f : bH} {n : Nat} {p : aI} (h : small n p) (hn : n ≤ 100000) (to : Int) : jX f p = some (kI f false to p) := by
 unfold jX kI
 rw [cond_false]
 cases f.NoAd with
 | false => rw [cond_false, aHo h hn]; rfl
 | true => cases decide (4 ≤ p.A) <;> cases decide (4 ≤ p.B) <;> rfl
theorem aYy {f : bH} {to : Int} {p : aI} (h : kI f false to p = -1) (hA : f.NoAd = true) (s : Int) : (cB p s).A ≤ 3 ∨ (cB p s).B ≤ 3 := by
 have h4 : p.A ≤ 3 ∧ p.B ≤ 3 := by
  unfold kI at h
  rw [cond_false, hA, cond_true] at h
  by_cases h1 : 4 ≤ p.A
  ·rw [decide_eq_true h1] at h; cases h
  ·rw [decide_eq_false h1] at h
   by_cases h2 : 4 ≤ p.B
   ·rw [decide_eq_true h2] at h; cases h
   ·omega
 unfold cB
 cases decide (s = 0) <;> simp <;> omega
def dB (l : List aI) : aI := l.foldl (fun p g => bif decide (g.B < g.A) then ⟨p.A + 1, p.B⟩ else ⟨p.A, p.B + 1⟩) ⟨0, 0⟩
theorem xI (l : List aI) (g : aI) : dB (l ++ [g]) = bif decide (g.B < g.A) then ⟨(dB l).A + 1, (dB l).B⟩ else ⟨(dB l).A, (dB l).B + 1⟩ := by
 unfold dB; rw [List.foldl_append]; rfl
theorem aJr (l : List aI) : small l.length (dB l) := by
 have key : ∀ n (l : List aI), l.length = n → small n (dB l) := by
  intro n
  induction n with
  | zero => intro l hl; rw [List.eq_nil_of_length_eq_zero hl]; exact aBr 0
  | succ n ih =>
   intro l hl
   obtain ⟨l', g, rfl⟩ : ∃ l' g, l = l' ++ [g] := ⟨l.dropLast, l.getLast (by intro e; simp [e] at hl), (List.dropLast_concat_getLast _).symm⟩
   have := ih l' (by simpa using hl)
   rw [xI]
   unfold small at *
   cases decide (g.B < g.A) <;> simp <;> omega
 exact key _ l rfl
theorem aSf (l : List aI) (hl : l.length ≤ 100000) : jA l = some (dB l) := by
 unfold jA
 have main := fP (S := aI) (fun k i o => hZ l ⟨0, 0⟩ k i o) l.length (fun _ _ => some (dB l)) (fun i o => o = dB (l.take i)) ?_ ?_ BIG ⟨0, 0⟩ (cX (by omega)) rfl
 ·exact main
 ·intro k i o hi ho ih
  have hs := aJr (l.take i)
  rw [List.length_take] at hs
  unfold small at hs
  have e := xI (l.take i) l[i]
  rw [← List.take_succ_eq_append_getElem hi, ← ho] at e
  rw [← ho] at hs
  simp only [hZ, Int.ofNat_lt, hi, decide_true, cond_true, cI (show i < 9223372036854775807 by omega)]
  rw [bM (cC hi), bM (cC hi), dJ (n := o.A + 1) (by omega) (by omega), dJ (n := o.B + 1) (by omega) (by omega)]
  cases hb : decide (l[i].B < l[i].A) with
  | true => rw [cond_true]; rw [hb, cond_true] at e; exact ih _ e.symm
  | false => rw [cond_false]; rw [hb, cond_false] at e; exact ih _ e.symm
 ·intro k o ho
  simp only [hZ, Int.lt_irrefl, decide_false, cond_false, tJ, ho, List.take_length]
def jC (f : bH) (won : aI) : Int × Int := bif decide (won.A = f.Sets - 1) && decide (won.B = f.Sets - 1) then (f.LastTie, f.LastTo) else (f.Tie, f.To)
def mW (f : bH) (won g : aI) : Bool := decide (g.A = (jC f won).1) && decide (g.B = (jC f won).1)
def okF (f : bH) : Prop := (1 ≤ f.Sets ∧ f.Sets ≤ 3) ∧ 1 ≤ f.Games ∧ f.Games ≤ 8
theorem aOi {f : bH} (hf : okF f) (won : aI) : kT ⟨f⟩ won = some ⟨(jC f won).1, (jC f won).2⟩ := by
 unfold okF at hf
 unfold kT jC
 simp only [dJ (n := f.Sets - 1) (by omega) (by omega), dQ, Option.bind_some]
 cases decide (won.A = f.Sets - 1) && decide (won.B = f.Sets - 1) <;> rfl
theorem aOx {f : bH} (won g : aI) : nW ⟨(jC f won).1, (jC f won).2⟩ g = some (mW f won g) := by
 unfold nW mW
 rw [dQ]; rfl
theorem aHv {f : bH} (hf : okF f) {b : aQ} (hs : b.Sets.length ≤ 100000) (hA : 0 ≤ b.Games.A) : jH f b = some (mW f (dB b.Sets) b.Games, (jC f (dB b.Sets)).2) := by
 unfold okF at hf
 have h1 : mY f (dB b.Sets) = some (decide ((dB b.Sets).A = f.Sets - 1) && decide ((dB b.Sets).B = f.Sets - 1)) := by
  unfold mY
  rw [dJ (n := f.Sets - 1) (by omega) (by omega), dQ]; rfl
 have h2 : oR f (decide ((dB b.Sets).A = f.Sets - 1) && decide ((dB b.Sets).B = f.Sets - 1)) = some (jC f (dB b.Sets)) := by
  unfold oR jC
  cases decide ((dB b.Sets).A = f.Sets - 1) && decide ((dB b.Sets).B = f.Sets - 1) <;> rfl
 unfold jH
 rw [bM (aSf _ hs), bM h1, bM h2, dQ, Option.bind_some, dQ, Option.bind_some]
 have e : (decide (0 ≤ (jC f (dB b.Sets)).1) && decide (b.Games.A = (jC f (dB b.Sets)).1) && decide (b.Games.B = (jC f (dB b.Sets)).1)) = mW f (dB b.Sets) b.Games := by
  unfold mW
  by_cases h : b.Games.A = (jC f (dB b.Sets)).1
  ·rw [decide_eq_true (show 0 ≤ (jC f (dB b.Sets)).1 by omega), Bool.true_and]
  ·rw [decide_eq_false h]; simp
 rw [e]
theorem aPs (f : bH) (n : Int) : ∃ b, nK f n = some b := by
 unfold nK
 by_cases h : f.Then = 0
 ·have h0 : decide (0 < f.Then) = false := decide_eq_false (by omega)
  rw [h0]
  cases decide (0 < f.First) <;> cases decide (n = f.First) <;> cases decide (f.First < n) <;> exact ⟨_, rfl⟩
 ·have hc : chk (!decide (f.Then = 0)) = some () := by rw [decide_eq_false h]; rfl
  rw [hc]
  cases decide (0 < f.First) <;> cases decide (n = f.First) <;> cases decide (f.First < n) <;> cases decide (0 < f.Then) <;> exact ⟨_, rfl⟩
theorem aNb (r : gP) (n : Int) : ∃ b, mP r n = some b := by
 unfold mP
 by_cases h : r.Format.Then = 0
 ·have h0 : decide (0 < r.Format.Then) = false := decide_eq_false (by omega)
  rw [h0]
  cases decide (0 < r.Format.First) <;> cases decide (w64 (n - r.Format.First) = 0) <;> cases decide (0 < w64 (n - r.Format.First)) <;> exact ⟨_, rfl⟩
 ·have hc : chk (!decide (r.Format.Then = 0)) = some () := by rw [decide_eq_false h]; rfl
  rw [hc]
  cases decide (0 < r.Format.First) <;> cases decide (w64 (n - r.Format.First) = 0) <;> cases decide (0 < w64 (n - r.Format.First)) <;> cases decide (0 < r.Format.Then) <;> exact ⟨_, rfl⟩
theorem aKl (f : bH) (first : Int) {n : Nat} (hn : n ≤ 100000) (tie : Bool) (p : Int) : ∃ s, gE f first n tie p = some s := by
 have key : ∀ turn side : Int, ∃ s, dS first n turn side BIG 0 0 = some s := fun turn side => by
  refine qB (S := Int) (fun k i o => dS first n turn side k o i) n (fun o => ∃ s, o = some s) (fun i _ => i ≤ n) ?_ ?_ BIG 0 0 (cX (by omega)) (Nat.zero_le _)
  ·intro k i o hi _ ih
   simp only [dS, Int.ofNat_lt, hi, decide_true, cond_true, cI (show i < 9223372036854775807 by omega)]
   cases decide ((w64 (first + (i : Int))).tmod 2 = side)
   ·exact ih _ (by omega)
   ·exact ih _ (by omega)
  ·intro k i o h1 h2
   have : i = n := by omega
   subst this
   simp only [dS, Int.lt_irrefl, decide_false, cond_false]
   exact ⟨_, rfl⟩
 unfold gE
 cases tie <;> cases f.Doubles
 ·exact ⟨_, rfl⟩
 ·exact key _ _
 ·exact ⟨_, rfl⟩
 ·exact key _ _
theorem aKo {f : bH} (hf : okF f) {M : aJ} (hs : M.Score.Board.Sets.length ≤ 100000) (hA : 0 ≤ M.Score.Board.Games.A) (hl : M.Games.length ≤ 100000) :
  ∃ M', cR f M = some M' ∧ M'.Score.Board = M.Score.Board ∧ M'.Score.Winner = M.Score.Winner ∧ M'.Games = M.Games := by
 obtain ⟨b, hb⟩ := aPs f (M.Games.length : Int)
 obtain ⟨b2, hb2⟩ := aPs f (w64 ((M.Games.length : Int) - 2))
 unfold cR
 rw [bM (aHv hf hs hA), bM hb, hb2, dQ, Option.bind_some]
 have hin : ∃ c, (bif (b && !mW f (dB M.Score.Board.Sets) M.Score.Board.Games) then (some true) else ((bif decide (2 ≤ (M.Games.length : Int)) then ((some b2).bind fun r7 => some r7) else (some false)).bind fun b8 =>
   (bif b8 then ((idx M.Games (w64 ((M.Games.length : Int) - 2))).bind fun x9 => some x9.Tie) else (some false)).bind fun b10 => some b10)) = some c := by
  by_cases h2 : 2 ≤ M.Games.length
  ·have e : w64 ((M.Games.length : Int) - 2) = ((M.Games.length - 2 : Nat) : Int) := by rw [dJ (by omega) (by omega)]; omega
   rw [decide_eq_true (by omega), e, cC (show M.Games.length - 2 < M.Games.length by omega)]
   cases (b && !mW f (dB M.Score.Board.Sets) M.Score.Board.Games) <;> cases b2 <;> exact ⟨_, rfl⟩
  ·rw [decide_eq_false (by omega)]
   cases (b && !mW f (dB M.Score.Board.Sets) M.Score.Board.Games) <;> exact ⟨_, rfl⟩
 obtain ⟨c, hc⟩ := hin
 rw [bM hc]
 cases c <;> exact ⟨_, rfl, rfl, rfl, rfl⟩
theorem xF {m : bK} (h1 : 1 ≤ m.ties.length) (hb : m.ties.length ≤ 100001) (p : Int) : ∃ s, fX m p = some s := by
 have e : w64 ((m.ties.length : Int) - 1) = ((m.ties.length - 1 : Nat) : Int) := uK (by omega) (by omega)
 unfold fX fW
 rw [Option.bind_some, e, bM (cC (show m.ties.length - 1 < m.ties.length by omega))]
 cases m.ties[m.ties.length - 1] <;> cases m.rules.Format.Doubles <;> exact ⟨_, rfl⟩
theorem aNi {m : bK} (h1 : 1 ≤ m.ties.length) (hb : m.ties.length ≤ 100001) : ∃ b, kZ m = some b := by
 have e : w64 ((m.ties.length : Int) - 1) = ((m.ties.length - 1 : Nat) : Int) := uK (by omega) (by omega)
 unfold kZ fW
 obtain ⟨b, hb1⟩ := aNb m.rules ((m.ties.length - 1 : Nat) : Int)
 obtain ⟨b2, hb2⟩ := aNb m.rules (w64 (((m.ties.length - 1 : Nat) : Int) - 2))
 rw [Option.bind_some, e, bM (cC (show m.ties.length - 1 < m.ties.length by omega)), hb1, hb2]
 by_cases h2 : 2 ≤ ((m.ties.length - 1 : Nat) : Int)
 ·have e2 : w64 (((m.ties.length - 1 : Nat) : Int) - 2) = ((m.ties.length - 3 : Nat) : Int) := by rw [dJ (by omega) (by omega)]; omega
  rw [decide_eq_true h2, e2, cC (show m.ties.length - 3 < m.ties.length by omega)]
  cases m.ties[m.ties.length - 1] <;> cases b <;> cases m.ties[m.ties.length - 3] <;> cases b2 <;> exact ⟨_, rfl⟩
 ·rw [decide_eq_false h2]
  cases m.ties[m.ties.length - 1] <;> cases b <;> exact ⟨_, rfl⟩
theorem aLe {f : bH} (hf : okF f) {m : bK} (hr : m.rules = ⟨f⟩) (hw : m.Score.Winner = -1) (hb : m.ties.length ≤ 100000) :
  ∃ m', dV m = some m' ∧ m'.rules = m.rules ∧ m'.Score.Board = m.Score.Board ∧ m'.Score.Winner = -1 ∧ m'.won = m.won ∧ m'.ties = m.ties ++ [mW f m.won m.Score.Board.Games] ∧ m'.games = m.games := by
 unfold dV
 have h0 : decide (0 ≤ m.Score.Winner) = false := decide_eq_false (by omega)
 have hset := aOi hf m.won
 rw [← hr] at hset
 rw [h0, cond_false, bM hset, bM (aOx _ _), bM (fQ (by simp; omega))]
 obtain ⟨b, hfr⟩ := aNi (m := ⟨m.rules, m.Score, m.first, m.won, m.ties ++ [mW f m.won m.Score.Board.Games], m.games⟩) (by simp) (by simp; omega)
 rw [bM hfr]
 cases b with
 | true =>
  obtain ⟨s, hs⟩ := xF (m := ⟨m.rules, ⟨m.Score.Board, m.Score.Server, m.Score.Ends, w64 (m.Score.Balls + 1), m.Score.Winner⟩, m.first, m.won, m.ties ++ [mW f m.won m.Score.Board.Games], m.games⟩) (by simp) (by simp; omega) 0
  rw [cond_true, bM hs]
  exact ⟨_, rfl, rfl, rfl, hw, rfl, rfl, rfl⟩
 | false =>
  obtain ⟨s, hs⟩ := xF (m := ⟨m.rules, m.Score, m.first, m.won, m.ties ++ [mW f m.won m.Score.Board.Games], m.games⟩) (by simp) (by simp; omega) 0
  rw [cond_false, bM hs]
  exact ⟨_, rfl, rfl, rfl, hw, rfl, rfl, rfl⟩
theorem aTd {m : bK} (hw : 0 ≤ m.Score.Winner) : ∃ m', dV m = some m' ∧ m'.Score.Winner = m.Score.Winner := by
 unfold dV
 rw [decide_eq_true hw]
 exact ⟨_, rfl, rfl⟩
end Go.Am
