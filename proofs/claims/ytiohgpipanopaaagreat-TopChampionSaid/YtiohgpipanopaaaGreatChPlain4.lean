/- Matches by points: all points, both ways. -/
import Derived.Test.YtiohgpipanopaaaGreatChPlain3
namespace Go.Am
theorem aPc (f : bH) (b : aQ) (tb : Bool) (to s : Int) : (jB f b tb to s).2 = -1 ∨ (jB f b tb to s).2 = 0 ∨ (jB f b tb to s).2 = 1 := by
 unfold jB
 have h := yM f tb to (cB b.Points s)
 cases decide (kI f tb to (cB b.Points s) < 0)
 ·cases oM f tb (cB b.Games (kI f tb to (cB b.Points s)))
  ·exact .inl rfl
  ·cases mE f (dB (b.Sets ++ [cB b.Games (kI f tb to (cB b.Points s))]))
   ·exact .inl rfl
   ·simp only [cond_false, cond_true]; omega
 ·exact .inl rfl
theorem aWp {f : bH} (hf : okF f) {M : aJ} (hs : M.Score.Board.Sets.length ≤ 100000) (hA : 0 ≤ M.Score.Board.Games.A) (hl : M.Games.length ≤ 100000) : ∃ n, mJ f M = some n := by
 unfold mJ
 obtain ⟨sv, hsv⟩ := aKl f M.First hl (mW f (dB M.Score.Board.Sets) M.Score.Board.Games) (w64 (M.Score.Board.Points.A + M.Score.Board.Points.B))
 rw [bM (aHv hf hs hA), bM hsv]
 cases decide (0 ≤ M.Score.Winner) <;> exact ⟨_, rfl⟩
def aFb (ps : List Int) (k : Nat) (i : Int) (m : bK) : Option ((Option bK) × Int) :=
 mV ps (ps.length : Int) k i m.Score.Board.Sets m.ties m.games m.rules m.Score.Board.Games m.Score.Board.Points m.Score.Server m.Score.Ends m.Score.Balls m.Score.Winner m.first m.won
theorem aVm {f : bH} (hf : okF f) {ps : List Int} (hp : ps.length ≤ 600) (o : aJ) : ∀ (n i k k' : Nat) (m : bK) (M : aJ), ps.length - i = n → i ≤ ps.length → n < k → n < k' → PI f i m → M.Score.Board = m.Score.Board → M.Score.Winner = -1 → M.Games.length ≤ i →
  ∃ M' e, hC ps f k (i : Int) o M = some (M', e) ∧ (e = 0 → 0 ≤ M'.Score.Winner → ∃ mm, aFb ps k' (i : Int) m = some (some mm, 0) ∧ (mm.Score.Winner = 0 ∨ mm.Score.Winner = 1)) := by
 intro n
 induction n with
 | zero =>
  intro i k k' m M hn hi hk hk' h hB hW hG
  obtain ⟨k, rfl⟩ : ∃ q, k = q + 1 := ⟨k - 1, by omega⟩
  have : i = ps.length := by omega
  subst this
  have a1 := h.bi.sets
  have a2 := h.bi.games
  unfold small at a2
  obtain ⟨sv, hsv⟩ := aWp hf (M := M) (by rw [hB]; omega) (by rw [hB]; exact a2.1.1) (by omega)
  rw [hC, decide_eq_false (Int.lt_irrefl _), cond_false]
  unfold pI
  rw [bM hsv]
  refine ⟨_, _, rfl, fun _ hw => ?_⟩
  simp only [hW] at hw
  omega
 | succ n ih =>
  intro i k k' m M hn hi hk hk' h hB hW hG
  obtain ⟨k, rfl⟩ : ∃ q, k = q + 2 := ⟨k - 2, by omega⟩
  obtain ⟨k', rfl⟩ : ∃ q, k' = q + 2 := ⟨k' - 2, by omega⟩
  have hil : i < ps.length := by omega
  have hlt : decide ((i : Int) < (ps.length : Int)) = true := decide_eq_true (by omega)
  have hwi : dD ps[i] 0 1 = some (decide (0 ≤ ps[i]) && decide (ps[i] ≤ 1)) := by unfold dD; rw [dQ]; rfl
  have h0 : decide (0 ≤ M.Score.Winner) = false := decide_eq_false (by omega)
  have h0' : decide (0 ≤ m.Score.Winner) = false := decide_eq_false (by have := h.win; omega)
  rw [show k + 2 = (k + 1) + 1 from rfl, hC, hlt, cond_true, bM (cC hil), bM hwi, h0, oK, Option.bind_some, Bool.or_false]
  by_cases hx : 0 ≤ ps[i] ∧ ps[i] ≤ 1
  ·have hx01 : ps[i] = 0 ∨ ps[i] = 1 := by omega
   have hB2 : BI f i M.Score.Board := by rw [hB]; exact h.bi
   obtain ⟨m', p1, p2, p3⟩ := aRj hf h (by omega) hx01
   obtain ⟨M', q1, q2, q3⟩ := aTi hf hB2 (by omega) hW hG rfl rfl ps[i]
   rw [decide_eq_true hx.1, decide_eq_true hx.2, Bool.and_self, Bool.not_true, cond_false, bM (cC hil), bM q1, cI (show i < 9223372036854775807 by omega)]
   have hpl : aFb ps ((k' + 1) + 1) (i : Int) m = aFb ps (k' + 1) ((i + 1 : Nat) : Int) m' := by
    unfold aFb
    rw [mV, hlt, cond_true, bM (cC hil), h0', cI (show i < 9223372036854775807 by omega)]
    have e1 : (bif !decide (ps[i] = 0) then (some (!decide (ps[i] = 1))) else (some false)) = some false := by rcases hx01 with e | e <;> rw [e] <;> rfl
    rw [e1, Option.bind_some, cond_false, Option.bind_some, cond_false]
    exact bM p1 _
   rw [hpl]
   rw [hB] at q2 q3
   by_cases hnw : (jB f m.Score.Board (mW f (dB m.Score.Board.Sets) m.Score.Board.Games) (jC f (dB m.Score.Board.Sets)).2 ps[i]).2 = -1
   ·obtain ⟨p4, p5⟩ := p3 hnw
    obtain ⟨q4, q5⟩ := q3 hnw
    exact ih (i + 1) (k + 1) (k' + 1) m' M' (by omega) (by omega) (by omega) (by omega) p5 (q4.trans p4.symm) (q2.trans hnw) q5
   ·have hw01 : M'.Score.Winner = 0 ∨ M'.Score.Winner = 1 := by rw [q2]; exact (aPc _ _ _ _ _).resolve_left hnw
    have hmm : m'.Score.Winner = M'.Score.Winner := p2.trans q2.symm
    have h1 : decide (0 ≤ M'.Score.Winner) = true := decide_eq_true (by omega)
    rw [hC]
    by_cases hl : i + 1 < ps.length
    ·rw [decide_eq_true (show ((i + 1 : Nat) : Int) < (ps.length : Int) by omega), cond_true, bM (cC hl), h1]
     unfold dD
     rw [dQ, Option.bind_some, Option.bind_some, oK, Option.bind_some, Bool.or_true, cond_true]
     exact ⟨_, _, rfl, fun he => by simp at he⟩
    ·rw [decide_eq_false (show ¬ ((i + 1 : Nat) : Int) < (ps.length : Int) by omega), cond_false]
     unfold pI mJ
     rw [h1, cond_true, Option.bind_some]
     refine ⟨_, _, rfl, fun _ _ => ?_⟩
     unfold aFb
     rw [mV, decide_eq_false (show ¬ ((i + 1 : Nat) : Int) < (ps.length : Int) by omega), cond_false]
     exact ⟨m', rfl, by rw [hmm]; exact hw01⟩
  ·have : (decide (0 ≤ ps[i]) && decide (ps[i] ≤ 1)) = false := by rw [← Bool.decide_and]; exact decide_eq_false hx
   rw [this, Bool.not_false, cond_true]
   exact ⟨_, _, rfl, fun he => by simp at he⟩
theorem aWs (f : bH) : ∃ c, nO f = some c ∧ tX f = some c ∧ (c = 0 → okF f) := by
 have w1 : ∀ n a b, dD n a b = some (decide (a ≤ n) && decide (n ≤ b)) := fun n a b => by unfold dD; rw [dQ]; rfl
 have w2 : ∀ n a b, jO n a b = some (decide (a ≤ n) && decide (n ≤ b)) := fun n a b => by unfold jO; rw [dQ]; rfl
 have t1 : ∀ n, ∃ b, lO f n = some b ∧ oL n f = some b := fun n => by
  unfold lO oL
  simp only [oK, Option.bind_some]
  exact ⟨_, rfl, rfl⟩
 obtain ⟨x1, y1, z1⟩ := t1 f.Tie
 obtain ⟨x2, y2, z2⟩ := t1 f.LastTie
 unfold nO tX
 simp only [w1, w2, y1, y2, z1, z2, Option.bind_some, oK, dQ]
 have hS : (decide (1 ≤ f.Sets) && decide (f.Sets ≤ 3)) = true → 1 ≤ f.Sets ∧ f.Sets ≤ 3 := fun h => by simpa using h
 have hG : (decide (1 ≤ f.Games) && decide (f.Games ≤ 8)) = true → 1 ≤ f.Games ∧ f.Games ≤ 8 := fun h => by simpa using h
 revert hS hG
 generalize (decide (1 ≤ f.Sets) && decide (f.Sets ≤ 3)) = a1
 generalize (decide (1 ≤ f.Games) && decide (f.Games ≤ 8)) = a2
 generalize (decide (1 ≤ f.To) && decide (f.To ≤ 15)) = a3
 generalize (decide (1 ≤ f.LastTo) && decide (f.LastTo ≤ 15)) = a4
 generalize (decide (0 ≤ f.First) && decide (f.First ≤ 20)) = a5
 generalize (decide (0 ≤ f.Then) && decide (f.Then ≤ 20)) = a6
 intro hS hG
 cases a1 <;> cases a2 <;> cases x1 <;> cases x2 <;> cases a3 <;> cases a4 <;> cases a5 <;> cases a6 <;> first | exact ⟨0, rfl, rfl, fun _ => ⟨hS rfl, hG rfl⟩⟩ | exact ⟨10, rfl, rfl, fun h => absurd h (by decide)⟩
theorem aVn (f : bH) (first : Int) (ps : List Int) : ∃ M e, pP f first ps = some (M, e) ∧ (e = 0 → 0 ≤ M.Score.Winner → ∃ s, pA f first ps = some (s, 0) ∧ (s.Winner = 0 ∨ s.Winner = 1)) := by
 obtain ⟨c, h1, h2, h3⟩ := aWs f
 have hw : dD first 0 1 = some (decide (0 ≤ first) && decide (first ≤ 1)) := by unfold dD; rw [dQ]; rfl
 unfold pP
 rw [bM h1]
 by_cases hc : c = 0
 ·have hf := h3 hc
  subst hc
  rw [decide_eq_true rfl, Bool.not_true, cond_false, bM hw]
  by_cases hfi : 0 ≤ first ∧ first ≤ 1
  ·rw [decide_eq_true hfi.1, decide_eq_true hfi.2, Bool.and_self, Bool.not_true, cond_false]
   by_cases hl : (600 : Int) < (ps.length : Int)
   ·rw [decide_eq_true hl, cond_true]
    exact ⟨_, _, rfl, fun he => by simp at he⟩
   ·rw [decide_eq_false hl, cond_false]
    obtain ⟨M, b1, b2, b3, b4⟩ := aKo hf (M := ⟨⟨⟨[], ⟨0, 0⟩, ⟨0, 0⟩⟩, 0, 0, 0, -1⟩, first, [], false⟩) (by simp) (by simp) (by simp)
    obtain ⟨m, n1, n2, n3, n4, n5, n6, n7⟩ := aLe hf (m := ⟨⟨f⟩, ⟨⟨[], ⟨0, 0⟩, ⟨0, 0⟩⟩, 0, 0, 0, -1⟩, first, ⟨0, 0⟩, [], []⟩) rfl rfl (by simp)
    have hbi : BI f 0 ⟨[], ⟨0, 0⟩, ⟨0, 0⟩⟩ := by
     unfold okF at hf
     exact ⟨by simp, aBr _, aBr _, aWg _, aSb _ _ _, by simp [dB]; omega, by simp [dB]; omega⟩
    have hPI : PI f 0 m := ⟨n2, by rw [n3]; exact hbi, n4, by rw [n5, n3]; rfl, by rw [n6, n7]; simp, by rw [n7]; simp, by rw [n6, n5, n3]; rfl⟩
    unfold qL
    rw [bM b1, Option.bind_some]
    obtain ⟨M', e, r1, r2⟩ := aVm hf (ps := ps) (by omega) ⟨⟨⟨[], ⟨0, 0⟩, ⟨0, 0⟩⟩, 0, 0, 0, 0⟩, 0, [], false⟩ ps.length 0 BIG BIG m M (by omega) (Nat.zero_le _) (cX (by omega)) (cX (by omega)) hPI (b2.trans n3.symm) b3 (by rw [b4]; simp)
    refine ⟨M', e, r1, fun he hw => ?_⟩
    obtain ⟨mm, s1, s2⟩ := r2 he hw
    have hpl : vM f first ps = some (some mm, 0) := by
     unfold vM
     rw [bM h2, decide_eq_true rfl, Bool.not_true, cond_false]
     have e1 : (bif !decide (first = 0) then (some (!decide (first = 1))) else (some false)) = some false := by
      have : first = 0 ∨ first = 1 := by omega
      rcases this with e | e <;> rw [e] <;> rfl
     rw [e1, Option.bind_some, cond_false, decide_eq_false hl, cond_false]
     unfold wN
     rw [bM n1, Option.bind_some]
     exact s1
    unfold pA
    rw [bM hpl]
    exact ⟨mm.Score, rfl, s2⟩
  ·have : (decide (0 ≤ first) && decide (first ≤ 1)) = false := by rw [← Bool.decide_and]; exact decide_eq_false hfi
   rw [this, Bool.not_false, cond_true]
   exact ⟨_, _, rfl, fun he => by simp at he⟩
 ·rw [decide_eq_false hc, Bool.not_false, cond_true]
  exact ⟨_, _, rfl, fun he => by simp at he⟩
end Go.Am
