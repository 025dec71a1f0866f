/- Matches by points: one point, both ways; then all of them. -/
import Derived.Test.YtiohgpipanopaaaGreatChPlain1
namespace Go.Am
def oM (f : bH) (tb : Bool) (g : aI) : Bool := tb || decide (0 ≤ lead g f.Games)
def mE (f : bH) (w : aI) : Bool := decide (w.A = f.Sets) || decide (w.B = f.Sets)
def jB (f : bH) (b : aQ) (tb : Bool) (to s : Int) : aQ × Int :=
 bif decide (kI f tb to (cB b.Points s) < 0) then (⟨b.Sets, b.Games, cB b.Points s⟩, -1)
 else bif oM f tb (cB b.Games (kI f tb to (cB b.Points s))) then
  (bif mE f (dB (b.Sets ++ [cB b.Games (kI f tb to (cB b.Points s))])) then (⟨b.Sets ++ [cB b.Games (kI f tb to (cB b.Points s))], ⟨0, 0⟩, ⟨0, 0⟩⟩, kI f tb to (cB b.Points s))
   else (⟨b.Sets ++ [cB b.Games (kI f tb to (cB b.Points s))], ⟨0, 0⟩, ⟨0, 0⟩⟩, -1))
 else (⟨b.Sets, cB b.Games (kI f tb to (cB b.Points s)), ⟨0, 0⟩⟩, -1)
structure BI (f : bH) (i : Nat) (b : aQ) : Prop where
 sets : b.Sets.length ≤ i
 games : small i b.Games
 points : small i b.Points
 lead : lead b.Games f.Games = -1
 op : kI f (mW f (dB b.Sets) b.Games) (jC f (dB b.Sets)).2 b.Points = -1
 wa : (dB b.Sets).A < f.Sets
 wb : (dB b.Sets).B < f.Sets
theorem aWg (x : Int) : lead ⟨0, 0⟩ x = -1 := by
 rcases qW ⟨0, 0⟩ x with h | h | h <;> simp_all
section
variable {f : bH} (hf : okF f) {i : Nat} {b : aQ} (h : BI f i b) (hi : i ≤ 10000) {tb : Bool} (htb : tb = mW f (dB b.Sets) b.Games) {to : Int} (hto : to = (jC f (dB b.Sets)).2) (s : Int)
include h htb hto
theorem aPn (hn : (jB f b tb to s).2 = -1) : BI f (i + 1) (jB f b tb to s).1 := by
 unfold jB at *
 have hw := yM f tb to (cB b.Points s)
 generalize hwe : kI f tb to (cB b.Points s) = w at *
 by_cases h0 : w < 0
 ·rw [decide_eq_true h0, cond_true]
  refine ⟨Nat.le_succ_of_le h.sets, h.games.up (by omega), pH h.points s, h.lead, ?_, h.wa, h.wb⟩
  show kI f (mW f (dB b.Sets) b.Games) (jC f (dB b.Sets)).2 (cB b.Points s) = -1
  rw [← htb, ← hto, hwe]; omega
 ·rw [decide_eq_false h0, cond_false] at hn ⊢
  cases hso : oM f tb (cB b.Games w) with
  | false =>
   rw [cond_false]
   refine ⟨Nat.le_succ_of_le h.sets, pH h.games w, aBr _, ?_, aSb _ _ _, h.wa, h.wb⟩
   unfold oM at hso
   rw [Bool.or_eq_false_iff] at hso
   have := of_decide_eq_false hso.2
   show lead (cB b.Games w) f.Games = -1
   rcases qW (cB b.Games w) f.Games with h1 | h1 | h1
   ·rw [h1.1] at this; omega
   ·rw [h1.1] at this; omega
   ·exact h1.1
  | true =>
   rw [hso, cond_true] at hn
   rw [cond_true]
   cases hmo : mE f (dB (b.Sets ++ [cB b.Games w])) with
   | true => rw [hmo, cond_true] at hn; exfalso; simp only at hn; omega
   | false =>
    rw [cond_false]
    unfold mE at hmo
    rw [Bool.or_eq_false_iff] at hmo
    have m1 := of_decide_eq_false hmo.1
    have m2 := of_decide_eq_false hmo.2
    have ha := h.wa
    have hb := h.wb
    refine ⟨by simp; exact h.sets, aBr _, aBr _, aWg _, aSb _ _ _, ?_, ?_⟩
    ·show (dB (b.Sets ++ [cB b.Games w])).A < f.Sets
     rw [xI] at m1 ⊢
     cases hd : decide ((cB b.Games w).B < (cB b.Games w).A) <;> rw [hd] at m1 <;> simp at m1 ⊢ <;> omega
    ·show (dB (b.Sets ++ [cB b.Games w])).B < f.Sets
     rw [xI] at m2 ⊢
     cases hd : decide ((cB b.Games w).B < (cB b.Games w).A) <;> rw [hd] at m2 <;> simp at m2 ⊢ <;> omega
omit hto in
theorem aOk {w : Int} (hw : w = 0 ∨ w = 1) (hso : oM f tb (cB b.Games w) = true) : dB (b.Sets ++ [cB b.Games w]) = cB (dB b.Sets) w := by
 rw [xI]
 have hl := h.lead
 have key : decide ((cB b.Games w).B < (cB b.Games w).A) = decide (w = 0) := by
  rw [decide_eq_decide]
  unfold oM at hso
  rw [Bool.or_eq_true, decide_eq_true_eq] at hso
  rcases qW b.Games f.Games with g | g | ⟨_, g1, g2⟩
  ·omega
  ·omega
  ·rcases hso with hso | hso
   ·rw [htb] at hso
    unfold mW at hso
    rw [Bool.and_eq_true, decide_eq_true_eq, decide_eq_true_eq] at hso
    rcases hw with rfl | rfl <;> simp [cB] <;> omega
   ·rcases qW (cB b.Games w) f.Games with g | g | g
    ·rcases hw with rfl | rfl <;> simp [cB] at g ⊢ <;> omega
    ·rcases hw with rfl | rfl <;> simp [cB] at g ⊢ <;> omega
    ·omega
 rw [key]; rfl
omit hto in
theorem aVh {w : Int} (hw : w = 0 ∨ w = 1) (hso : oM f tb (cB b.Games w) = true) : decide (max (cB (dB b.Sets) w).A (cB (dB b.Sets) w).B = f.Sets) = mE f (dB (b.Sets ++ [cB b.Games w])) := by
 rw [aOk h htb hw hso]
 unfold mE
 have ha := h.wa
 have hb := h.wb
 rw [Bool.eq_iff_iff, Bool.or_eq_true, decide_eq_true_eq, decide_eq_true_eq, decide_eq_true_eq]
 rcases hw with rfl | rfl <;> simp [cB] <;> omega
end
structure PI (f : bH) (i : Nat) (m : bK) : Prop where
 rules : m.rules = ⟨f⟩
 bi : BI f i m.Score.Board
 win : m.Score.Winner = -1
 won : m.won = dB m.Score.Board.Sets
 tl : m.ties.length = m.games.length + 1
 gi : m.games.length ≤ i
 last : m.ties[m.ties.length - 1]? = some (mW f m.won m.Score.Board.Games)
theorem aSw (l : List Bool) (x : Bool) : (l ++ [x])[(l ++ [x]).length - 1]? = some x := by simp
theorem aRj {f : bH} (hf : okF f) {i : Nat} {m : bK} (h : PI f i m) (hi : i ≤ 10000) {s : Int} (hs : s = 0 ∨ s = 1) :
  ∃ m', nA m s = some m' ∧ m'.Score.Winner = (jB f m.Score.Board (mW f (dB m.Score.Board.Sets) m.Score.Board.Games) (jC f (dB m.Score.Board.Sets)).2 s).2 ∧ ((jB f m.Score.Board (mW f (dB m.Score.Board.Sets) m.Score.Board.Games) (jC f (dB m.Score.Board.Sets)).2 s).2 = -1 → m'.Score.Board = (jB f m.Score.Board (mW f (dB m.Score.Board.Sets) m.Score.Board.Games) (jC f (dB m.Score.Board.Sets)).2 s).1 ∧ PI f (i + 1) m') := by
 have hbi := h.bi
 have tl := h.tl
 have gi := h.gi
 have hne := fun hn => aPn (s := s) hbi rfl rfl hn
 have hmax := fun {w : Int} => aVh (w := w) hbi rfl
 have hsw := fun {w : Int} => aOk (w := w) hbi rfl
 have hset : kT m.rules m.won = some ⟨(jC f (dB m.Score.Board.Sets)).1, (jC f (dB m.Score.Board.Sets)).2⟩ := by rw [h.rules, h.won]; exact aOi hf _
 have hnum : fW m = some ((m.ties.length - 1 : Nat) : Int) := by unfold fW; rw [uK (by omega) (by omega)]
 have hix : idx m.ties ((m.ties.length - 1 : Nat) : Int) = some (mW f (dB m.Score.Board.Sets) m.Score.Board.Games) := by
  have := h.last
  rw [List.getElem?_eq_getElem (show m.ties.length - 1 < m.ties.length by omega), h.won] at this
  rw [cC (show m.ties.length - 1 < m.ties.length by omega), this]
 have hsets := hbi.sets
 obtain ⟨tb, htb⟩ : ∃ tb, tb = mW f (dB m.Score.Board.Sets) m.Score.Board.Games := ⟨_, rfl⟩
 obtain ⟨to, hto⟩ : ∃ to, to = (jC f (dB m.Score.Board.Sets)).2 := ⟨_, rfl⟩
 obtain ⟨t, ht⟩ : ∃ t, t = (jC f (dB m.Score.Board.Sets)).1 := ⟨_, rfl⟩
 rw [← htb] at hne hmax hsw ⊢
 rw [← hto] at hne ⊢
 rw [← htb] at hix
 rw [← hto, ← ht] at hset
 have hadd := aFc hbi.points (by omega) s
 have hgame : lS m.rules ⟨t, to⟩ tb (cB m.Score.Board.Points s) = some (kI f tb to (cB m.Score.Board.Points s)) := by
  rw [h.rules]
  refine aSu (pH hbi.points s) (by omega) t to fun h1 h2 => ?_
  have ho := hbi.op
  rw [← htb, h1] at ho
  exact aYy ho h2 s
 have hwc := yM f tb to (cB m.Score.Board.Points s)
 unfold jB at *
 unfold nA
 rw [bM hset, bM hnum, bM hix, bM hadd]
 unfold sR
 rw [Option.bind_some, bM hgame]
 generalize kI f tb to (cB m.Score.Board.Points s) = w at *
 generalize cB m.Score.Board.Points s = p' at *
 by_cases h0 : w < 0
 ·rw [decide_eq_true h0, cond_true] at hne ⊢
  rw [cond_true]
  have hin : ∃ c, (bif tb then (some (decide ((w64 (p'.A + p'.B)).tmod 6 = 0))) else (some false)) = some c := by cases tb <;> exact ⟨_, rfl⟩
  obtain ⟨c, hc⟩ := hin
  rw [bM hc]
  have fin : ∀ e sv, ∃ m', some (bK.mk m.rules (aP.mk (aQ.mk m.Score.Board.Sets m.Score.Board.Games p') sv e m.Score.Balls m.Score.Winner) m.first m.won m.ties m.games) = some m' ∧ m'.Score.Winner = -1 ∧ ((-1 : Int) = -1 → m'.Score.Board = ⟨m.Score.Board.Sets, m.Score.Board.Games, p'⟩ ∧ PI f (i + 1) m') := fun e sv =>
   ⟨_, rfl, h.win, fun _ => ⟨rfl, h.rules, hne rfl, h.win, h.won, h.tl, Nat.le_succ_of_le h.gi, h.last⟩⟩
  cases c with
  | true =>
   obtain ⟨sv, hsv⟩ := xF (m := ⟨m.rules, ⟨⟨m.Score.Board.Sets, m.Score.Board.Games, p'⟩, m.Score.Server, w64 (m.Score.Ends + 1), m.Score.Balls, m.Score.Winner⟩, m.first, m.won, m.ties, m.games⟩) (by simp; omega) (by simp; omega) (w64 (p'.A + p'.B))
   rw [cond_true, bM hsv]
   exact fin _ _
  | false =>
   obtain ⟨sv, hsv⟩ := xF (m := ⟨m.rules, ⟨⟨m.Score.Board.Sets, m.Score.Board.Games, p'⟩, m.Score.Server, m.Score.Ends, m.Score.Balls, m.Score.Winner⟩, m.first, m.won, m.ties, m.games⟩) (by simp; omega) (by simp; omega) (w64 (p'.A + p'.B))
   rw [cond_false, bM hsv]
   exact fin _ _
 ·have hw01 : w = 0 ∨ w = 1 := by omega
  rw [decide_eq_false h0, cond_false] at hne ⊢
  rw [cond_false]
  obtain ⟨sv, hsv⟩ := xF (m := ⟨m.rules, ⟨⟨m.Score.Board.Sets, m.Score.Board.Games, p'⟩, m.Score.Server, m.Score.Ends, m.Score.Balls, m.Score.Winner⟩, m.first, m.won, m.ties, m.games⟩) (by simp; omega) (by simp; omega) 0
  obtain ⟨fr, hfr⟩ := aNi (m := ⟨m.rules, ⟨⟨m.Score.Board.Sets, m.Score.Board.Games, p'⟩, m.Score.Server, m.Score.Ends, m.Score.Balls, m.Score.Winner⟩, m.first, m.won, m.ties, m.games⟩) (by simp; omega) (by simp; omega)
  have hg := aFc hbi.games (by omega) w
  have hl : kJ (cB m.Score.Board.Games w) m.rules.Format.Games 2 = some (lead (cB m.Score.Board.Games w) f.Games) := by rw [h.rules]; exact aEp (pH hbi.games w) (by omega) _
  rw [bM hsv, bM hfr, bM (fQ (by simp; omega)), bM hg, hl, Option.bind_some, oK, Option.bind_some]
  have hso' : (tb || decide (0 ≤ lead (cB m.Score.Board.Games w) f.Games)) = oM f tb (cB m.Score.Board.Games w) := rfl
  rw [hso']
  have fin : ∀ (sets : List aI) (g : aI) (e : Int) (won : aI) (G : bO), BI f (i + 1) ⟨sets, g, ⟨0, 0⟩⟩ → won = dB sets → ∃ m', (dV (bK.mk m.rules (aP.mk (aQ.mk sets g (aI.mk 0 0)) m.Score.Server e m.Score.Balls m.Score.Winner) m.first won m.ties (m.games ++ [G]))).bind (fun r => some r) = some m' ∧ m'.Score.Winner = -1 ∧ ((-1 : Int) = -1 → m'.Score.Board = ⟨sets, g, ⟨0, 0⟩⟩ ∧ PI f (i + 1) m') := by
   intro sets g e won G hb hwn
   obtain ⟨m', q1, q2, q3, q4, q5, q6, q7⟩ := aLe hf (m := ⟨m.rules, ⟨⟨sets, g, ⟨0, 0⟩⟩, m.Score.Server, e, m.Score.Balls, m.Score.Winner⟩, m.first, won, m.ties, m.games ++ [G]⟩) h.rules h.win (by simp; omega)
   rw [bM q1]
   have hB : m'.Score.Board = ⟨sets, g, ⟨0, 0⟩⟩ := q3
   refine ⟨m', rfl, q4, fun _ => ⟨hB, q2.trans h.rules, by rw [hB]; exact hb, q4, by rw [q5, hB]; exact hwn, by rw [q6, q7]; simp [tl], by rw [q7]; simp; exact gi, ?_⟩⟩
   rw [q6, q5, hB]
   exact aSw _ _
  have finw : ∀ (e : Int) (G : bO) (x : List aI) (y : aI), ∃ m', (dV (bK.mk m.rules (aP.mk (aQ.mk x (aI.mk 0 0) (aI.mk 0 0)) m.Score.Server e m.Score.Balls w) m.first y m.ties (m.games ++ [G]))).bind (fun r => some r) = some m' ∧ m'.Score.Winner = w ∧ (w = -1 → m'.Score.Board = ⟨x, ⟨0, 0⟩, ⟨0, 0⟩⟩ ∧ PI f (i + 1) m') := by
   intro e G x y
   obtain ⟨m', q1, q2⟩ := aTd (m := ⟨m.rules, ⟨⟨x, ⟨0, 0⟩, ⟨0, 0⟩⟩, m.Score.Server, e, m.Score.Balls, w⟩, m.first, y, m.ties, m.games ++ [G]⟩) (by simp; omega)
   rw [bM q1]
   exact ⟨m', rfl, q2, fun hn => by omega⟩
  cases hso : oM f tb (cB m.Score.Board.Games w) with
  | false =>
   rw [hso, cond_false] at hne
   rw [cond_false, cond_false, Option.bind_some]
   have hin : ∃ c, (bif decide ((w64 ((cB m.Score.Board.Games w).A + (cB m.Score.Board.Games w).B)).tmod 2 = 1) then (some (decide (m.Score.Winner < 0))) else (some false)) = some c := by
    cases decide ((w64 ((cB m.Score.Board.Games w).A + (cB m.Score.Board.Games w).B)).tmod 2 = 1) <;> exact ⟨_, rfl⟩
   obtain ⟨c, hc⟩ := hin
   rw [bM hc]
   cases c
   ·exact fin _ _ _ _ _ (hne rfl) h.won
   ·exact fin _ _ _ _ _ (hne rfl) h.won
  | true =>
   rw [hso, cond_true] at hne
   have hw' := hsw hw01 hso
   have hm' : decide (max (cB (dB m.Score.Board.Sets) w).A (cB (dB m.Score.Board.Sets) w).B = m.rules.Format.Sets) = mE f (dB (m.Score.Board.Sets ++ [cB m.Score.Board.Games w])) := by rw [h.rules]; exact hmax hw01 hso
   have hwn : qF m.won w = some (cB (dB m.Score.Board.Sets) w) := by rw [h.won]; exact aFc (aJr _) (by omega) w
   rw [cond_true, cond_true, bM (fQ (by simp; omega)), bM hwn, hm']
   cases hmo : mE f (dB (m.Score.Board.Sets ++ [cB m.Score.Board.Games w])) with
   | true =>
    rw [cond_true, cond_true, Option.bind_some]
    have hin : ∃ c, (bif decide ((w64 ((cB m.Score.Board.Games w).A + (cB m.Score.Board.Games w).B)).tmod 2 = 1) then (some false) else (some false)) = some c := by
     cases decide ((w64 ((cB m.Score.Board.Games w).A + (cB m.Score.Board.Games w).B)).tmod 2 = 1) <;> exact ⟨_, rfl⟩
    obtain ⟨c, hc⟩ := hin
    rw [bM hc]
    cases c
    ·exact finw _ _ _ _
    ·exact finw _ _ _ _
   | false =>
    rw [hmo, cond_false] at hne
    rw [cond_false, cond_false, Option.bind_some]
    have hin : ∃ c, (bif decide ((w64 ((cB m.Score.Board.Games w).A + (cB m.Score.Board.Games w).B)).tmod 2 = 1) then (some (decide (m.Score.Winner < 0))) else (some false)) = some c := by
     cases decide ((w64 ((cB m.Score.Board.Games w).A + (cB m.Score.Board.Games w).B)).tmod 2 = 1) <;> exact ⟨_, rfl⟩
    obtain ⟨c, hc⟩ := hin
    rw [bM hc]
    cases c
    ·exact fin _ _ _ _ _ (hne rfl) hw'.symm
    ·exact fin _ _ _ _ _ (hne rfl) hw'.symm
end Go.Am
