/- Matches by points: the reference's point; then all points, both ways. -/
import Derived.Test.YtiohgpipanopaaaGreatChPlain2
namespace Go.Am
section
variable {f : bH} (hf : okF f) {i : Nat} {M : aJ} (h : BI f i M.Score.Board) (hi : i ≤ 10000) (hw : M.Score.Winner = -1) (hg : M.Games.length ≤ i) {tb : Bool} (htb : tb = mW f (dB M.Score.Board.Sets) M.Score.Board.Games) {to : Int} (hto : to = (jC f (dB M.Score.Board.Sets)).2) (s : Int)
include hf h hi hw hg htb hto
omit htb hto in
theorem aVw {w : Int} (hw01 : w = 0 ∨ w = 1) (e : Int) (p' : aI) (hne : (jB f M.Score.Board tb to s).2 = -1 → BI f (i + 1) (jB f M.Score.Board tb to s).1)
  (hN : jB f M.Score.Board tb to s = bif oM f tb (cB M.Score.Board.Games w) then
   (bif mE f (dB (M.Score.Board.Sets ++ [cB M.Score.Board.Games w])) then (⟨M.Score.Board.Sets ++ [cB M.Score.Board.Games w], ⟨0, 0⟩, ⟨0, 0⟩⟩, w) else (⟨M.Score.Board.Sets ++ [cB M.Score.Board.Games w], ⟨0, 0⟩, ⟨0, 0⟩⟩, -1))
   else (⟨M.Score.Board.Sets, cB M.Score.Board.Games w, ⟨0, 0⟩⟩, -1)) :
  ∃ M', ((app 56 ([] : List bO) M.Games).bind fun x11 =>
  (gE f M.First (M.Games.length : Int) tb 0).bind fun r13 =>
  (app 56 x11 ([(bO.mk (M.Score.Board.Sets.length : Int) tb r13 w p' M.Fresh)])).bind fun x14 =>
  (iH M.Score.Board.Games w).bind fun r16 =>
  (bif tb then (some true) else ((fH r16 f.Games).bind fun r18 =>
  some (decide (0 ≤ r18)))).bind fun b19 =>
  bif b19 then ((app 16 ([] : List aI) M.Score.Board.Sets).bind fun x21 =>
  (app 16 x21 ([r16])).bind fun x23 =>
  (jA x23).bind fun r25 =>
  (bif decide (r25.A = f.Sets) then (some true) else (some (decide (r25.B = f.Sets)))).bind fun b27 =>
  bif b27 then (some (aJ.mk (aP.mk (aQ.mk x23 (aI.mk 0 0) (aI.mk 0 0)) M.Score.Server e M.Score.Balls w) M.First x14 M.Fresh))
  else (bif decide (((w64 (r16.A + r16.B)).tmod 2) = 1) then ((cR f (aJ.mk (aP.mk (aQ.mk x23 (aI.mk 0 0) (aI.mk 0 0)) M.Score.Server (w64 (e + 1)) M.Score.Balls M.Score.Winner) M.First x14 M.Fresh)).bind fun r28 =>
  some r28)
  else ((cR f (aJ.mk (aP.mk (aQ.mk x23 (aI.mk 0 0) (aI.mk 0 0)) M.Score.Server e M.Score.Balls M.Score.Winner) M.First x14 M.Fresh)).bind fun r29 =>
  some r29)))
  else (bif decide (((w64 (r16.A + r16.B)).tmod 2) = 1) then ((cR f (aJ.mk (aP.mk (aQ.mk M.Score.Board.Sets r16 (aI.mk 0 0)) M.Score.Server (w64 (e + 1)) M.Score.Balls M.Score.Winner) M.First x14 M.Fresh)).bind fun r30 =>
  some r30)
  else ((cR f (aJ.mk (aP.mk (aQ.mk M.Score.Board.Sets r16 (aI.mk 0 0)) M.Score.Server e M.Score.Balls M.Score.Winner) M.First x14 M.Fresh)).bind fun r31 =>
  some r31))) = some M' ∧ M'.Score.Winner = (jB f M.Score.Board tb to s).2 ∧ ((jB f M.Score.Board tb to s).2 = -1 → M'.Score.Board = (jB f M.Score.Board tb to s).1 ∧ M'.Games.length ≤ i + 1) := by
 have hs := h.sets
 obtain ⟨sv, hsv⟩ := aKl f M.First (n := M.Games.length) (by omega) tb 0
 rw [bM (fQ (by simp; omega)), bM hsv, bM (fQ (by simp; omega)), bM (aNx h.games (by omega) w), aHo (pH h.games w) (by omega), Option.bind_some, oK, Option.bind_some]
 have hso' : (tb || decide (0 ≤ lead (cB M.Score.Board.Games w) f.Games)) = oM f tb (cB M.Score.Board.Games w) := rfl
 rw [hso']
 rw [hN] at hne ⊢
 have fin : ∀ (sets : List aI) (g : aI) (e : Int) (G : List bO), BI f (i + 1) ⟨sets, g, ⟨0, 0⟩⟩ → G.length ≤ i + 1 → ∃ M', (cR f (aJ.mk (aP.mk (aQ.mk sets g (aI.mk 0 0)) M.Score.Server e M.Score.Balls M.Score.Winner) M.First G M.Fresh)).bind (fun r => some r) = some M' ∧ M'.Score.Winner = -1 ∧ ((-1 : Int) = -1 → M'.Score.Board = ⟨sets, g, ⟨0, 0⟩⟩ ∧ M'.Games.length ≤ i + 1) := by
  intro sets g e G hb hG
  have a1 := hb.sets
  have a2 := hb.games
  unfold small at a2
  obtain ⟨M', q1, q2, q3, q4⟩ := aKo hf (M := ⟨⟨⟨sets, g, ⟨0, 0⟩⟩, M.Score.Server, e, M.Score.Balls, M.Score.Winner⟩, M.First, G, M.Fresh⟩) (by simp at a1 ⊢; omega) a2.1.1 (by simp; omega)
  rw [bM q1]
  exact ⟨M', rfl, q3.trans hw, fun _ => ⟨q2, by rw [q4]; exact hG⟩⟩
 cases hso : oM f tb (cB M.Score.Board.Games w) with
 | false =>
  rw [hso, cond_false] at hne
  rw [cond_false, cond_false]
  cases decide ((w64 ((cB M.Score.Board.Games w).A + (cB M.Score.Board.Games w).B)).tmod 2 = 1)
  ·exact fin _ _ _ _ (hne rfl) (by simp; omega)
  ·exact fin _ _ _ _ (hne rfl) (by simp; omega)
 | true =>
  rw [hso, cond_true] at hne
  have hmo' : (decide ((dB (M.Score.Board.Sets ++ [cB M.Score.Board.Games w])).A = f.Sets) || decide ((dB (M.Score.Board.Sets ++ [cB M.Score.Board.Games w])).B = f.Sets)) = mE f (dB (M.Score.Board.Sets ++ [cB M.Score.Board.Games w])) := rfl
  rw [cond_true, cond_true, bM (fQ (by simp; omega)), List.nil_append, bM (fQ (by simp; omega)), bM (aSf _ (by simp; omega)), oK, Option.bind_some, hmo']
  cases hmo : mE f (dB (M.Score.Board.Sets ++ [cB M.Score.Board.Games w])) with
  | true =>
   rw [cond_true, cond_true]
   exact ⟨_, rfl, rfl, fun hn => by simp only at hn; omega⟩
  | false =>
   rw [hmo, cond_false] at hne
   rw [cond_false, cond_false]
   cases decide ((w64 ((cB M.Score.Board.Games w).A + (cB M.Score.Board.Games w).B)).tmod 2 = 1)
   ·exact fin _ _ _ _ (hne rfl) (by simp; omega)
   ·exact fin _ _ _ _ (hne rfl) (by simp; omega)
theorem aTi : ∃ M', nP f M s = some M' ∧ M'.Score.Winner = (jB f M.Score.Board tb to s).2 ∧ ((jB f M.Score.Board tb to s).2 = -1 → M'.Score.Board = (jB f M.Score.Board tb to s).1 ∧ M'.Games.length ≤ i + 1) := by
 have hne := fun hn => aPn (s := s) h htb hto hn
 have hA := h.games
 have hs := h.sets
 have hT := fun {w : Int} hw01 e p' hN => aVw hf h hi hw hg s (w := w) hw01 e p' hne hN
 unfold small at hA
 have htd : jH f M.Score.Board = some (tb, to) := by rw [htb, hto]; exact aHv hf (by omega) hA.1.1
 unfold nP
 rw [bM htd, bM (aNx h.points (by omega) s), bM (aUw (pH h.points s) (by omega) to)]
 have hwc := yM f tb to (cB M.Score.Board.Points s)
 cases tb with
 | true =>
  have hl : fH (cB M.Score.Board.Points s) to = some (kI f true to (cB M.Score.Board.Points s)) := aHo (pH h.points s) (by omega) to
  rw [cond_true, bM hl]
  by_cases h0 : kI f true to (cB M.Score.Board.Points s) < 0
  ·have hN : jB f M.Score.Board true to s = (⟨M.Score.Board.Sets, M.Score.Board.Games, cB M.Score.Board.Points s⟩, -1) := by unfold jB; rw [decide_eq_true h0]; rfl
   rw [hN, decide_eq_true h0, cond_true, Option.bind_some]
   cases decide ((w64 ((cB M.Score.Board.Points s).A + (cB M.Score.Board.Points s).B)).tmod 6 = 0)
   ·exact ⟨_, rfl, hw, fun _ => ⟨rfl, by simp; omega⟩⟩
   ·exact ⟨_, rfl, hw, fun _ => ⟨rfl, by simp; omega⟩⟩
  ·rw [decide_eq_false h0, cond_false, Option.bind_some, cond_false, cond_false]
   exact hT (by omega) _ _ (by unfold jB; rw [decide_eq_false h0, cond_false])
 | false =>
  rw [cond_false]
  by_cases h0 : kI f false to (cB M.Score.Board.Points s) < 0
  ·have hN : jB f M.Score.Board false to s = (⟨M.Score.Board.Sets, M.Score.Board.Games, cB M.Score.Board.Points s⟩, -1) := by unfold jB; rw [decide_eq_true h0]; rfl
   rw [hN, decide_eq_true h0, cond_true]
   exact ⟨_, rfl, hw, fun _ => ⟨rfl, by simp; omega⟩⟩
  ·rw [decide_eq_false h0, cond_false]
   exact hT (by omega) _ _ (by unfold jB; rw [decide_eq_false h0, cond_false])
end
end Go.Am
