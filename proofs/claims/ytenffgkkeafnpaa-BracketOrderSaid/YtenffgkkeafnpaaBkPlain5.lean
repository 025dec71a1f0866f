/- Layer 7, plain: all that is known of all matches. -/
import Derived.Test.YtenffgkkeafnpaaBkPlain4
namespace Go.Am

def aKk (t : aP) (must : List (List Int)) : List Int := (lM t).map fun x => mat must x.1 x.2
theorem aEs {t : aP} (ht : TreeOK t) (d : List Int) (must : List (List Int)) : (kI t d must).length + 1 = t.Slots.length := by
  rw [mW, List.length_map]; exact tC ht
theorem aBg (l : List bP) (h : l.length ≤ 9223372036854775807) : dT l l = some true := by
  unfold dT
  have main := rF (fun k i => fC l l k i) l.length (fun _ => true) (some false) (some true) ?_ ?_ BIG (cX h)
  · rw [main, show (List.range l.length).all (fun _ => true) = true by simp]
    simp
  · intro k i hi
    simp [fC, hi, cL hi, cK (show i < 9223372036854775807 by omega)]
  · intro k
    simp [fC, lV]
theorem aKx (A : Option (List bP × Int)) (n : Int) (F : List bP → Option (List bP × List Int × Bool)) {b : List bP} (hA : A = some (b, 0)) (hn : (b.length : Int) = n) :
    (A.bind fun r3 => (bif !decide (r3.2 = 0) then (some true) else (some (!decide ((r3.1.length : Int) = n)))).bind fun b4 =>
    bif b4 then (some (([] : List bP), ([] : List Int), false)) else (F r3.1)) = F b := by
  subst hA; subst hn
  simp
theorem aCt {t : aP} {l : List aE} {d : List Int} (hg : Good t l d) {must : List (List Int)} (hd : cY t l = some (⟨d, must⟩, true)) (hM : MustIs t must (eB d (Res l))) : dK t l = some (kI t d must, aKk t must, true) := by
  have h32 := hg.ht.len32
  have hbl := aEs hg.ht d must
  unfold dK lY
  refine (aKx _ _ (fun b => fV l t BIG b 0 []) (zI hg hd hM) (by rw [eK (by omega) (by omega)]; omega)).trans ?_
  have := fX (S := List Int) (fun k i w => fV l t k (kI t d must) i w) (kI t d must).length (fun _ _ => some (kI t d must, aKk t must, true)) (fun i w => w = ((lM t).take i).map fun x => mat must x.1 x.2) ?_ ?_ BIG [] (cX (by omega)) (by simp)
  · exact this
  · rintro k i w hi rfl ih
    have hii : i < (lM t).length := by rw [mW, List.length_map] at hi; exact hi
    have hb : (kI t d must)[i] = aCj d must (lM t)[i] := by simp only [mW, List.getElem_map]
    have hm := tF.1 (List.getElem_mem hii)
    have hW := uC hg hd hM (aGl hg.ht hm.1 hm.2)
    have hlt : decide ((i : Int) < ((kI t d must).length : Int)) = true := decide_eq_true (by omega)
    have ht1 : (lM t).take (i + 1) = (lM t).take i ++ [(lM t)[i]] := List.take_succ_eq_append_getElem hii
    have hil := tC hg.ht
    simp only [fV, hlt, cond_true, cL hi, Option.bind_some, hb, aCj, iE, hW, cK (show i < 9223372036854775807 by omega)]
    by_cases h2 : mat must (lM t)[i].1 (lM t)[i].2 = -2
    · simp only [h2, if_true, decide_true, cond_true]
      rw [iD (by simp; omega), Option.bind_some]
      refine ih _ ?_
      rw [ht1, List.map_append, List.map_cons, List.map_nil, h2]
    · simp only [h2, if_false, show decide ((0 : Int) = 3) = false by decide, decide_true, Bool.not_true, cond_false]
      rw [iD (by simp; omega), Option.bind_some]
      refine ih _ ?_
      rw [ht1, List.map_append, List.map_cons, List.map_nil]
  · rintro k w rfl
    have hlt : decide (((kI t d must).length : Int) < ((kI t d must).length : Int)) = false := decide_eq_false (by omega)
    have hta : (lM t).take (kI t d must).length = lM t := List.take_of_length_le (by rw [mW, List.length_map]; omega)
    simp only [fV, hlt, cond_false, oV, hta]
    rfl
/-- Where the claims are the same, the tables are. -/
theorem aDs {t : aP} {P Q : kH} {must must' : List (List Int)} (hM : MustIs t must P) (hM' : MustIs t must' Q) (h : ∀ m v, P m v ↔ Q m v) {r p : Nat} (hr : r < t.Rounds.toNat) (hp : p < cF t r) : mat must r p = mat must' r p := by
  by_cases h1 : mat must r p = -2
  · by_cases h2 : mat must' r p = -2
    · rw [h1, h2]
    · have := (hM.mem r p _ hr hp).2 ((h _ _).2 ((hM'.mem r p _ hr hp).1 ⟨rfl, h2⟩))
      exact this.1
  · have := (hM'.mem r p _ hr hp).2 ((h _ _).1 ((hM.mem r p _ hr hp).1 ⟨rfl, h1⟩))
    exact this.1.symm
theorem aLk {t : aP} {x : Nat × Nat} (hx : x ∈ lM t) {s : Nat} (hs : s < 2) : x.1 = 0 ∨ (x.1 - 1 < t.Rounds.toNat ∧ 2 * x.2 + s < cF t ((x.1 - 1 : Nat) : Int)) := by
  obtain ⟨h1, h2⟩ := tF.1 hx
  by_cases h0 : x.1 = 0
  · exact .inl h0
  · have := uJ (t := t) (r := x.1 - 1) (by omega)
    have e : x.1 - 1 + 1 = x.1 := by omega
    rw [e] at this
    exact .inr ⟨by omega, by omega⟩
theorem aJb {t : aP} {l l' : List aE} {d : List Int} (hg : Good t l d) (hg' : Good t l' d) (h : ∀ m v, eB d (Res l) m v ↔ eB d (Res l') m v) : ∃ r, dK t l = some r ∧ dK t l' = some r ∧ r.2.2 = true ∧ r.1.length ≤ 100 ∧ r.2.1.length ≤ 100 := by
  obtain ⟨must, hd, hM⟩ := mA hg
  obtain ⟨must', hd', hM'⟩ := mA hg'
  have hil := tC hg.ht
  have h32 := hg.ht.len32
  refine ⟨_, aCt hg hd hM, ?_, rfl, ?_, ?_⟩
  · rw [aCt hg' hd' hM']
    congr 2
    · rw [mW, mW]
      refine List.map_congr_left fun x hx => ?_
      have hs : ∀ s, s < 2 → lE d must' x.1 (2 * x.2 + s) = lE d must x.1 (2 * x.2 + s) := fun s hs => by
        unfold lE
        rcases aLk hx hs with h0 | ⟨h1, h2⟩
        · rw [if_pos h0, if_pos h0]
        · split
          · rfl
          · exact (aDs hM hM' h h1 h2).symm
      unfold aCj
      have h0 := hs 0 (by omega)
      have h1 := hs 1 (by omega)
      simp only [Nat.add_zero] at h0
      rw [h0, h1]
    · congr 1
      refine List.map_congr_left fun x hx => ?_
      obtain ⟨h1, h2⟩ := tF.1 hx
      exact (aDs hM hM' h h1 h2).symm
  · rw [mW, List.length_map]; omega
  · simp only [aKk, List.length_map]; omega
end Go.Am
