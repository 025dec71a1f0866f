/- Layer 7, plain: Ready of the program and of the reference. -/
import Derived.Test.YtenffgkkeafnpaaBbSh
import Derived.Test.YtenffgkkeafnpaaBkPlain5
namespace Go.Am

def mQ (d : List Int) (must : List (List Int)) (x : Nat × Nat) : Bool := decide (mat must x.1 x.2 = -2) && (decide (0 ≤ dJ d must x.1 (2 * x.2)) && decide (0 ≤ dJ d must x.1 (2 * x.2 + 1)))
def mP (must : List (List Int)) (b : bA) : Bool := decide (mat must b.Round.toNat b.Place.toNat = -2) && (decide (0 ≤ b.One) && decide (0 ≤ b.Two))
def gO (t : aO) (d : List Int) (must : List (List Int)) : List bA := (dK t d must).filter (mP must)
theorem wD (t : aO) (d : List Int) (must : List (List Int)) : gO t d must = ((dE t).filter (mQ d must)).map (iY d must) := by
  unfold gO
  rw [kT, List.filter_map]
  rfl
theorem aGz {t : aO} (ht : TreeOK t) (d : List Int) (must : List (List Int)) : (gO t d must).length ≤ 32 := by
  have h1 := List.length_filter_le (mP must) (dK t d must)
  have h2 := yR ht d must
  have h3 := ht.len32
  unfold gO
  omega
section
variable {t : aO} {l : List aE} {d : List Int} (hg : Good t l d) {must : List (List Int)} (hM : MustIs t must (eA d (Res l)))
include hg hM
theorem aIt : fI (dK t d must) ⟨d, must⟩ BIG 0 [] = some (gO t d must, 0) := by
  have hil := pQ hg.ht
  have h32 := hg.ht.len32
  have hbl : (dK t d must).length = (dE t).length := by rw [kT, List.length_map]
  have := eQ (S := List bA) (fun k i out => fI (dK t d must) ⟨d, must⟩ k i out) (dK t d must).length (fun _ _ => some (gO t d must, 0)) (fun i out => out = ((dK t d must).take i).filter (mP must)) ?_ ?_ BIG [] (cW (by omega)) (by simp)
  · exact this
  · rintro k i out hi rfl ih
    have hii : i < (dE t).length := by omega
    have hlt : decide ((i : Int) < ((dK t d must).length : Int)) = true := decide_eq_true (by omega)
    have hb : (dK t d must)[i] = iY d must (dE t)[i] := by simp only [kT, List.getElem_map]
    obtain ⟨hr, hp⟩ := lG.1 (List.getElem_mem hii)
    have ht1 : (dK t d must).take (i + 1) = (dK t d must).take i ++ [(dK t d must)[i]] := List.take_succ_eq_append_getElem hi
    have hfl := List.length_filter_le (mP must) ((dK t d must).take i)
    have htl : ((dK t d must).take i).length ≤ i := by simp; omega
    have hm := yD hM hr hp
    have hrb : mP must (iY d must (dE t)[i]) = (decide (mat must (dE t)[i].1 (dE t)[i].2 = -2) && (decide (0 ≤ (iY d must (dE t)[i]).One) && decide (0 ≤ (iY d must (dE t)[i]).Two))) := by
      unfold mP; simp only [iY, Int.toNat_natCast]; rfl
    rw [ht1, hb] at ih
    simp only [fI, hlt, cond_true, cK hi, hb, Option.bind_some, fN, cI (show i < 9223372036854775807 by omega)]
    have hmm : ((idx must (iY d must (dE t)[i]).Round).bind fun x11 => (idx x11 (iY d must (dE t)[i]).Place).bind fun x13 => some (decide (x13 = (-2)))) = some (decide (mat must (dE t)[i].1 (dE t)[i].2 = -2)) := by
      have e1 : (iY d must (dE t)[i]).Round = ((dE t)[i].1 : Int) := rfl
      have e2 : (iY d must (dE t)[i]).Place = ((dE t)[i].2 : Int) := rfl
      rw [e1, e2, ← Option.bind_assoc, hm, Option.bind_some]
    have hcond : (bif (decide (0 ≤ (iY d must (dE t)[i]).One) && decide (0 ≤ (iY d must (dE t)[i]).Two)) then ((idx must (iY d must (dE t)[i]).Round).bind fun x11 => (idx x11 (iY d must (dE t)[i]).Place).bind fun x13 => some (decide (x13 = (-2)))) else (some false)) = some (mP must (iY d must (dE t)[i])) := by
      rw [hmm, fN, hrb]
      congr 1
      exact Bool.and_comm _ _
    rw [hcond, Option.bind_some]
    cases hrd : mP must (iY d must (dE t)[i]) with
    | true =>
      rw [cond_true, gB (by simp; omega), Option.bind_some]
      refine ih _ ?_
      rw [List.filter_append]; simp [hrd]
    | false =>
      rw [cond_false]
      refine ih _ ?_
      rw [List.filter_append]; simp [hrd]
  · rintro k out rfl
    have hlt : decide (((dK t d must).length : Int) < ((dK t d must).length : Int)) = false := decide_eq_false (by omega)
    simp only [fI, hlt, cond_false, qU, List.take_length]
    rfl
theorem aHa {won : List (aB × Int)} (hW : WonIs won (eA d (Res l))) {o : Option aW} (ho : o = some ⟨t, d, won⟩) : fY (S := List bA) ⟨t, d, won⟩ (fun s7 x8 x9 => o.bind fun x12 =>
    (bif !(cL x8 x12.won) then (some (decide (0 ≤ (min x9.One x9.Two)))) else (some false)).bind fun b13 => bif b13 then ((app 32 s7 ([x9])).bind fun x14 => some x14) else (some s7)) [] = some (gO t d must) := by
  subst ho
  refine aAr hg.ht hg.dok hM hW _ (fun out => out.filter (mP must)) (fun _ => True) fun out r p hr hp hl => ?_
  have hfl := List.length_filter_le (mP must) out
  have hh := tM hW hM hr hp
  have hmin : decide (0 ≤ min (dJ d must r (2 * p)) (dJ d must r (2 * p + 1))) = (decide (0 ≤ dJ d must r (2 * p)) && decide (0 ≤ dJ d must r (2 * p + 1))) := by
    rw [Bool.eq_iff_iff]; simp only [Bool.and_eq_true, decide_eq_true_eq]; omega
  have hrb : mP must ⟨r, p, dJ d must r (2 * p), dJ d must r (2 * p + 1)⟩ = (decide (mat must r p = -2) && (decide (0 ≤ dJ d must r (2 * p)) && decide (0 ≤ dJ d must r (2 * p + 1)))) := by
    unfold mP; simp only [Int.toNat_natCast]
  rw [Option.bind_some, hh, Bool.not_not, hmin, fN, ← hrb, Option.bind_some]
  cases hrd : mP must ⟨r, p, dJ d must r (2 * p), dJ d must r (2 * p + 1)⟩ with
  | true =>
    rw [cond_true, gB (by simp; omega), Option.bind_some]
    simp [hrd]
  | false => simp [hrd]
end
theorem aHr {t : aO} {l : List aE} {e : Int} (h : Stat t l e) : jU t l = some ([], e) := by
  unfold jU
  rw [pU h, Option.bind_some]
  simp only [h.ne, Bool.not_false, cond_true]
theorem zZ {t : aO} {l : List aE} {d : List Int} (hg : Good t l d) {must : List (List Int)} (hd : cQ t l = some (⟨d, must⟩, true)) (hM : MustIs t must (eA d (Res l))) : jU t l = some (gO t d must, 0) := by
  unfold jU
  refine (aBq _ _ (fun dd => (lE t dd).bind fun r5 => fI r5 dd BIG 0 []) (fun r2 => ([], r2)) (oT hg) hd).trans ?_
  rw [aBv hg.ht hg.dok hM, Option.bind_some]
  exact aIt hg hM
theorem aHs (t : aO) (l : List aE) {r : List bA × Int} (h : jU t l = some r) (Q : List bA × Int → Prop) (hq : Q r) : nK t l Q := by
  unfold nK
  rcases nH t l with ⟨d, hg⟩ | ⟨e, he⟩
  · obtain ⟨must, hd, hM⟩ := lW hg
    rw [zZ hg hd hM] at h; cases h
    refine sD hg fun won hW => ?_
    simp only [decide_true, Bool.not_true, cond_false]
    exact ⟨_, rfl, _, aHa hg hM hW rfl, hq⟩
  · rw [aHr he] at h; cases h
    refine tQ he ?_
    simp only [he.ne, Bool.not_false, cond_true]
    exact hq
end Go.Am
