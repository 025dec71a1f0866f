/- Layer 7, plain: Ready of the program and of the reference. -/
import Derived.Test.YtenffgkkeafnpaaBbSh
import Derived.Test.YtenffgkkeafnpaaBkPlain5
namespace Go.Am

def mK (must : List (List Int)) (b : bD) : Bool := decide (mat must b.Round.toNat b.Place.toNat = -2) && (decide (0 ≤ b.One) && decide (0 ≤ b.Two))
def uO (t : aN) (d : List Int) (must : List (List Int)) : List bD := (gP t d must).filter (mK must)
theorem aGt {t : aN} (ht : TreeOK t) (d : List Int) (must : List (List Int)) : (uO t d must).length ≤ 32 := by
  have h1 := List.length_filter_le (mK must) (gP t d must)
  have h2 := yB ht d must
  have h3 := ht.len32
  unfold uO
  omega
section
variable {t : aN} {l : List aE} {d : List Int} (hg : Good t l d) {must : List (List Int)} (hM : MustIs t must (fL d (Res l)))
include hg hM
theorem aIl : eD (gP t d must) ⟨d, must⟩ BIG 0 [] = some (uO t d must, 0) := by
  have hil := vI hg.ht
  have h32 := hg.ht.len32
  have hbl : (gP t d must).length = (iB t).length := by rw [uY, List.length_map]
  have := fB (S := List bD) (fun k i out => eD (gP t d must) ⟨d, must⟩ k i out) (gP t d must).length (fun _ _ => some (uO t d must, 0)) (fun i out => out = ((gP t d must).take i).filter (mK must)) ?_ ?_ BIG [] (cX (by omega)) (by simp)
  · exact this
  · rintro k i out hi rfl ih
    have hii : i < (iB t).length := by omega
    have hlt : decide ((i : Int) < ((gP t d must).length : Int)) = true := decide_eq_true (by omega)
    have hb : (gP t d must)[i] = mD d must (iB t)[i] := by simp only [uY, List.getElem_map]
    obtain ⟨hr, hp⟩ := zA.1 (List.getElem_mem hii)
    have ht1 : (gP t d must).take (i + 1) = (gP t d must).take i ++ [(gP t d must)[i]] := List.take_succ_eq_append_getElem hi
    have hfl := List.length_filter_le (mK must) ((gP t d must).take i)
    have htl : ((gP t d must).take i).length ≤ i := by simp; omega
    have hm := aBh hM hr hp
    have hrb : mK must (mD d must (iB t)[i]) = (decide (mat must (iB t)[i].1 (iB t)[i].2 = -2) && (decide (0 ≤ (mD d must (iB t)[i]).One) && decide (0 ≤ (mD d must (iB t)[i]).Two))) := by
      unfold mK; simp only [mD, Int.toNat_natCast]; rfl
    rw [ht1, hb] at ih
    simp only [eD, hlt, cond_true, cL hi, hb, Option.bind_some, gW, cJ (show i < 9223372036854775807 by omega)]
    have hmm : ((idx must (mD d must (iB t)[i]).Round).bind fun x11 => (idx x11 (mD d must (iB t)[i]).Place).bind fun x13 => some (decide (x13 = (-2)))) = some (decide (mat must (iB t)[i].1 (iB t)[i].2 = -2)) := by
      have e1 : (mD d must (iB t)[i]).Round = ((iB t)[i].1 : Int) := rfl
      have e2 : (mD d must (iB t)[i]).Place = ((iB t)[i].2 : Int) := rfl
      rw [e1, e2, ← Option.bind_assoc, hm, Option.bind_some]
    have hcond : (bif (decide (0 ≤ (mD d must (iB t)[i]).One) && decide (0 ≤ (mD d must (iB t)[i]).Two)) then ((idx must (mD d must (iB t)[i]).Round).bind fun x11 => (idx x11 (mD d must (iB t)[i]).Place).bind fun x13 => some (decide (x13 = (-2)))) else (some false)) = some (mK must (mD d must (iB t)[i])) := by
      rw [hmm, gW, hrb]
      congr 1
      exact Bool.and_comm _ _
    rw [hcond, Option.bind_some]
    cases hrd : mK must (mD d must (iB t)[i]) with
    | true =>
      rw [cond_true, hC (by simp; omega), Option.bind_some]
      refine ih _ ?_
      rw [List.filter_append]; simp [hrd]
    | false =>
      rw [cond_false]
      refine ih _ ?_
      rw [List.filter_append]; simp [hrd]
  · rintro k out rfl
    have hlt : decide (((gP t d must).length : Int) < ((gP t d must).length : Int)) = false := decide_eq_false (by omega)
    simp only [eD, hlt, cond_false, nN, List.take_length]
    rfl
theorem aGu {won : List (aB × Int)} (hW : WonIs won (fL d (Res l))) {o : Option bA} (ho : o = some ⟨t, d, won⟩) : fY (S := List bD) ⟨t, d, won⟩ (fun s7 x8 x9 => o.bind fun x12 =>
    (bif !(cR x8 x12.won) then (some (decide (0 ≤ (min x9.One x9.Two)))) else (some false)).bind fun b13 => bif b13 then ((app 32 s7 ([x9])).bind fun x14 => some x14) else (some s7)) [] = some (uO t d must) := by
  subst ho
  refine aAg hg.ht hg.dok hM hW _ (fun out => out.filter (mK must)) (fun _ => True) fun out r p hr hp hl => ?_
  have hfl := List.length_filter_le (mK must) out
  have hh := vK hW hM hr hp
  have hmin : decide (0 ≤ min (iD d must r (2 * p)) (iD d must r (2 * p + 1))) = (decide (0 ≤ iD d must r (2 * p)) && decide (0 ≤ iD d must r (2 * p + 1))) := by
    rw [Bool.eq_iff_iff]; simp only [Bool.and_eq_true, decide_eq_true_eq]; omega
  have hrb : mK must ⟨r, p, iD d must r (2 * p), iD d must r (2 * p + 1)⟩ = (decide (mat must r p = -2) && (decide (0 ≤ iD d must r (2 * p)) && decide (0 ≤ iD d must r (2 * p + 1)))) := by
    unfold mK; simp only [Int.toNat_natCast]
  rw [Option.bind_some, hh, Bool.not_not, hmin, gW, ← hrb, Option.bind_some]
  cases hrd : mK must ⟨r, p, iD d must r (2 * p), iD d must r (2 * p + 1)⟩ with
  | true =>
    rw [cond_true, hC (by simp; omega), Option.bind_some]
    simp [hrd]
  | false => simp [hrd]
end
theorem aBp {t : aN} {l : List aE} {e : Int} (h : Stat t l e) : eZ t l = some ([], e) := by
  unfold eZ
  rw [nY h, Option.bind_some]
  simp only [h.ne, Bool.not_false, cond_true]
theorem zL {t : aN} {l : List aE} {d : List Int} (hg : Good t l d) {must : List (List Int)} (hd : dF t l = some (⟨d, must⟩, true)) (hM : MustIs t must (fL d (Res l))) : eZ t l = some (uO t d must, 0) := by
  unfold eZ
  refine (aBj _ _ (fun dd => (iK t dd).bind fun r5 => eD r5 dd BIG 0 []) (fun r2 => ([], r2)) (mQ hg) hd).trans ?_
  rw [aBr hg.ht hg.dok hM, Option.bind_some]
  exact aIl hg hM
theorem aHl (t : aN) (l : List aE) {r : List bD × Int} (h : eZ t l = some r) (Q : List bD × Int → Prop) (hq : Q r) : nH t l Q := by
  unfold nH
  rcases jW t l with ⟨d, hg⟩ | ⟨e, he⟩
  · obtain ⟨must, hd, hM⟩ := lQ hg
    rw [zL hg hd hM] at h; cases h
    refine pU hg fun won hW => ?_
    simp only [decide_true, Bool.not_true, cond_false]
    exact ⟨_, rfl, _, aGu hg hM hW rfl, hq⟩
  · rw [aBp he] at h; cases h
    refine rC he ?_
    simp only [he.ne, Bool.not_false, cond_true]
    exact hq
end Go.Am
