/- List and Stand are those of the document, plainly. -/
import Derived.Test.YtfdappeickbpeaaGreatEnPlain29
namespace Go.Am
theorem aSe (f : aY) (l : List aM) (hour : Int) : lR f l hour = some (bif !decide (hZ f l = 0) then (bU.mk [] [] [] 0, hZ f l) else bif !wi hour 0 9999 then (bU.mk [] [] [] 0, 1) else (uR f l hour, 0)) := by
 by_cases hc : hZ f l = 0
 ·have hV := kE.1 hc
  cases hh : wi hour 0 9999 with
  | true =>
   rw [aJy hV hh, decide_eq_true hc]; rfl
  | false =>
   unfold lR
   rw [sU, hh, decide_eq_true hc]; rfl
 ·unfold lR
  rw [sU, decide_eq_false hc, Bool.not_false, cond_true, cond_true, Option.bind_some]
  show (bif !decide (hZ f l = 0) then _ else _) = _
  rw [decide_eq_false hc]; rfl
theorem aRj (f : aY) (l : List aM) (hour player : Int) : mT f l hour player = some (bif !decide (hZ f l = 0) then (0, 0, hZ f l) else bif !wi hour 0 9999 || !wi player 0 999 then (0, 0, 1) else ((oJ (fT f l hour) player).1, (oJ (fT f l hour) player).2, 0)) := by
 by_cases hc : hZ f l = 0
 ·have hV := kE.1 hc
  cases hh : !wi hour 0 9999 || !wi player 0 999 with
  | false =>
   rw [Bool.or_eq_false_iff, Bool.not_eq_false', Bool.not_eq_false'] at hh
   rw [aNp hV hh.1 hh.2, decide_eq_true hc]; rfl
  | true =>
   unfold mT
   rw [sU, hh, decide_eq_true hc]; rfl
 ·unfold mT
  rw [sU, decide_eq_false hc, Bool.not_false, cond_true, cond_true, Option.bind_some]
  show (bif !decide (hZ f l = 0) then _ else _) = _
  rw [decide_eq_false hc]; rfl
theorem aOn (l : List aM) (hl : l.length ≤ 1000) : eO l l BIG 0 = some true := by
 have key := kX (S := Unit) (fun k i _ => eO l l k i) l.length (fun _ _ => some true) (fun _ _ => True) (fun k i _ hi _ ih => ?_) (fun k _ _ => ?_) BIG () (eK (by omega)) trivial
 ·exact key
 ·simp only [eO, show decide ((i : Int) < (l.length : Int)) = true by simpa using hi, cond_true, dP hi, Option.bind_some, decide_true, Bool.not_true, cond_false, cZ (show i < 9223372036854775807 by omega)]
  exact ih () trivial
 ·simp [eO, nA, aBo]
theorem aJd : jE (bU.mk [] [] [] 0) (bU.mk [] [] [] 0) = some true := by
 unfold jE
 simp only
 rw [sH [] (by simp)]
 simp
theorem vQ (f : aY) (l : List aM) (x : nZ) (_ : aEe f) (_ : (okL yD) l) (_ : vW x) : mA f l x = some true := by
 unfold mA
 rw [aRn, Option.bind_some, aBo]
 cases hb : (decide (20 < (l.length : Int)) && decide ((l.length : Int) ≤ 60)) || decide (100 < (l.length : Int)) with
 | true => rfl
 | false =>
  rw [Bool.or_eq_false_iff, decide_eq_false_iff_not] at hb
  have hl : l.length ≤ 100 := by omega
  rw [cond_false, fG (by simp; omega), Option.bind_some, List.nil_append, aFr, Option.bind_some, aFq, Option.bind_some, decide_eq_true rfl, Bool.not_true, cond_false, aSe, aSd, aRj, aQa]
  simp only [Option.bind_some]
  have hsame : jE (bif !decide (hZ f l = 0) then (bU.mk [] [] [] 0, hZ f l) else bif !wi x.Hour 0 9999 then (bU.mk [] [] [] 0, 1) else (uR f l x.Hour, (0 : Int))).1 (bif !decide (hZ f l = 0) then (bU.mk [] [] [] 0, hZ f l) else bif !wi x.Hour 0 9999 then (bU.mk [] [] [] 0, 1) else (uR f l x.Hour, (0 : Int))).1 = some true := by
   by_cases hc : hZ f l = 0
   ·rw [decide_eq_true hc]
    cases wi x.Hour 0 9999 with
    | true => exact aNe (kE.1 hc) x.Hour
    | false => exact aJd
   ·rw [decide_eq_false hc]; exact aJd
  rw [hsame]
  simp only [Option.bind_some, decide_true, Bool.not_true, cond_false]
  exact aOn l (by omega)
end Go.Am
