/- The theorem of the place that is kept, plainly. -/
import Derived.Test.YtfdappeickbpeaaGreatEnPlain14
namespace Go.Am

theorem aGx (xs : List Int) (n : Int) (hb : xs.length ≤ 1000) : kG xs n = some (decide (n ∈ xs)) := by
  have key := nQ (S := Unit) (fun k i _ => gD xs n k i) xs.length (fun i _ => some (decide (n ∈ xs.drop i))) (fun _ _ => True) (fun k i _ hi _ ih => ?_) (fun k _ _ => ?_) BIG () (gO (by omega)) trivial
  · unfold kG
    rw [key]
    simp
  · simp only [gD, show decide ((i : Int) < (xs.length : Int)) = true by simpa using hi, cond_true, fC hi, Option.bind_some, dV (show i < 9223372036854775807 by omega)]
    rw [List.drop_eq_getElem_cons hi]
    by_cases h : xs[i] = n
    · simp [h]
    · rw [decide_eq_false h, cond_false, ih () trivial]
      have e2 : (n ∈ xs[i] :: xs.drop (i + 1)) ↔ n ∈ xs.drop (i + 1) := by
        rw [List.mem_cons]; exact ⟨fun hh => hh.resolve_left fun e => h e.symm, .inr⟩
      rw [decide_eq_decide.2 e2]
  · simp [gD, nT]
def oY (n a b : Int) (x : aK) : Bool := decide (x.Player = n) && decide (x.Kind = 4) && decide (a < x.Hour) && decide (x.Hour ≤ b)
theorem aJa (again : Int → Option Bool) (l : List aK) (x : eI) (a b : dE) {i : Nat} (hi : i < a.Main.length) (hl : l.length ≤ 60) (g : Bool) :
    dL again l (i : Int) x a b BIG g 0 = fS again l (i : Int) (g || l.any (oY a.Main[i] x.First x.Second)) x a b := by
  have key := nQ (S := Bool) (fun k j g => dL again l (i : Int) x a b k g j) l.length (fun j g => fS again l (i : Int) (g || (l.drop j).any (oY a.Main[i] x.First x.Second)) x a b) (fun _ _ => True) (fun k j g hj _ ih => ?_) (fun k g _ => ?_) BIG g (gO (by omega)) trivial
  · rw [key]; rfl
  · simp only [dL, show decide ((j : Int) < (l.length : Int)) = true by simpa using hj, cond_true, fC hj, fC hi, Option.bind_some, dV (show j < 9223372036854775807 by omega)]
    have e : (bif g then some true else ((bif decide (l[j].Player = a.Main[i]) then some (decide (l[j].Kind = 4)) else some false).bind fun b21 => (bif b21 then some (decide (x.First < l[j].Hour)) else some false).bind fun b23 => (bif b23 then some (decide (l[j].Hour ≤ x.Second)) else some false).bind fun b25 => some b25)) = some (g || oY a.Main[i] x.First x.Second l[j]) := by
      unfold oY
      cases g <;> cases decide (l[j].Player = a.Main[i]) <;> cases decide (l[j].Kind = 4) <;> cases decide (x.First < l[j].Hour) <;> cases decide (l[j].Hour ≤ x.Second) <;> rfl
    rw [e, Option.bind_some, ih _ trivial, List.drop_eq_getElem_cons hj, List.any_cons, Bool.or_assoc]
  · simp [dL]
theorem aIz {f : aT} {l : List aK} (h : VL f l) (x : eI) (hc : f.Close ≤ x.First) (hx : x.First ≤ x.Second) : cL l x (nA f l x.First) (nA f l x.Second) BIG 0 = some true := by
  obtain ⟨_, _, ga⟩ := pD h x.First
  obtain ⟨_, _, gb⟩ := pD h x.Second
  have ma := rG ga
  have mb := rG gb
  have wb := gb.cn.wl
  have hl := h.len
  have key := nQ (S := Unit) (fun k i _ => cL l x (nA f l x.First) (nA f l x.Second) k i) (cS (cP f l x.First)).length (fun _ _ => some true) (fun _ _ => True) (fun k i _ hi _ ih => ?_) (fun k _ _ => ?_) BIG () (gO (by omega)) trivial
  · exact key
  · have hi2 : i < (nA f l x.First).Main.length := hi
    simp only [cL, show decide ((i : Int) < ((nA f l x.First).Main.length : Int)) = true from decide_eq_true (by omega), cond_true, fC hi2, Option.bind_some]
    rw [aGx _ _ (show (nA f l x.Second).Wilds.length ≤ 1000 by show (cP f l x.Second).wilds.length ≤ 1000; omega), Option.bind_some, aJa _ l x _ _ hi2 hl]
    unfold fS
    rw [fC hi2, Option.bind_some, aGx _ _ (show (nA f l x.Second).Main.length ≤ 1000 by show (cS (cP f l x.Second)).length ≤ 1000; omega), Option.bind_some]
    have hs := stays h hc hx (n := (cS (cP f l x.First))[i]) (List.getElem_mem hi)
    have hq : (l.any (oY (cS (cP f l x.First))[i] x.First x.Second)) = true ↔ ∃ y ∈ l, y.Player = (cS (cP f l x.First))[i] ∧ y.Kind = 4 ∧ x.First < y.Hour ∧ y.Hour ≤ x.Second := by
      rw [List.any_eq_true]
      simp only [oY, Bool.and_eq_true, decide_eq_true_eq, and_assoc]
    have hne : decide ((decide ((cS (cP f l x.First))[i] ∈ (cP f l x.Second).wilds) || l.any (oY (cS (cP f l x.First))[i] x.First x.Second)) = decide ((cS (cP f l x.First))[i] ∈ cS (cP f l x.Second))) = false := by
      refine decide_eq_false fun e => ?_
      by_cases hin : (cS (cP f l x.First))[i] ∈ cS (cP f l x.Second)
      · rw [decide_eq_true hin] at e
        refine hs.1 hin ?_
        rw [Bool.or_eq_true, decide_eq_true_eq, hq] at e
        exact e
      · rw [decide_eq_false hin, Bool.or_eq_false_iff, decide_eq_false_iff_not] at e
        refine hin (hs.2 fun hor => ?_)
        rcases hor with hw | hqq
        · exact e.1 hw
        · rw [hq.2 hqq] at e; exact absurd e.2 (by simp)
    show (bif decide ((decide ((cS (cP f l x.First))[i] ∈ (cP f l x.Second).wilds) || l.any (oY (cS (cP f l x.First))[i] x.First x.Second)) = decide ((cS (cP f l x.First))[i] ∈ cS (cP f l x.Second))) then some false else hU _ l (i : Int) x _ _) = some true
    rw [hne, cond_false]
    unfold hU
    rw [dV (by omega)]
    exact ih () trivial
  · have hlt : decide (((cS (cP f l x.First)).length : Int) < ((nA f l x.First).Main.length : Int)) = false := decide_eq_false (by show ¬ ((cS (cP f l x.First)).length : Int) < ((cS (cP f l x.First)).length : Int); omega)
    simp only [cL, hlt, cond_false, kJ, wU, Option.bind_some]
theorem rN (f : aT) (l : List aK) (x : eI) (_ : zF f) (_ : (okL uA) l) (_ : rT x) : jL f l x = some true := by
  obtain ⟨r, hr, hv⟩ := aIs f l
  unfold jL
  rw [hr, aBj, aBj]
  simp only [Option.bind_some, sG, wU]
  cases hb : (((!r || !wi x.First 0 9999) || !wi x.Second 0 9999) || decide (x.First < f.Close)) || decide (x.Second < x.First) with
  | true => rfl
  | false =>
    simp only [cond_false]
    simp only [Bool.or_eq_false_iff, Bool.not_eq_false', decide_eq_false_iff_not] at hb
    obtain ⟨hV, _⟩ := hv hb.1.1.1.1
    rw [zT hV hb.1.1.1.2, zT hV hb.1.1.2, Option.bind_some, Option.bind_some]
    show (bif !decide ((0 : Int) = 0) || !decide ((0 : Int) = 0) then some false else cL l x (nA f l x.First) (nA f l x.Second) BIG 0) = some true
    rw [decide_eq_true rfl, Bool.not_true, Bool.or_false, cond_false]
    exact aIz hV x (by omega) (by omega)
end Go.Am
