/- The theorem of the messages, plainly. -/
import Derived.Test.YtfdappeickbpeaaGreatEnWorks
namespace Go.Am

theorem aJz (l : List aJ) : lK l = some ((decide (20 < (l.length : Int)) && decide ((l.length : Int) ≤ 60)) || decide (100 < (l.length : Int))) := by
  unfold lK
  rw [sC, Option.bind_some, rX, Option.bind_some]
theorem aIb (f : aU) (l : List aJ) : ∃ r, kI f l = some r ∧ (r = true → VL f l ∧ l.length ≤ 20) := by
  unfold kI
  rw [aJz, Option.bind_some, aFw, Option.bind_some, sC, Option.bind_some]
  refine ⟨_, rfl, fun h => ?_⟩
  simp only [Bool.and_eq_true, Bool.not_eq_true', Bool.or_eq_false_iff, Bool.and_eq_false_iff, decide_eq_false_iff_not, decide_eq_true_eq] at h
  have hv := nQ.1 h.2
  have := hv.len
  exact ⟨hv, by omega⟩
theorem aGe (n : Int) : jR n = some (wi n 0 9999) := by
  unfold jR wi
  cases decide (0 ≤ n) <;> rfl
theorem rF (a : List Int) (hb : a.length ≤ 1000) : dN a a = some true := by
  unfold dN
  rw [decide_eq_true rfl]
  have key := oT (S := Unit) (fun k i _ => eO a a k i) a.length (fun _ _ => some true) (fun _ _ => True) (fun k i _ hi _ ih => ?_) (fun k _ _ => ?_) BIG () (gG (by omega)) trivial
  · exact key
  · simp only [eO, show decide ((i : Int) < (a.length : Int)) = true by simpa using hi, cond_true, eP hi, Option.bind_some, decide_true, Bool.not_true, cond_false, dV (show i < 9223372036854775807 by omega)]
    exact ih () trivial
  · simp [eO, lG]
theorem aGv {f : aU} {l : List aJ} (h : VL f l) (hour : Int) : jJ (oH f l hour) (oH f l hour) = some true := by
  obtain ⟨j, hj, hg⟩ := rK h hour
  have hm := tE hg
  have ho := aCv hg.wf
  have hw := hg.cn.wl
  unfold jJ oH
  simp only
  rw [rF _ (by omega), Option.bind_some, cond_true, rF _ (by omega), Option.bind_some, Option.bind_some, cond_true, rF _ (by omega), Option.bind_some, Option.bind_some, cond_true]
  simp
/-- Neighbours exchanged. -/
theorem aGz {α : Type} {o : List α} {c : Nat} (h : c + 1 < o.length) : ((o.set (c + 1) o[c]).set c o[c + 1]).Perm o := by
  have e : o = o.take c ++ o[c] :: o[c + 1] :: o.drop (c + 2) := by
    rw [← List.drop_eq_getElem_cons (by omega), ← List.drop_eq_getElem_cons (by omega), List.take_append_drop]
  have hl : (o.take c).length = c := by simp; omega
  obtain ⟨A, hA⟩ : ∃ A, A = o.take c := ⟨_, rfl⟩
  obtain ⟨p, hp⟩ : ∃ p, p = o[c] := ⟨_, rfl⟩
  obtain ⟨q, hq⟩ : ∃ q, q = o[c + 1] := ⟨_, rfl⟩
  obtain ⟨B, hB⟩ : ∃ B, B = o.drop (c + 2) := ⟨_, rfl⟩
  rw [← hp, ← hq]
  rw [← hA, ← hp, ← hq, ← hB] at e
  rw [← hA] at hl
  rw [e, aGw (by rw [hl]), aDg (by rw [hl])]
  exact (List.Perm.swap _ _ _).append_left A
theorem aHy (again : Int → List aJ → Option Bool) (l : List aJ) (i : Nat) (f : aU) (x : cR) (hx : i < x.By.length) (hA : ∀ o : List aJ, o.Perm l → again (w64 ((i : Int) + 1)) o = some true) (hl : l.length ≤ 60) : ∀ (c k : Nat) (o : List aJ), o.Perm l → c < o.length → c < k →
    dY again l (i : Int) f x k (c : Int) o = some true := by
  intro c
  induction c with
  | zero =>
    intro k o ho hc hk
    obtain ⟨k, rfl⟩ : ∃ q, k = q + 1 := ⟨k - 1, by omega⟩
    simp only [dY, show decide ((0 : Int) < ((0 : Nat) : Int)) = false from rfl, cond_false, Option.bind_some]
    exact hA o ho
  | succ c ih =>
    intro k o ho hc hk
    obtain ⟨k, rfl⟩ : ∃ q, k = q + 1 := ⟨k - 1, by omega⟩
    have hol : o.length ≤ 60 := by rw [ho.length_eq]; exact hl
    have hw : w64 (((c + 1 : Nat) : Int) - 1) = (c : Int) := by rw [gV (by omega) (by omega)]; omega
    have n1 : (((c + 1 : Nat) : Int)).toNat = c + 1 := by omega
    have n2 : ((c : Int)).toNat = c := by omega
    have hs : c < (o.set (c + 1) o[c]).length := by simp; omega
    simp only [dY, show decide ((0 : Int) < ((c + 1 : Nat) : Int)) = true from decide_eq_true (by omega), cond_true, eP hx, Option.bind_some, hw, n1, n2]
    cases decide (w64 ((i : Int) - x.By[i]) < ((c + 1 : Nat) : Int)) with
    | false => simp only [cond_false]; exact hA o ho
    | true =>
      simp only [cond_true]
      rw [eP (by omega : c < o.length), Option.bind_some, eP hc, Option.bind_some, Option.bind_some, eP hs, Option.bind_some]
      exact ih k _ ((aGz hc).trans ho) (by simp; omega) (by omega)
theorem aHw {f : aU} {l : List aJ} (h : VL f l) (x : cR) (hx : wi x.Hour 0 9999 = true) (o : List aJ) (ho : ∀ y, y ∈ o ↔ y ∈ l) (hl : o.length ≤ 60) :
    fX l f x (o.filter fun y => decide (y.Hour ≤ x.Hour)) o = some true := by
  have hV : VL f o := aFq h (fun y hy => (ho y).1 hy) hl
  have hV2 : VL f (o.filter fun y => decide (y.Hour ≤ x.Hour)) := aFq hV (fun y hy => (List.mem_filter.1 hy).1) (Nat.le_trans (List.length_filter_le _ _) hl)
  have e1 : oH f o x.Hour = oH f l x.Hour := by
    unfold oH
    rw [vG h ho]
  have e2 : oH f (o.filter fun y => decide (y.Hour ≤ x.Hour)) x.Hour = oH f l x.Hour := by
    unfold oH
    rw [aBb hV, vG h ho]
  unfold fX
  rw [wM h hx, Option.bind_some, wM hV hx, Option.bind_some, wM hV2 hx, Option.bind_some, e1, e2]
  simp only [decide_true, cond_true, Option.bind_some, aGv h, wL]
theorem aCu {f : aU} {l : List aJ} (h : VL f l) (x : cR) (hx : wi x.Hour 0 9999 = true) (o : List aJ) (ho : ∀ y, y ∈ o ↔ y ∈ l) (hl : o.length ≤ 60) :
    cG l f x o BIG 0 ([] : List aJ) = some true := by
  have key := oT (cG l f x o) o.length (fun _ _ => some true) (fun i b => b = (o.take i).filter fun y => decide (y.Hour ≤ x.Hour)) (fun k i b hi hI ih => ?_) (fun k b hI => ?_) BIG [] (gG (by omega)) (by simp)
  · exact key
  · subst hI
    have htk : (o.take (i + 1)).filter (fun y => decide (y.Hour ≤ x.Hour)) = (o.take i).filter (fun y => decide (y.Hour ≤ x.Hour)) ++ [o[i]].filter (fun y => decide (y.Hour ≤ x.Hour)) := by
      rw [List.take_add_one, List.getElem?_eq_getElem hi, Option.toList_some, List.filter_append]
    have hlen : ((o.take i).filter fun y => decide (y.Hour ≤ x.Hour)).length ≤ 60 := Nat.le_trans (List.length_filter_le _ _) (by simp; omega)
    simp only [cG, show decide ((i : Int) < (o.length : Int)) = true by simpa using hi, cond_true, eP hi, Option.bind_some, dV (show i < 9223372036854775807 by omega)]
    cases hc : decide (o[i].Hour ≤ x.Hour) with
    | true =>
      simp only [cond_true]
      rw [nD (by simp only [List.length_cons, List.length_nil]; omega), Option.bind_some]
      refine ih _ ?_
      rw [htk]
      simp [hc]
    | false =>
      simp only [cond_false]
      refine ih _ ?_
      rw [htk]
      simp [hc]
  · subst hI
    simp only [cG, Int.lt_irrefl, decide_false, cond_false, List.take_length]
    exact aHw h x hx o ho hl
theorem aHx {f : aU} {l : List aJ} (h : VL f l) (hl : l.length ≤ 20) (x : cR) (hx : wi x.Hour 0 9999 = true) : ∀ (d i k : Nat) (o : List aJ), l.length - i = d → d < k → i ≤ l.length → o.Perm l →
    dJ l f x k (i : Int) o = some true := by
  have hK : ∀ o : List aJ, o.Perm l → hM l f x o = some true := by
    intro o ho
    have hol := ho.length_eq
    unfold hM
    cases hc : decide (0 < (l.length : Int)) with
    | false => exact aCu h x hx o (fun y => ho.mem_iff) (by omega)
    | true =>
      simp only [decide_eq_true_eq] at hc
      have h0 : 0 < l.length := by omega
      have hi : idx l (0 : Int) = some l[0] := eP h0
      simp only [cond_true, hi, Option.bind_some]
      rw [nD (by simp; omega), Option.bind_some]
      refine aCu h x hx _ (fun y => ?_) (by simp; omega)
      rw [List.mem_append, ho.mem_iff, List.mem_singleton]
      constructor
      · rintro (h | h)
        · exact h
        · rw [h]; exact List.getElem_mem h0
      · exact .inl
  intro d
  induction d with
  | zero =>
    intro i k o hd hk hi ho
    obtain ⟨k, rfl⟩ : ∃ q, k = q + 1 := ⟨k - 1, by omega⟩
    have hol := ho.length_eq
    simp only [dJ, show decide ((i : Int) < (o.length : Int)) = false from decide_eq_false (by omega), cond_false, Option.bind_some]
    exact hK o ho
  | succ d ih =>
    intro i k o hd hk hi ho
    obtain ⟨k, rfl⟩ : ∃ q, k = q + 1 := ⟨k - 1, by omega⟩
    have hol := ho.length_eq
    simp only [dJ, show decide ((i : Int) < (o.length : Int)) = true from decide_eq_true (by omega), cond_true, Option.bind_some]
    cases hc : decide ((i : Int) < (x.By.length : Int)) with
    | false => simp only [cond_false]; exact hK o ho
    | true =>
      simp only [cond_true]
      simp only [decide_eq_true_eq] at hc
      refine aHy _ l i f x (by omega) (fun o2 ho2 => ?_) (by omega) i BIG o ho (by omega) (gG (by omega))
      rw [dV (by omega)]
      exact ih (i + 1) k o2 (by omega) (by omega) (by omega) ho2
theorem rC (f : aU) (l : List aJ) (x : cR) (_ : yW f) (_ : (okL tS) l) (_ : rJ x) : jI f l x = some true := by
  obtain ⟨r, hr, hv⟩ := aIb f l
  unfold jI
  rw [hr, aGe]
  simp only [Option.bind_some, rX, wL]
  cases hb : ((!r || decide (10 < (l.length : Int))) || !wi x.Hour 0 9999) || decide (20 < (x.By.length : Int)) with
  | true => rfl
  | false =>
    simp only [cond_false]
    simp only [Bool.or_eq_false_iff, Bool.not_eq_false', decide_eq_false_iff_not] at hb
    obtain ⟨hV, hl⟩ := hv hb.1.1.1
    rw [nD (by simp; omega), Option.bind_some, List.nil_append]
    exact aHx hV hl x hb.1.2 _ 0 BIG l rfl (gG (by omega)) (Nat.zero_le _) (.refl _)
end Go.Am
