/- The theorem of the places, plainly. -/
import Derived.Test.YtfdappeickbpeaaGreatEnPlain23
import Derived.Test.YtfdappeickbpeaaGreatEntryStaysLaw
namespace Go.Am

theorem aFf : ∀ (t : List aJ) (l : aI) {n : Int}, (∀ x ∈ t, x.Player ≠ n) → pl (t.foldl cB l) n = pl l n
  | [], _, _, _ => rfl
  | x :: t, l, n, h => by
    rw [List.foldl_cons, aFf t _ fun y hy => h y (by simp [hy]), tI, decide_eq_false (fun e => h x (by simp) e.symm), cond_false]
theorem aAa {f : aV} {l : List aJ} (h : VL f l) (hour n : Int) (hn : (pl (aU f l hour) n).entered = true ∨ (pl (aU f l hour) n).wild = true) : wi n 0 999 = true := by
  have hb : ∀ x ∈ l, bN x := fun x hx => vU (h.nt x hx)
  have hT := nF l
  have hlen := h.len
  have hs := lV hb h.id
  have hbT : ∀ x ∈ cX l, bN x := fun x hx => hb x ((eN x).1 hx)
  obtain ⟨_, _, ga⟩ := qA hour (cX l) (dG f) 0 (iX h.fd) (by omega) fun x hx => h.nt x ((eN x).1 hx)
  unfold aU at hn
  rw [aJs ga, nC hour _ _ hs hbT] at hn
  by_cases hx : ∀ x ∈ (cX l).filter (fun x => decide (x.Hour ≤ hour)), x.Player ≠ n
  · rw [aFf _ _ hx] at hn
    rcases hn with hn | hn <;> cases hn
  · simp only [Classical.not_forall] at hx
    obtain ⟨x, hm, he⟩ := hx
    have hx2 := h.nt x ((eN x).1 (List.mem_filter.1 hm).1)
    have he2 : x.Player = n := Classical.byContradiction fun e => he e
    unfold gL at hx2
    simp only [Bool.and_eq_true] at hx2
    rw [← he2]; exact hx2.1.1.2
theorem aJu (l : List aJ) (hour : Int) (f : aV) (x b : dE) (hx : x.Wilds.length ≤ 1000) (hb : b.Wilds.length ≤ 1000) :
    dJ l hour f x b BIG 0 0 = gN l hour ((b.Wilds.filter fun n => !decide (n ∈ x.Wilds)).length : Int) f x := by
  have key := lT (S := Int) (fun k i s => dJ l hour f x b k s i) b.Wilds.length (fun i s => gN l hour (s + (((b.Wilds.drop i).filter fun n => !decide (n ∈ x.Wilds)).length : Int)) f x) (fun i s => 0 ≤ s ∧ s ≤ i) (fun k i s hi hI ih => ?_) (fun k s _ => ?_) BIG 0 (gM (by omega)) (by simp)
  · rw [key]; simp
  · simp only [dJ, show decide ((i : Int) < (b.Wilds.length : Int)) = true by simpa using hi, cond_true, eO hi, Option.bind_some, aNy _ _ hx, dP (show i < 9223372036854775807 by omega)]
    rw [List.drop_eq_getElem_cons hi]
    by_cases hm : b.Wilds[i] ∈ x.Wilds
    · rw [decide_eq_true hm, Bool.not_true, cond_false, ih s (by omega), List.filter_cons_of_neg (by simp [hm])]
    · rw [decide_eq_false hm, Bool.not_false, cond_true, gD (by omega) (by omega), ih (s + 1) (by omega), List.filter_cons_of_pos (by simp [hm]), List.length_cons]
      rw [show s + 1 + (((b.Wilds.drop (i + 1)).filter fun n => !decide (n ∈ x.Wilds)).length : Int) = s + ((((b.Wilds.drop (i + 1)).filter fun n => !decide (n ∈ x.Wilds)).length + 1 : Nat) : Int) by omega]
  · simp [dJ]
theorem aJv (again : Int → Int → Option Bool) (l : List aJ) (hour iN : Int) (a : List Int) (g : Int) (f : aV) (x : dE) (hn : a.Nodup) {i : Nat} (hi : i < a.length) (ha : a.length ≤ 1000) :
    dC again l hour iN a g (i : Int) f x BIG 0 = eF again l hour iN a g (i : Int) f x := by
  have key := lT (S := Unit) (fun k j _ => dC again l hour iN a g (i : Int) f x k j) i (fun _ _ => eF again l hour iN a g (i : Int) f x) (fun _ _ => True) (fun k j _ hj _ ih => ?_) (fun k _ _ => ?_) BIG () (gM (by omega)) trivial
  · exact key
  · have hja : j < a.length := by omega
    have hne : a[j] ≠ a[i] := List.pairwise_iff_getElem.1 (List.nodup_iff_pairwise_ne.1 hn) j i hja hi hj
    simp only [dC, show decide ((j : Int) < (i : Int)) = true by simpa using hj, cond_true, eO hja, eO hi, Option.bind_some, decide_eq_false hne, cond_false, dP (show j < 9223372036854775807 by omega)]
    exact ih () trivial
  · simp [dC]
theorem aJw (again : Int → Int → Option Bool) (l : List aJ) (hour iN : Int) (a : List Int) (g w : Int) (f : aV) (x : dE) {i : Nat} (hi : i < a.length) (hl : l.length ≤ 60) (hq : ∀ y ∈ l, ¬ (y.Player = a[i] ∧ y.Kind = 4 ∧ y.Hour ≤ hour)) :
    bI again l hour iN a g (i : Int) w f x BIG 0 = cO again l hour iN a g (i : Int) w f x := by
  have key := lT (S := Unit) (fun k j _ => bI again l hour iN a g (i : Int) w f x k j) l.length (fun _ _ => cO again l hour iN a g (i : Int) w f x) (fun _ _ => True) (fun k j _ hj _ ih => ?_) (fun k _ _ => ?_) BIG () (gM (by omega)) trivial
  · exact key
  · have hno := hq l[j] (List.getElem_mem hj)
    simp only [bI, show decide ((j : Int) < (l.length : Int)) = true by simpa using hj, cond_true, eO hj, eO hi, Option.bind_some, dP (show j < 9223372036854775807 by omega)]
    have e : (((bif decide (l[j].Player = a[i]) then some (decide (l[j].Kind = 4)) else some false).bind fun b31 => (bif b31 then some (decide (l[j].Hour ≤ hour)) else some false))) = some false := by
      by_cases h1 : l[j].Player = a[i]
      · by_cases h2 : l[j].Kind = 4
        · have h3 : ¬ l[j].Hour ≤ hour := fun h3 => hno ⟨h1, h2, h3⟩
          simp [h1, h2, h3]
        · simp [h1, h2]
      · simp [h1]
    have e2 : ∀ (K : Bool → Option Bool), (((bif decide (l[j].Player = a[i]) then some (decide (l[j].Kind = 4)) else some false).bind fun b31 => (bif b31 then some (decide (l[j].Hour ≤ hour)) else some false).bind K)) = K false := fun K => by
      rw [← Option.bind_assoc, e, Option.bind_some]
    rw [e2, cond_false]
    exact ih () trivial
  · simp [bI]
theorem aJt {f : aV} {l : List aJ} (h : VL f l) {hour : Int} (hh : wi hour 0 9999 = true) (again : Int → Int → Option Bool) (iN g : Int) {i : Nat} (hi : i < (bO (aU f l hour) ++ (aU f l hour).wilds ++ gV (aU f l hour)).length) (hg : 0 ≤ g ∧ g ≤ 10000) :
    eF again l hour iN (bO (aU f l hour) ++ (aU f l hour).wilds ++ gV (aU f l hour)) g (i : Int) f (fX f l hour) =
      again (g + (if hm : i < (bO (aU f l hour)).length then (if (pl (aU f l hour) (bO (aU f l hour))[i]).guard then 1 else 0) else 0)) ((i + 1 : Nat) : Int) := by
  have A := aft h hour
  obtain ⟨j, hj, gd0⟩ := A.good
  have hnd := aCc A
  have hm := qD gd0
  have hw := gd0.cn.wl
  have ho := wG gd0.wf
  have hl := h.len
  have hlen : (bO (aU f l hour) ++ (aU f l hour).wilds ++ gV (aU f l hour)).length ≤ 1000 := by
    rw [List.length_append, List.length_append]; omega
  have hst := aKe hnd hi
  have hE : ∀ n, isE (aU f l hour).players n = true → (pl (aU f l hour) n).entered = true ∧ (pl (aU f l hour) n).quit = false := fun n hn => by
    rw [tX] at hn
    simp only [Bool.and_eq_true, Bool.not_eq_true'] at hn
    exact ⟨hn.1.1, hn.1.2⟩
  have hwho : ((i < (bO (aU f l hour)).length ∨ (bO (aU f l hour)).length + (aU f l hour).wilds.length ≤ i) → (pl (aU f l hour) (bO (aU f l hour) ++ (aU f l hour).wilds ++ gV (aU f l hour))[i]).entered = true) ∧
      (pl (aU f l hour) (bO (aU f l hour) ++ (aU f l hour).wilds ++ gV (aU f l hour))[i]).quit = false ∧ wi (bO (aU f l hour) ++ (aU f l hour).wilds ++ gV (aU f l hour))[i] 0 999 = true := by
    by_cases h1 : i < (bO (aU f l hour)).length
    · have e : (bO (aU f l hour) ++ (aU f l hour).wilds ++ gV (aU f l hour))[i] = (bO (aU f l hour))[i] := by rw [List.getElem_append_left (by rw [List.length_append]; omega), List.getElem_append_left h1]
      rw [e]
      have k := hE _ (A.ms _ (List.getElem_mem h1))
      exact ⟨fun _ => k.1, k.2, aAa h hour _ (.inl k.1)⟩
    · by_cases h2 : i < (bO (aU f l hour) ++ (aU f l hour).wilds).length
      · have h3 := h2
        rw [List.length_append] at h3
        have hb : i - (bO (aU f l hour)).length < (aU f l hour).wilds.length := by omega
        have e : (bO (aU f l hour) ++ (aU f l hour).wilds ++ gV (aU f l hour))[i] = (aU f l hour).wilds[i - (bO (aU f l hour)).length] := by rw [List.getElem_append_left h2, List.getElem_append_right (by omega)]
        rw [e]
        have k := (A.wd.fl _).1 (List.getElem_mem hb)
        exact ⟨fun hor => by omega, A.wq _ k, aAa h hour _ (.inr k)⟩
      · have hc : i - (bO (aU f l hour) ++ (aU f l hour).wilds).length < (gV (aU f l hour)).length := by rw [List.length_append] at hi; omega
        have e : (bO (aU f l hour) ++ (aU f l hour).wilds ++ gV (aU f l hour))[i] = (gV (aU f l hour))[i - (bO (aU f l hour) ++ (aU f l hour).wilds).length] := List.getElem_append_right (by omega)
        rw [e]
        have k := hE _ (oG.1 (List.mem_filter.1 (List.getElem_mem hc)).1)
        exact ⟨fun _ => k.1, k.2, aAa h hour _ (.inl k.1)⟩
  have hq : ∀ y ∈ l, ¬ (y.Player = (bO (aU f l hour) ++ (aU f l hour).wilds ++ gV (aU f l hour))[i] ∧ y.Kind = 4 ∧ y.Hour ≤ hour) := fun y hy hh => by
    have := (A.quit _).2 ⟨y, hy, hh.2.1, hh.1, hh.2.2⟩
    rw [hwho.2.1] at this; cases this
  have hgu : ∀ hm : i < (bO (aU f l hour)).length, (bO (aU f l hour) ++ (aU f l hour).wilds ++ gV (aU f l hour))[i] = (bO (aU f l hour))[i] := fun h1 => by
    rw [List.getElem_append_left (by rw [List.length_append]; omega), List.getElem_append_left h1]
  have key : ∀ w : Int, (w ≠ 2 → i < (bO (aU f l hour)).length ∨ (bO (aU f l hour)).length + (aU f l hour).wilds.length ≤ i) → (w = 1 ↔ i < (bO (aU f l hour)).length) →
      bI again l hour iN (bO (aU f l hour) ++ (aU f l hour).wilds ++ gV (aU f l hour)) g (i : Int) w f (fX f l hour) BIG 0 =
      again (g + (if hm : i < (bO (aU f l hour)).length then (if (pl (aU f l hour) (bO (aU f l hour))[i]).guard then 1 else 0) else 0)) ((i + 1 : Nat) : Int) := fun w hw1 hw2 => by
    rw [aJw again l hour iN _ g w f _ hi hl hq]
    unfold cO
    rw [eO hi, Option.bind_some]
    obtain ⟨gg, rr, he, h1, h2⟩ := aHs h hour (bO (aU f l hour) ++ (aU f l hour).wilds ++ gV (aU f l hour))[i]
    rw [he, Option.bind_some]
    have ez : (bif !decide (w = 2) then some (!(pl (aU f l hour) (bO (aU f l hour) ++ (aU f l hour).wilds ++ gV (aU f l hour))[i]).entered) else some false) = some false := by
      by_cases e2 : w = 2
      · simp [e2]
      · rw [decide_eq_false e2, Bool.not_false, cond_true, hwho.1 (hw1 e2)]; rfl
    show ((bif !decide (w = 2) then some (!(pl (aU f l hour) (bO (aU f l hour) ++ (aU f l hour).wilds ++ gV (aU f l hour))[i]).entered) else some false).bind fun b36 => bif b36 then some false else ((bif decide (w = 1) then some gg else some false).bind fun b37 => bif b37 then _ else _)) = _
    rw [ez, Option.bind_some, cond_false]
    unfold bX
    rw [dP (by omega)]
    by_cases hmn : i < (bO (aU f l hour)).length
    · rw [dif_pos hmn, decide_eq_true (hw2.2 hmn), cond_true, Option.bind_some]
      have e3 := h1 (hwho.1 (.inl hmn))
      rw [hgu hmn] at e3
      rw [e3.1]
      cases (pl (aU f l hour) (bO (aU f l hour))[i]).guard with
      | true => rw [cond_true, gD (by omega) (by omega)]; rfl
      | false => rw [cond_false]; simp
    · rw [dif_neg hmn, decide_eq_false (fun e => hmn (hw2.1 e)), cond_false, Option.bind_some, cond_false]
      simp
  have hlM : ((fX f l hour).Main.length : Int) = ((bO (aU f l hour)).length : Int) := rfl
  have hlW : ((fX f l hour).Wilds.length : Int) = ((aU f l hour).wilds.length : Int) := rfl
  unfold eF
  rw [eO hi, Option.bind_some, aKn h hh hwho.2.2, Option.bind_some]
  unfold oR
  rw [hst, gD (n := ((fX f l hour).Main.length : Int) + ((fX f l hour).Wilds.length : Int)) (by omega) (by omega), dP (i := i) (by omega),
    gD (n := ((i + 1 : Nat) : Int) - ((fX f l hour).Main.length : Int)) (by omega) (by omega),
    gD (n := ((i + 1 : Nat) : Int) - ((fX f l hour).Main.length : Int) - ((fX f l hour).Wilds.length : Int)) (by omega) (by omega)]
  have hx : ∀ (a b c d : Int) (X : Option Bool), a = b → c = d → ((bif !decide ((0 : Int) = 0) then some true else some (!decide (a = b))).bind fun b26 => (bif b26 then some true else some (!decide (c = d))).bind fun b27 => bif b27 then some false else X) = X := fun a b c d X e1 e2 => by
    rw [decide_eq_true e1, decide_eq_true e2]; rfl
  by_cases h1 : ((bO (aU f l hour)).length : Int) + ((aU f l hour).wilds.length : Int) ≤ (i : Int)
  · rw [decide_eq_true (show ((fX f l hour).Main.length : Int) + ((fX f l hour).Wilds.length : Int) ≤ (i : Int) by omega), cond_true, decide_eq_true (show ((fX f l hour).Main.length : Int) ≤ (i : Int) by omega), cond_true]
    have ew : yC ((bO (aU f l hour)).length : Int) ((aU f l hour).wilds.length : Int) (i : Int) = (3, (i : Int) + 1 - ((bO (aU f l hour)).length : Int) - ((aU f l hour).wilds.length : Int)) := if_pos h1
    rw [ew]
    refine (hx _ _ _ _ _ rfl ?_).trans (key 3 (fun _ => .inr (by omega)) ⟨fun e => by omega, fun e => by omega⟩)
    simp only
    omega
  · rw [decide_eq_false (show ¬ ((fX f l hour).Main.length : Int) + ((fX f l hour).Wilds.length : Int) ≤ (i : Int) by omega), cond_false]
    by_cases h2 : ((bO (aU f l hour)).length : Int) ≤ (i : Int)
    · have ew : yC ((bO (aU f l hour)).length : Int) ((aU f l hour).wilds.length : Int) (i : Int) = (2, (i : Int) + 1 - ((bO (aU f l hour)).length : Int)) := (if_neg h1).trans (if_pos h2)
      rw [decide_eq_true (show ((fX f l hour).Main.length : Int) ≤ (i : Int) by omega), cond_true, ew]
      refine (hx _ _ _ _ _ rfl ?_).trans (key 2 (fun e => absurd rfl e) ⟨fun e => by omega, fun e => by omega⟩)
      simp only
      omega
    · have ew : yC ((bO (aU f l hour)).length : Int) ((aU f l hour).wilds.length : Int) (i : Int) = (1, (i : Int) + 1) := (if_neg h1).trans (if_neg h2)
      rw [decide_eq_false (show ¬ ((fX f l hour).Main.length : Int) ≤ (i : Int) by omega), cond_false, cond_false, ew]
      refine (hx _ _ _ _ _ rfl ?_).trans (key 1 (fun _ => .inl (by omega)) ⟨fun _ => by omega, fun _ => rfl⟩)
      simp only
      omega
theorem aMt (l : aI) (n : Int) (t : List Int) : gd l (n :: t) = (if (pl l n).guard then 1 else 0) + gd l t := by
  unfold gd
  rw [List.filter_cons]
  cases (pl l n).guard <;> simp <;> omega
theorem aDb {f : aV} {l : List aJ} (h : VL f l) {hour : Int} (hh : wi hour 0 9999 = true) (iN : Int) (hb : (aU f l hour).more = iN) :
    bP l hour iN (bO (aU f l hour) ++ (aU f l hour).wilds ++ gV (aU f l hour)) f (fX f l hour) BIG 0 0 = some true := by
  have A := aft h hour
  obtain ⟨j, hj, gd0⟩ := A.good
  have hnd := aCc A
  have hm := qD gd0
  have hw := gd0.cn.wl
  have ho := wG gd0.wf
  have hlen : (bO (aU f l hour) ++ (aU f l hour).wilds ++ gV (aU f l hour)).length ≤ 1000 := by
    rw [List.length_append, List.length_append]; omega
  have key := lT (S := Int) (fun k i s => bP l hour iN (bO (aU f l hour) ++ (aU f l hour).wilds ++ gV (aU f l hour)) f (fX f l hour) k s i) (bO (aU f l hour) ++ (aU f l hour).wilds ++ gV (aU f l hour)).length
    (fun i s => gO iN (s + ((gd (aU f l hour) ((bO (aU f l hour)).drop i) : Nat) : Int)) f (fX f l hour)) (fun i s => 0 ≤ s ∧ s ≤ i) (fun k i s hi hI ih => ?_) (fun k s _ => ?_) BIG 0 (gM (by omega)) (by simp)
  · rw [key]
    have hgd := A.pk.gd
    have hfd := gd0.fd
    rw [hfd] at hgd
    have hp := uA gd0.wf
    have e : (w64 (((fX f l hour).Main.length : Int) + (fX f l hour).Open)) = w64 (f.Places + iN) := by
      show w64 (((bO (aU f l hour)).length : Int) + (plc (aU f l hour) - ((bO (aU f l hour)).length : Int))) = _
      rw [show ((bO (aU f l hour)).length : Int) + (plc (aU f l hour) - ((bO (aU f l hour)).length : Int)) = plc (aU f l hour) by omega]
      unfold plc
      rw [hfd, hb]
    unfold gO
    rw [e, decide_eq_true rfl, cond_true, Option.bind_some, List.drop_zero, Int.zero_add, decide_eq_true hgd, cond_true, yD]
    rfl
  · simp only [bP, show decide ((i : Int) < ((bO (aU f l hour) ++ (aU f l hour).wilds ++ gV (aU f l hour)).length : Int)) = true from decide_eq_true (by omega), cond_true]
    rw [aJv _ l hour iN _ s f _ hnd hi hlen, aJt h hh _ iN s hi (by omega)]
    by_cases hmn : i < (bO (aU f l hour)).length
    · rw [dif_pos hmn, List.drop_eq_getElem_cons hmn, aMt]
      cases (pl (aU f l hour) (bO (aU f l hour))[i]).guard with
      | true =>
        rw [if_pos rfl, if_pos rfl, ih _ (by omega)]
        rw [show s + 1 + ((gd (aU f l hour) ((bO (aU f l hour)).drop (i + 1)) : Nat) : Int) = s + ((1 + gd (aU f l hour) ((bO (aU f l hour)).drop (i + 1)) : Nat) : Int) by omega]
      | false =>
        rw [if_neg (by simp), if_neg (by simp), ih _ (by omega)]
        rw [show s + 0 + ((gd (aU f l hour) ((bO (aU f l hour)).drop (i + 1)) : Nat) : Int) = s + ((0 + gd (aU f l hour) ((bO (aU f l hour)).drop (i + 1)) : Nat) : Int) by omega]
    · rw [dif_neg hmn, ih _ (by omega), List.drop_eq_nil_of_le (by omega), List.drop_eq_nil_of_le (by omega), Int.add_zero]
  · simp only [bP, show decide (((bO (aU f l hour) ++ (aU f l hour).wilds ++ gV (aU f l hour)).length : Int) < ((bO (aU f l hour) ++ (aU f l hour).wilds ++ gV (aU f l hour)).length : Int)) = false from decide_eq_false (by omega), cond_false]
    rw [List.drop_eq_nil_of_le (by rw [List.length_append, List.length_append]; omega)]
    simp [gd]
theorem sF (f : aV) (l : List aJ) (hour : Int) (_ : aAw f) (_ : (okL vD) l) (_ : okI hour) : jX f l hour = some true := by
  obtain ⟨r, hr, hv⟩ := aLk f l
  unfold jX
  rw [hr, aJg]
  simp only [Option.bind_some, tF, yD]
  cases hb : !r || !wi hour 0 9999 with
  | true => rfl
  | false =>
    simp only [cond_false]
    simp only [Bool.or_eq_false_iff, Bool.not_eq_false'] at hb
    obtain ⟨hV, _⟩ := hv hb.1
    have hF : wi f.Freeze 0 9999 = true := by
      have := hV.fd
      unfold oM at this
      simp only [Bool.and_eq_true, uH] at this ⊢
      omega
    have A := aft hV hour
    obtain ⟨j, hj, gd0⟩ := A.good
    have B := aft hV f.Freeze
    obtain ⟨j2, hj2, gd2⟩ := B.good
    have hm := qD gd0
    have hw := gd0.cn.wl
    have hw2 := gd2.cn.wl
    have ho := wG gd0.wf
    have hbk := aMh hV hour
    rw [aBh hV hb.2, aBh hV hF, Option.bind_some, Option.bind_some]
    have hop : decide ((fX f l hour).Open < 0) = false := decide_eq_false (by
      have := A.pk.len
      show ¬ plc (aU f l hour) - ((bO (aU f l hour)).length : Int) < 0
      omega)
    have hwl : decide (f.Wilds < ((fX f l hour).Wilds.length : Int)) = false := decide_eq_false (by
      have := A.wd.len
      rw [gd0.fd] at this
      show ¬ f.Wilds < ((aU f l hour).wilds.length : Int)
      omega)
    have happ : ∀ K : List Int → Option Bool, ((app 8 ([] : List Int) (fX f l hour).Main).bind fun x16 => (app 8 x16 (fX f l hour).Wilds).bind fun x18 => (app 8 x18 (fX f l hour).Out).bind fun x20 => K x20) = K (bO (aU f l hour) ++ (aU f l hour).wilds ++ gV (aU f l hour)) := fun K => by
      show ((app 8 ([] : List Int) (bO (aU f l hour))).bind fun x16 => (app 8 x16 (aU f l hour).wilds).bind fun x18 => (app 8 x18 (gV (aU f l hour))).bind fun x20 => K x20) = _
      rw [oC (by simp; omega), Option.bind_some, List.nil_append, oC (by omega), Option.bind_some, oC (by rw [List.length_append]; omega), Option.bind_some]
    show (bif ((!decide ((0 : Int) = 0) || !decide ((0 : Int) = 0)) || decide ((fX f l hour).Open < 0)) || decide (f.Wilds < ((fX f l hour).Wilds.length : Int)) then some false else _) = some true
    rw [hop, hwl, decide_eq_true rfl, Bool.not_true, Bool.or_false, Bool.or_false, Bool.or_false, cond_false]
    by_cases hfz : f.Freeze < hour
    · rw [decide_eq_true hfz, cond_true, aJu l hour f _ _ (show (aU f l hour).wilds.length ≤ 1000 by omega) (show (aU f l f.Freeze).wilds.length ≤ 1000 by omega)]
      unfold gN
      rw [happ]
      exact aDb hV hb.2 _ (hbk.2 hfz)
    · rw [decide_eq_false hfz, cond_false, happ]
      exact aDb hV hb.2 _ (hbk.1 (by omega))
end Go.Am
