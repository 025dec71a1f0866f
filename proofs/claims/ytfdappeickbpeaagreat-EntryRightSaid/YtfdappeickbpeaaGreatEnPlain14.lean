/- Plain laws, one behind the other. -/
import Derived.Test.YtfdappeickbpeaaGreatEntryFirstLaw
section
namespace Go.Am

def ug (l : aI) (xs : List Int) : Nat := (xs.filter fun n => !(pl l n).guard).length
theorem aIc (l : aI) : ∀ xs : List Int, ug l xs + gd l xs = xs.length
  | [] => rfl
  | n :: t => by
    have ih := aIc l t
    unfold ug gd at ih ⊢
    rw [List.filter_cons, List.filter_cons]
    cases (pl l n).guard <;> simp <;> omega
theorem aAy (l : aI) (xs : List Int) (n : Int) : ug l (xs ++ [n]) = ug l xs + (if (pl l n).guard then 0 else 1) := by
  unfold ug
  rw [List.filter_append, List.length_append, List.filter_cons]
  cases (pl l n).guard <;> simp
theorem tN (l : aI) (xs : List Int) (n : Int) : gd l (xs ++ [n]) = gd l xs + (if (pl l n).guard then 1 else 0) := by
  unfold gd
  rw [List.filter_append, List.length_append, List.filter_cons]
  cases (pl l n).guard <;> simp
theorem zI (l : aI) : ∀ (t acc : List Int) {n : Int}, n ∈ acc → n ∈ kF l acc t
  | [], _, _, h => h
  | m :: t, acc, n, h => by
    rw [kF]
    refine zI l t _ ?_
    cases decide ((acc.length : Int) < plc l) && (!(pl l m).guard || decide (((gd l acc : Nat) : Int) < l.Field.Guards)) with
    | true => simp [h]
    | false => exact h
/-- A place for one more. -/
def psn (l : aI) (acc : List Int) (m : Int) : Bool := decide ((acc.length : Int) < plc l) && (!(pl l m).guard || decide (((gd l acc : Nat) : Int) < l.Field.Guards))
theorem nY (l : aI) (acc : List Int) (m : Int) (t : List Int) : kF l acc (m :: t) = kF l (bif psn l acc m then acc ++ [m] else acc) t := rfl
theorem vJ {l : aI} {acc : List Int} {m : Int} : psn l acc m = true ↔ (acc.length : Int) < plc l ∧ ((pl l m).guard = true → ((gd l acc : Nat) : Int) < l.Field.Guards) := by
  unfold psn
  cases (pl l m).guard <;> simp
/-- Who is left keeps the place. -/
theorem sW (l l2 : aI) (p : Int → Bool) (hplc : plc l ≤ plc l2) (hG : l2.Field.Guards = l.Field.Guards) {n : Int} (hn : p n = true) : ∀ (t acc acc2 : List Int), (∀ m ∈ t, p m = true → (pl l2 m).guard = (pl l m).guard) → (plc l ≤ acc.length ∨ (ug l2 acc2 ≤ ug l acc ∧ gd l2 acc2 ≤ gd l acc)) → (n ∈ acc → n ∈ acc2) → n ∈ kF l acc t → n ∈ kF l2 acc2 (t.filter p)
  | [], _, _, _, _, h, hm => h hm
  | m :: t, acc, acc2, hg, hI, h, hm => by
    have hg2 : ∀ m ∈ t, p m = true → (pl l2 m).guard = (pl l m).guard := fun k hk => hg k (by simp [hk])
    have e1 := aIc l acc
    have e2 := aIc l2 acc2
    rw [nY] at hm
    by_cases hp : p m = true
    · rw [List.filter_cons_of_pos hp, nY]
      have hgm := hg m (by simp) hp
      cases hc : psn l acc m with
      | true =>
        rw [hc, cond_true] at hm
        have c1 := vJ.1 hc
        have hI2 : ug l2 acc2 ≤ ug l acc ∧ gd l2 acc2 ≤ gd l acc := by
          rcases hI with hI | hI
          · omega
          · exact hI
        have hc2 : psn l2 acc2 m = true := vJ.2 ⟨by omega, fun hgu => by
          have := c1.2 (by rw [← hgm]; exact hgu)
          rw [hG]; omega⟩
        rw [hc2, cond_true]
        refine sW l l2 p hplc hG hn t _ _ hg2 (.inr ?_) (fun hh => ?_) hm
        · rw [aAy, aAy, tN, tN, hgm]
          omega
        · rcases List.mem_append.1 hh with hh | hh
          · exact List.mem_append.2 (.inl (h hh))
          · exact List.mem_append.2 (.inr hh)
      | false =>
        rw [hc, cond_false] at hm
        cases hc2 : psn l2 acc2 m with
        | false => rw [cond_false]; exact sW l l2 p hplc hG hn t _ _ hg2 hI h hm
        | true =>
          rw [cond_true]
          refine sW l l2 p hplc hG hn t _ _ hg2 ?_ (fun hh => List.mem_append.2 (.inl (h hh))) hm
          have c2 := vJ.1 hc2
          rcases hI with hI | hI
          · exact .inl hI
          · by_cases hf : plc l ≤ acc.length
            · exact .inl hf
            · right
              have hgu : (pl l m).guard = true ∧ l.Field.Guards ≤ ((gd l acc : Nat) : Int) := by
                refine Classical.byContradiction fun hne => ?_
                have : psn l acc m = true := vJ.2 ⟨by omega, fun hgu => by
                  refine Classical.byContradiction fun hlt => hne ⟨hgu, by omega⟩⟩
                rw [this] at hc
                exact absurd hc (by simp)
              have c3 := c2.2 (by rw [hgm]; exact hgu.1)
              rw [hG] at c3
              rw [aAy, tN, hgm, hgu.1]
              simp only [if_true]
              omega
    · rw [List.filter_cons_of_neg hp]
      have hnm : n ≠ m := fun e => hp (by rw [← e]; exact hn)
      cases hc : psn l acc m with
      | false => rw [hc, cond_false] at hm; exact sW l l2 p hplc hG hn t _ _ hg2 hI h hm
      | true =>
        rw [hc, cond_true] at hm
        refine sW l l2 p hplc hG hn t _ _ hg2 ?_ (fun hh => ?_) hm
        · rcases hI with hI | hI
          · exact .inl (by rw [List.length_append]; simp; omega)
          · right
            rw [aAy, tN]
            omega
        · rcases List.mem_append.1 hh with hh | hh
          · exact h hh
          · exact absurd (List.mem_singleton.1 hh) hnm
end Go.Am

end
section
namespace Go.Am

theorem aNa {l : aI} {x : aJ} (hx : l.Field.Close < x.Hour) : ((upP l x).entered = (pl l x.Player).entered ∧ (upP l x).guard = (pl l x.Player).guard ∧ (upP l x).rank = (pl l x.Player).rank ∧ (upP l x).turn = (pl l x.Player).turn) ∧ ((pl l x.Player).quit = true → (upP l x).quit = true) ∧ ((pl l x.Player).had = true → (upP l x).had = true) := by
  unfold upP
  simp only [show decide (x.Hour ≤ l.Field.Close) = false from decide_eq_false (by omega), Bool.false_and, cond_false]
  cases decide (x.Kind = 1) || decide (x.Kind = 2) with
  | true => simp
  | false =>
    simp only [cond_false]
    cases decide (x.Kind = 3) with
    | true => simp only [cond_true]; cases ((decide (x.Hour ≤ l.Field.Freeze) && !(pl l x.Player).wild) && !(pl l x.Player).quit) && decide ((l.wilds.length : Int) < l.Field.Wilds) <;> simp
    | false =>
      simp only [cond_false]
      cases decide (x.Kind = 4) with
      | true => simp
      | false => simp only [cond_false]; cases decide (x.Kind = 5) <;> simp
theorem oF {l : aI} {x : aJ} (hx : l.Field.Close < x.Hour) (n : Int) : ((pl (bE l x) n).entered = (pl l n).entered ∧ (pl (bE l x) n).guard = (pl l n).guard ∧ (pl (bE l x) n).rank = (pl l n).rank ∧ (pl (bE l x) n).turn = (pl l n).turn) ∧ ((pl l n).quit = true → (pl (bE l x) n).quit = true) ∧ ((pl l n).had = true → (pl (bE l x) n).had = true) := by
  rw [lP]
  by_cases h : n = x.Player
  · subst h; rw [decide_eq_true rfl, cond_true]; exact aNa hx
  · rw [decide_eq_false h, cond_false]; exact ⟨⟨rfl, rfl, rfl, rfl⟩, fun h => h, fun h => h⟩
theorem aEh {l : aI} {x : aJ} (hx : l.Field.Close < x.Hour) {n : Int} (h : isE (bE l x).players n = true) : isE l.players n = true := by
  have ht := oF hx n
  rw [xH] at h ⊢
  rw [ht.1.1] at h
  simp only [Bool.and_eq_true, Bool.not_eq_true'] at h ⊢
  refine ⟨⟨h.1.1, ?_⟩, ?_⟩
  · cases hq : (pl l n).quit with
    | false => rfl
    | true => rw [ht.2.1 hq] at h; exact absurd h.1.2 (by simp)
  · cases hq : (pl l n).had with
    | false => rfl
    | true => rw [ht.2.2 hq] at h; exact absurd h.2 (by simp)
theorem aIn {l : aI} {x : aJ} (h : WF l) (h2 : WF (bE l x)) (hx : l.Field.Close < x.Hour) : fH (bE l x) = (fH l).filter fun n => isE (bE l x).players n := by
  refine nF (key := gG (bE l x)) (oS h2) (((oS h).filter _).imp fun {a b} hab => ?_) fun n => ?_
  · unfold gG at hab ⊢
    rw [(oF hx a).1.2.2.1, (oF hx a).1.2.2.2, (oF hx b).1.2.2.1, (oF hx b).1.2.2.2]
    exact hab
  · rw [qS, List.mem_filter, qS]
    exact ⟨fun hn => ⟨aEh hx hn, hn⟩, fun hn => hn.2⟩
theorem aCd (l : aI) (first : List Int) : ∀ (k : Nat) (late : List Int) {n : Int}, n ∈ late → n ∈ iF l first k late
  | 0, _, _, h => h
  | k + 1, late, n, h => by
    rw [iF]
    cases decide (((first ++ late).length : Int) < plc l) with
    | false => exact h
    | true =>
      rw [cond_true]
      split
      · exact h
      · exact aCd l first k _ (by simp [h])
theorem fJ (l : aI) : (dI l).players = l.players ∧ (dI l).Field = l.Field ∧ (dI l).wilds = l.wilds ∧ (dI l).more = l.more := by
  unfold dI
  cases l.frozen <;> exact ⟨rfl, rfl, rfl, rfl⟩
theorem rK {f : aS} {l : aI} {i : Nat} (h : fA f l i) : bR (dI l) = bR l := by
  unfold dI
  cases hz : l.frozen with
  | true => rfl
  | false =>
    simp only [cond_false]
    unfold bR
    simp only [hz, cond_true, cond_false, (h.fz hz).2, List.append_nil]
/-- One step. -/
theorem aJn {f : aS} {l : aI} {x : aJ} {i : Nat} (h : fA f l i) (hi : i < 60) (hx : gH x = true) (hc : f.Close < x.Hour) {n : Int} (hn : n ∈ bR l) (he : isE (bX l x).players n = true) : n ∈ bR (bX l x) := by
  obtain ⟨l1, h1, hm1, hp1, e1⟩ : ∃ l1, fA f l1 i ∧ n ∈ bR l1 ∧ l1.players = l.players ∧ (bif decide (l.Field.Freeze < x.Hour) then dI l else l) = l1 := by
    refine ⟨_, ?_, ?_, ?_, rfl⟩ <;> cases decide (l.Field.Freeze < x.Hour)
    · exact h
    · exact lW h
    · exact hn
    · rw [cond_true, rK h]; exact hn
    · rfl
    · exact (fJ l).1
  unfold bX at he ⊢
  rw [e1] at he ⊢
  have hc1 : l1.Field.Close < x.Hour := by rw [h1.fd]; exact hc
  have h2 := pR h1 hi hx
  have ht := jN l1 x
  simp only at he ⊢
  cases hz : l1.frozen with
  | false =>
    rw [ht.2.1, hz, cond_false] at he ⊢
    unfold bR at hm1 ⊢
    rw [hz, cond_false] at hm1
    rw [ht.2.1, hz, cond_false]
    unfold kA at hm1 ⊢
    rw [aIn h1.wf h2.wf hc1]
    refine sW l1 (bE l1 x) (fun n => isE (bE l1 x).players n) ?_ ?_ he (fH l1) [] [] (fun m _ _ => (oF hc1 m).1.2.1) (.inr ⟨Nat.le_refl _, Nat.le_refl _⟩) (fun h => h) hm1
    · unfold plc
      rw [ht.1]
      have := (xW l1 x).1.1
      omega
    · rw [ht.1]
  | true =>
    rw [ht.2.1, hz, cond_true] at he ⊢
    have hz2 : (kO (bE l1 x)).frozen = true := by show (bE l1 x).frozen = true; rw [ht.2.1, hz]
    have he2 : isE (bE l1 x).players n = true := he
    unfold bR at hm1 ⊢
    rw [hz2, cond_true]
    rw [hz, cond_true] at hm1
    show n ∈ ((bE l1 x).first.filter fun n => isE (bE l1 x).players n) ++ iF (bE l1 x) _ 100 ((bE l1 x).late.filter fun n => isE (bE l1 x).players n)
    rw [ht.2.2.1, ht.2.2.2]
    rcases List.mem_append.1 hm1 with hm | hm
    · exact List.mem_append.2 (.inl (List.mem_filter.2 ⟨hm, he2⟩))
    · exact List.mem_append.2 (.inr (aCd _ _ _ _ (List.mem_filter.2 ⟨hm, he2⟩)))
theorem oE (l : aI) (x : aJ) : (bX l x).players = (bE l x).players := by
  have e : ∀ l1 : aI, (bif (bE l1 x).frozen then kO (bE l1 x) else bE l1 x).players = (bE l1 x).players := fun l1 => by
    cases (bE l1 x).frozen <;> rfl
  unfold bX
  simp only
  rw [e, oG, oG]
  cases decide (l.Field.Freeze < x.Hour) with
  | false => rfl
  | true =>
    rw [cond_true]
    unfold dI
    cases l.frozen <;> rfl
end Go.Am

end
section
namespace Go.Am

theorem aKh {l : aI} {x : aJ} (hx : l.Field.Close < x.Hour) {n : Int} (h : isE (bX l x).players n = true) : isE l.players n = true := by
  rw [oE] at h; exact aEh hx h
theorem aEg {f : aS} : ∀ (t : List aJ) {l : aI} {i : Nat}, fA f l i → i + t.length ≤ 60 → (∀ x ∈ t, gH x = true ∧ f.Close < x.Hour) → ∀ {n : Int}, isE (t.foldl bX l).players n = true → isE l.players n = true
  | [], _, _, _, _, _, _, h => h
  | x :: t, l, i, hg, hl, ht, n, h => by
    simp only [List.length_cons] at hl
    have hx := ht x (by simp)
    exact aKh (by rw [hg.fd]; exact hx.2) (aEg t (mK hg (by omega) hx.1) (by omega) (fun y hy => ht y (by simp [hy])) h)
theorem aCn {f : aS} : ∀ (t : List aJ) {l : aI} {i : Nat}, fA f l i → i + t.length ≤ 60 → (∀ x ∈ t, gH x = true ∧ f.Close < x.Hour) → ∀ {n : Int}, n ∈ bR l → isE (t.foldl bX l).players n = true → n ∈ bR (t.foldl bX l)
  | [], _, _, _, _, _, _, hn, _ => hn
  | x :: t, l, i, hg, hl, ht, n, hn, h => by
    simp only [List.length_cons] at hl
    have hx := ht x (by simp)
    have hg2 := mK hg (show i < 60 by omega) hx.1
    have ht2 : ∀ y ∈ t, gH y = true ∧ f.Close < y.Hour := fun y hy => ht y (by simp [hy])
    rw [List.foldl_cons] at h ⊢
    exact aCn t hg2 (by omega) ht2 (aJn hg (by omega) hx.1 hx.2 hn (aEg t hg2 (by omega) ht2 h)) h
theorem xC {f : aS} : ∀ (t : List aJ) {l : aI} {i : Nat}, fA f l i → i + t.length ≤ 60 → (∀ x ∈ t, gH x = true) → fA f (t.foldl bX l) (i + t.length)
  | [], _, _, hg, _, _ => hg
  | x :: t, l, i, hg, hl, ht => by
    simp only [List.length_cons] at hl ⊢
    rw [List.foldl_cons, show i + (t.length + 1) = i + 1 + t.length by omega]
    exact xC t (mK hg (by omega) (ht x (by simp))) (by omega) fun y hy => ht y (by simp [hy])
/-- Who is in is an entry. -/
def MS (l : aI) : Prop := ∀ n ∈ bR l, isE l.players n = true
theorem aHo {l : aI} {n : Int} (h : n ∈ kA l) : isE l.players n = true := by
  unfold kA at h
  rcases zK l _ _ h with h | h
  · simp at h
  · exact qS.1 h
theorem yN {l : aI} (h : l.frozen = false) : MS l := fun n hn => by
  unfold bR at hn
  rw [h, cond_false] at hn
  exact aHo hn
theorem aCf (l : aI) (first : List Int) : ∀ (k : Nat) (late : List Int), (∀ n ∈ late, isE l.players n = true) → ∀ n ∈ iF l first k late, isE l.players n = true
  | 0, _, h => h
  | k + 1, late, h => by
    rw [iF]
    cases decide (((first ++ late).length : Int) < plc l) with
    | false => exact h
    | true =>
      rw [cond_true]
      split
      · exact h
      · rename_i m hm
        refine aCf l first k _ fun n hn => ?_
        rcases List.mem_append.1 hn with hn | hn
        · exact h n hn
        · rw [List.mem_singleton.1 hn]; exact qS.1 (List.mem_of_find?_eq_some hm)
theorem aLp {l : aI} (h : l.frozen = true) : MS (kO l) := fun n hn => by
  unfold bR at hn
  rw [show (kO l).frozen = true from h, cond_true] at hn
  show isE l.players n = true
  rcases List.mem_append.1 hn with hn | hn
  · exact (List.mem_filter.1 hn).2
  · exact aCf l _ 100 _ (fun m hm => (List.mem_filter.1 hm).2) n hn
theorem aGc (l : aI) (x : aJ) : MS (bX l x) := by
  unfold bX
  simp only
  cases hz : (bE (bif decide (l.Field.Freeze < x.Hour) then dI l else l) x).frozen with
  | true => exact aLp hz
  | false => exact yN hz
theorem yA : ∀ (t : List aJ) {l : aI}, MS l → MS (t.foldl bX l)
  | [], _, h => h
  | x :: t, l, _ => yA t (aGc l x)
/-- Who has a wild card, who had one. -/
def WH (l : aI) : Prop := ∀ n, (n ∈ l.wilds → (pl l n).had = true) ∧ ((pl l n).had = true → n ∈ l.wilds ∨ (pl l n).quit = true)
theorem yY {l l2 : aI} (h : WH l) (hp : l2.players = l.players) (hw : l2.wilds = l.wilds) : WH l2 := fun n => by
  have := h n
  unfold pl at this ⊢
  rw [hp, hw]; exact this
end Go.Am

end
section
namespace Go.Am

theorem aGe {l : aI} {x : aJ} (h : WH l) : WH (bE l x) := by
  intro n
  have hn := h n
  rw [lP]
  unfold bE upP
  simp only
  by_cases e : n = x.Player
  · subst e
    rw [decide_eq_true rfl, cond_true]
    cases decide (x.Kind = 1) || decide (x.Kind = 2) with
    | true => simp only [cond_true]; cases decide (x.Hour ≤ l.Field.Close) && !(pl l x.Player).entered <;> exact hn
    | false =>
      simp only [cond_false]
      cases decide (x.Kind = 3) with
      | true =>
        simp only [cond_true]
        cases ((decide (x.Hour ≤ l.Field.Freeze) && !(pl l x.Player).wild) && !(pl l x.Player).quit) && decide ((l.wilds.length : Int) < l.Field.Wilds) with
        | false => exact hn
        | true => exact ⟨fun _ => rfl, fun _ => .inl (by simp)⟩
      | false =>
        simp only [cond_false]
        cases decide (x.Kind = 4) with
        | true => exact ⟨fun hm => absurd (List.mem_filter.1 hm).2 (by simp), fun _ => .inr rfl⟩
        | false => simp only [cond_false]; cases decide (x.Kind = 5) <;> exact hn
  · rw [decide_eq_false e, cond_false]
    cases decide (x.Kind = 1) || decide (x.Kind = 2) with
    | true => simp only [cond_true]; cases decide (x.Hour ≤ l.Field.Close) && !(pl l x.Player).entered <;> exact hn
    | false =>
      simp only [cond_false]
      cases decide (x.Kind = 3) with
      | true =>
        simp only [cond_true]
        cases ((decide (x.Hour ≤ l.Field.Freeze) && !(pl l x.Player).wild) && !(pl l x.Player).quit) && decide ((l.wilds.length : Int) < l.Field.Wilds) with
        | false => exact hn
        | true =>
          have e2 : n ∈ l.wilds ++ [x.Player] ↔ n ∈ l.wilds := by simp [e]
          exact ⟨fun hm => hn.1 (e2.1 hm), fun hh => (hn.2 hh).imp e2.2 id⟩
      | false =>
        simp only [cond_false]
        cases decide (x.Kind = 4) with
        | true =>
          have e2 : n ∈ (l.wilds.filter fun m => !decide (m = x.Player)) ↔ n ∈ l.wilds := by simp [e]
          exact ⟨fun hm => hn.1 (e2.1 hm), fun hh => (hn.2 hh).imp e2.2 id⟩
        | false => simp only [cond_false]; cases decide (x.Kind = 5) <;> exact hn
theorem aLq {l : aI} {x : aJ} (h : WH l) : WH (bX l x) := by
  have h1 : WH (bif decide (l.Field.Freeze < x.Hour) then dI l else l) := by
    cases decide (l.Field.Freeze < x.Hour) with
    | false => exact h
    | true => exact yY h (fJ l).1 (fJ l).2.2.1
  unfold bX
  simp only
  cases (bE (bif decide (l.Field.Freeze < x.Hour) then dI l else l) x).frozen with
  | false => exact aGe h1
  | true => exact yY (aGe h1) rfl rfl
theorem yB : ∀ (t : List aJ) {l : aI}, WH l → WH (t.foldl bX l)
  | [], _, h => h
  | x :: t, _, h => yB t (aLq h)
theorem aGd (f : aS) : WH (dN f) := fun n => ⟨fun h => by simp [dN] at h, fun h => by simp [pl, dN, aF, zP] at h⟩
theorem aGt (l : aI) (x : aJ) : (upP l x).quit = true ↔ (pl l x.Player).quit = true ∨ x.Kind = 4 := by
  unfold upP
  simp only
  by_cases h4 : x.Kind = 4
  · simp [h4]
  · simp only [h4, decide_false, cond_false, or_false]
    cases decide (x.Kind = 1) || decide (x.Kind = 2) with
    | true => simp only [cond_true]; cases decide (x.Hour ≤ l.Field.Close) && !(pl l x.Player).entered <;> exact Iff.rfl
    | false =>
      simp only [cond_false]
      cases decide (x.Kind = 3) with
      | true => simp only [cond_true]; cases ((decide (x.Hour ≤ l.Field.Freeze) && !(pl l x.Player).wild) && !(pl l x.Player).quit) && decide ((l.wilds.length : Int) < l.Field.Wilds) <;> exact Iff.rfl
      | false => simp only [cond_false]; cases decide (x.Kind = 5) <;> exact Iff.rfl
theorem aJg (l : aI) (x : aJ) (n : Int) : (pl (bX l x) n).quit = true ↔ (pl l n).quit = true ∨ (x.Kind = 4 ∧ x.Player = n) := by
  have e : pl (bX l x) n = pl (bE l x) n := by unfold pl; rw [oE]
  rw [e, lP]
  by_cases h : n = x.Player
  · subst h; rw [decide_eq_true rfl, cond_true, aGt]; simp
  · rw [decide_eq_false h, cond_false]
    exact ⟨.inl, fun hh => hh.elim id fun hh => absurd hh.2.symm h⟩
theorem xR : ∀ (t : List aJ) (l : aI) (n : Int), (pl (t.foldl bX l) n).quit = true ↔ (pl l n).quit = true ∨ ∃ x ∈ t, x.Kind = 4 ∧ x.Player = n
  | [], _, _ => by simp
  | x :: t, l, n => by
    rw [List.foldl_cons, xR t, aJg]
    simp only [List.mem_cons, exists_eq_or_imp, or_assoc]
theorem vT {f : aS} {l : aI} {i : Nat} (h : fA f l i) (hour : Int) : bR (mN hour l) = bR l ∧ (mN hour l).wilds = l.wilds ∧ (mN hour l).players = l.players := by
  unfold mN
  cases decide (l.Field.Freeze < hour) with
  | false => exact ⟨rfl, rfl, rfl⟩
  | true => exact ⟨rK h, (fJ l).2.2.1, (fJ l).1⟩
theorem aDv {f : aS} : ∀ (t : List aJ) {l : aI} {i : Nat}, fA f l i → i + t.length ≤ 60 → (∀ x ∈ t, gH x = true ∧ f.Close < x.Hour) → ∀ n, (pl (t.foldl bX l) n).entered = (pl l n).entered
  | [], _, _, _, _, _, _ => rfl
  | x :: t, l, i, hg, hl, ht, n => by
    simp only [List.length_cons] at hl
    have hx := ht x (by simp)
    rw [List.foldl_cons, aDv t (mK hg (by omega) hx.1) (by omega) (fun y hy => ht y (by simp [hy])) n]
    have e : pl (bX l x) n = pl (bE l x) n := by unfold pl; rw [oE]
    rw [e]
    exact (oF (by rw [hg.fd]; exact hx.2) n).1.1
/-- The notices of the hours between. -/
theorem aAa {T : List aJ} (hs : T.Pairwise fun x y => eI x < eI y) (hb : ∀ x ∈ T, bN x) {a b : Int} (hab : a ≤ b) : (T.filter fun x => decide (x.Hour ≤ b)) = (T.filter fun x => decide (x.Hour ≤ a)) ++ T.filter fun x => decide (a < x.Hour) && decide (x.Hour ≤ b) := by
  refine nF (key := eI) (hs.filter _) (List.pairwise_append.2 ⟨hs.filter _, hs.filter _, fun x hx y hy => ?_⟩) fun x => ?_
  · have hx2 := List.mem_filter.1 hx
    have hy2 := List.mem_filter.1 hy
    simp only [decide_eq_true_eq, Bool.and_eq_true] at hx2 hy2
    have b1 := hb x hx2.1
    have b2 := hb y hy2.1
    unfold bN at b1 b2
    unfold eI
    omega
  · simp only [List.mem_append, List.mem_filter, decide_eq_true_eq, Bool.and_eq_true]
    constructor
    · intro h
      by_cases ha : x.Hour ≤ a
      · exact .inl ⟨h.1, ha⟩
      · exact .inr ⟨h.1, by omega, h.2⟩
    · rintro (h | h)
      · exact ⟨h.1, by omega⟩
      · exact ⟨h.1, h.2.2⟩
theorem aAz (f : aS) : MS (dN f) := yN rfl
/-- Who is in stays in, but for those who quit or got a wild card. -/
theorem stays {f : aS} {l : List aJ} (h : VL f l) {a b : Int} (ha : f.Close ≤ a) (hab : a ≤ b) {n : Int} (hn : n ∈ bR (bA f l a)) : n ∈ bR (bA f l b) ↔ ¬ (n ∈ (bA f l b).wilds ∨ ∃ x ∈ l, x.Player = n ∧ x.Kind = 4 ∧ a < x.Hour ∧ x.Hour ≤ b) := by
  have hb : ∀ x ∈ l, bN x := fun x hx => zR (h.nt x hx)
  have hT := qN l
  have hlen := h.len
  have hs := pH hb h.id
  have hbT : ∀ x ∈ dH l, bN x := fun x hx => hb x ((gW x).1 hx)
  have good : ∀ k, ∃ j, j ≤ 60 ∧ fA f (pN k (dN f) (dH l)) j := fun k => tU k (dH l) (dN f) 0 (jO h.fd) (by omega) fun x hx => h.nt x ((gW x).1 hx)
  obtain ⟨_, _, ga⟩ := good a
  obtain ⟨_, _, gb⟩ := good b
  have ea := vT ga a
  have eb := vT gb b
  unfold bA at hn ⊢
  rw [ea.1] at hn
  rw [eb.1, eb.2.1]
  rw [tT a _ _ hs hbT] at hn
  rw [tT b _ _ hs hbT, aAa hs hbT hab, List.foldl_append]
  have hla : ((dH l).filter fun x => decide (x.Hour ≤ a)).length + ((dH l).filter fun x => decide (a < x.Hour) && decide (x.Hour ≤ b)).length ≤ 60 := by
    rw [← List.length_append, ← aAa hs hbT hab]
    have := List.length_filter_le (fun x : aJ => decide (x.Hour ≤ b)) (dH l)
    omega
  have ok : ∀ x ∈ dH l, gH x = true := fun x hx => h.nt x ((gW x).1 hx)
  have g1 := xC ((dH l).filter fun x => decide (x.Hour ≤ a)) (jO h.fd) (by omega) fun x hx => ok x (List.mem_filter.1 hx).1
  have m1 := yA ((dH l).filter fun x => decide (x.Hour ≤ a)) (aAz f)
  have w1 := yB ((dH l).filter fun x => decide (x.Hour ≤ a)) (aGd f)
  generalize ((dH l).filter fun x => decide (x.Hour ≤ a)).foldl bX (dN f) = l1 at hn g1 m1 w1 ⊢
  have hmid : ∀ x ∈ (dH l).filter fun x => decide (a < x.Hour) && decide (x.Hour ≤ b), gH x = true ∧ f.Close < x.Hour := fun x hx => by
    have := List.mem_filter.1 hx
    simp only [Bool.and_eq_true, decide_eq_true_eq] at this
    exact ⟨ok x this.1, by omega⟩
  have memM : ∀ x, x ∈ ((dH l).filter fun x => decide (a < x.Hour) && decide (x.Hour ≤ b)) ↔ x ∈ l ∧ a < x.Hour ∧ x.Hour ≤ b := fun x => by
    rw [List.mem_filter, gW, Bool.and_eq_true, decide_eq_true_eq, decide_eq_true_eq]
  generalize ((dH l).filter fun x => decide (a < x.Hour) && decide (x.Hour ≤ b)) = M at hla hmid memM ⊢
  have w2 := yB M w1 n
  have m2 := yA M m1 n
  have hq := xR M l1 n
  have i1 := m1 n hn
  have he := aDv M g1 (by omega) hmid n
  have hs2 := aCn M g1 (by omega) hmid hn
  rw [xH] at m2 hs2 i1
  simp only [Bool.and_eq_true, Bool.not_eq_true'] at m2 hs2 i1
  have hqu : (∃ x ∈ l, x.Player = n ∧ x.Kind = 4 ∧ a < x.Hour ∧ x.Hour ≤ b) ↔ (pl (M.foldl bX l1) n).quit = true := by
    rw [hq]
    constructor
    · rintro ⟨x, h1, h2, h3, h4, h5⟩
      exact .inr ⟨x, (memM x).2 ⟨h1, h4, h5⟩, h3, h2⟩
    · rintro (h1 | ⟨x, h1, h3, h2⟩)
      · rw [i1.1.2] at h1; cases h1
      · have := (memM x).1 h1; exact ⟨x, this.1, h2, h3, this.2.1, this.2.2⟩
  rw [hqu]
  constructor
  · intro hin hor
    have h2 := m2 hin
    rcases hor with hw | hqq
    · rw [w2.1 hw] at h2; exact absurd h2.2 (by simp)
    · rw [hqq] at h2; exact absurd h2.1.2 (by simp)
  · intro hno
    refine hs2 ⟨⟨by rw [he]; exact i1.1.1, ?_⟩, ?_⟩
    · cases hc : (pl (M.foldl bX l1) n).quit with
      | false => rfl
      | true => exact absurd (.inr hc) hno
    · cases hc : (pl (M.foldl bX l1) n).had with
      | false => rfl
      | true => exact absurd (w2.2 hc) hno
end Go.Am

end
