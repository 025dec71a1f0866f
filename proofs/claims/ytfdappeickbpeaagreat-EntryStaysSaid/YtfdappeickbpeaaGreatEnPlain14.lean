/- Plain laws, one behind the other. -/
import Derived.Test.YtfdappeickbpeaaGreatEntryFirstLaw
section
namespace Go.Am

def ug (l : aJ) (xs : List Int) : Nat := (xs.filter fun n => !(pl l n).guard).length
theorem aGh (l : aJ) : ∀ xs : List Int, ug l xs + gd l xs = xs.length
  | [] => rfl
  | n :: t => by
    have ih := aGh l t
    unfold ug gd at ih ⊢
    rw [List.filter_cons, List.filter_cons]
    cases (pl l n).guard <;> simp <;> omega
theorem zR (l : aJ) (xs : List Int) (n : Int) : ug l (xs ++ [n]) = ug l xs + (if (pl l n).guard then 0 else 1) := by
  unfold ug
  rw [List.filter_append, List.length_append, List.filter_cons]
  cases (pl l n).guard <;> simp
theorem yU (l : aJ) (xs : List Int) (n : Int) : gd l (xs ++ [n]) = gd l xs + (if (pl l n).guard then 1 else 0) := by
  unfold gd
  rw [List.filter_append, List.length_append, List.filter_cons]
  cases (pl l n).guard <;> simp
/-- A place for one more. -/
def psn (l : aJ) (acc : List Int) (m : Int) : Bool := decide ((acc.length : Int) < plc l) && (!(pl l m).guard || decide (((gd l acc : Nat) : Int) < l.Field.Guards))
theorem aBl (l : aJ) (acc : List Int) (m : Int) (t : List Int) : qK l acc (m :: t) = qK l (bif psn l acc m then acc ++ [m] else acc) t := rfl
theorem wZ {l : aJ} {acc : List Int} {m : Int} : psn l acc m = true ↔ (acc.length : Int) < plc l ∧ ((pl l m).guard = true → ((gd l acc : Nat) : Int) < l.Field.Guards) := by
  unfold psn
  cases (pl l m).guard <;> simp
/-- Who is left keeps the place. -/
theorem sF (l l2 : aJ) (p : Int → Bool) (hplc : plc l ≤ plc l2) (hG : l2.Field.Guards = l.Field.Guards) {n : Int} (hn : p n = true) : ∀ (t acc acc2 : List Int), (∀ m ∈ t, p m = true → (pl l2 m).guard = (pl l m).guard) → (plc l ≤ acc.length ∨ (ug l2 acc2 ≤ ug l acc ∧ gd l2 acc2 ≤ gd l acc)) → (n ∈ acc → n ∈ acc2) → n ∈ qK l acc t → n ∈ qK l2 acc2 (t.filter p)
  | [], _, _, _, _, h, hm => h hm
  | m :: t, acc, acc2, hg, hI, h, hm => by
    have hg2 : ∀ m ∈ t, p m = true → (pl l2 m).guard = (pl l m).guard := fun k hk => hg k (by simp [hk])
    have e1 := aGh l acc
    have e2 := aGh l2 acc2
    rw [aBl] at hm
    by_cases hp : p m = true
    · rw [List.filter_cons_of_pos hp, aBl]
      have hgm := hg m (by simp) hp
      cases hc : psn l acc m with
      | true =>
        rw [hc, cond_true] at hm
        have c1 := wZ.1 hc
        have hI2 : ug l2 acc2 ≤ ug l acc ∧ gd l2 acc2 ≤ gd l acc := by
          rcases hI with hI | hI
          · omega
          · exact hI
        have hc2 : psn l2 acc2 m = true := wZ.2 ⟨by omega, fun hgu => by
          have := c1.2 (by rw [← hgm]; exact hgu)
          rw [hG]; omega⟩
        rw [hc2, cond_true]
        refine sF l l2 p hplc hG hn t _ _ hg2 (.inr ?_) (fun hh => ?_) hm
        · rw [zR, zR, yU, yU, hgm]
          omega
        · rcases List.mem_append.1 hh with hh | hh
          · exact List.mem_append.2 (.inl (h hh))
          · exact List.mem_append.2 (.inr hh)
      | false =>
        rw [hc, cond_false] at hm
        cases hc2 : psn l2 acc2 m with
        | false => rw [cond_false]; exact sF l l2 p hplc hG hn t _ _ hg2 hI h hm
        | true =>
          rw [cond_true]
          refine sF l l2 p hplc hG hn t _ _ hg2 ?_ (fun hh => List.mem_append.2 (.inl (h hh))) hm
          have c2 := wZ.1 hc2
          rcases hI with hI | hI
          · exact .inl hI
          · by_cases hf : plc l ≤ acc.length
            · exact .inl hf
            · right
              have hgu : (pl l m).guard = true ∧ l.Field.Guards ≤ ((gd l acc : Nat) : Int) := by
                refine Classical.byContradiction fun hne => ?_
                have : psn l acc m = true := wZ.2 ⟨by omega, fun hgu => by
                  refine Classical.byContradiction fun hlt => hne ⟨hgu, by omega⟩⟩
                rw [this] at hc
                exact absurd hc (by simp)
              have c3 := c2.2 (by rw [hgm]; exact hgu.1)
              rw [hG] at c3
              rw [zR, yU, hgm, hgu.1]
              simp only [if_true]
              omega
    · rw [List.filter_cons_of_neg hp]
      have hnm : n ≠ m := fun e => hp (by rw [← e]; exact hn)
      cases hc : psn l acc m with
      | false => rw [hc, cond_false] at hm; exact sF l l2 p hplc hG hn t _ _ hg2 hI h hm
      | true =>
        rw [hc, cond_true] at hm
        refine sF l l2 p hplc hG hn t _ _ hg2 ?_ (fun hh => ?_) hm
        · rcases hI with hI | hI
          · exact .inl (by rw [List.length_append]; simp; omega)
          · right
            rw [zR, yU]
            omega
        · rcases List.mem_append.1 hh with hh | hh
          · exact h hh
          · exact absurd (List.mem_singleton.1 hh) hnm
end Go.Am

end
section
namespace Go.Am

theorem aKr {l : aJ} {x : aK} (hx : l.Field.Close < x.Hour) : ((upP l x).entered = (pl l x.Player).entered ∧ (upP l x).guard = (pl l x.Player).guard ∧ (upP l x).rank = (pl l x.Player).rank ∧ (upP l x).turn = (pl l x.Player).turn) ∧ ((pl l x.Player).quit = true → (upP l x).quit = true) ∧ ((pl l x.Player).had = true → (upP l x).had = true) := by
  unfold upP
  simp only [show decide (x.Hour ≤ l.Field.Close) = false from decide_eq_false (by omega), Bool.false_and, cond_false]
  cases decide (x.Kind = 1) || decide (x.Kind = 2) with
  | true => simp
  | false =>
    simp only [cond_false]
    cases decide (x.Kind = 3) with
    | true => simp only [cond_true]; cases ((decide (x.Hour ≤ l.Field.Freeze) && !(pl l x.Player).wild) && !(pl l x.Player).quit) && decide ((l.wilds.length : Int) < l.Field.Wilds) <;> simp
    | false =>
      simp only [cond_false]
      cases decide (x.Kind = 4) with
      | true => simp
      | false => simp only [cond_false]; cases decide (x.Kind = 5) <;> simp
theorem nL {l : aJ} {x : aK} (hx : l.Field.Close < x.Hour) (n : Int) : ((pl (cC l x) n).entered = (pl l n).entered ∧ (pl (cC l x) n).guard = (pl l n).guard ∧ (pl (cC l x) n).rank = (pl l n).rank ∧ (pl (cC l x) n).turn = (pl l n).turn) ∧ ((pl l n).quit = true → (pl (cC l x) n).quit = true) ∧ ((pl l n).had = true → (pl (cC l x) n).had = true) := by
  rw [qS]
  by_cases h : n = x.Player
  · subst h; rw [decide_eq_true rfl, cond_true]; exact aKr hx
  · rw [decide_eq_false h, cond_false]; exact ⟨⟨rfl, rfl, rfl, rfl⟩, fun h => h, fun h => h⟩
theorem aDb {l : aJ} {x : aK} (hx : l.Field.Close < x.Hour) {n : Int} (h : isE (cC l x).players n = true) : isE l.players n = true := by
  have ht := nL hx n
  rw [yY] at h ⊢
  rw [ht.1.1] at h
  simp only [Bool.and_eq_true, Bool.not_eq_true'] at h ⊢
  refine ⟨⟨h.1.1, ?_⟩, ?_⟩
  · cases hq : (pl l n).quit with
    | false => rfl
    | true => rw [ht.2.1 hq] at h; exact absurd h.1.2 (by simp)
  · cases hq : (pl l n).had with
    | false => rfl
    | true => rw [ht.2.2 hq] at h; exact absurd h.2 (by simp)
theorem aGs {l : aJ} {x : aK} (h : WF l) (h2 : WF (cC l x)) (hx : l.Field.Close < x.Hour) : fT (cC l x) = (fT l).filter fun n => isE (cC l x).players n := by
  refine mM (key := iF (cC l x)) (tT h2) (((tT h).filter _).imp fun {a b} hab => ?_) fun n => ?_
  · unfold iF at hab ⊢
    rw [(nL hx a).1.2.2.1, (nL hx a).1.2.2.2, (nL hx b).1.2.2.1, (nL hx b).1.2.2.2]
    exact hab
  · rw [qB, List.mem_filter, qB]
    exact ⟨fun hn => ⟨aDb hx hn, hn⟩, fun hn => hn.2⟩
theorem aAv (l : aJ) (first : List Int) : ∀ (k : Nat) (late : List Int) {n : Int}, n ∈ late → n ∈ lE l first k late
  | 0, _, _, h => h
  | k + 1, late, n, h => by
    rw [lE]
    cases decide (((first ++ late).length : Int) < plc l) with
    | false => exact h
    | true =>
      rw [cond_true]
      split
      · exact h
      · exact aAv l first k _ (by simp [h])
theorem lL (l : aJ) : (eH l).players = l.players ∧ (eH l).Field = l.Field ∧ (eH l).wilds = l.wilds ∧ (eH l).more = l.more := by
  unfold eH
  cases l.frozen <;> exact ⟨rfl, rfl, rfl, rfl⟩
theorem xL {f : aT} {l : aJ} {i : Nat} (h : fX f l i) : cS (eH l) = cS l := by
  unfold eH
  cases hz : l.frozen with
  | true => rfl
  | false =>
    simp only [cond_false]
    unfold cS
    simp only [hz, cond_true, cond_false, (h.fz hz).2, List.append_nil]
/-- One step. -/
theorem aHp {f : aT} {l : aJ} {x : aK} {i : Nat} (h : fX f l i) (hi : i < 60) (hx : hC x = true) (hc : f.Close < x.Hour) {n : Int} (hn : n ∈ cS l) (he : isE (eX l x).players n = true) : n ∈ cS (eX l x) := by
  obtain ⟨l1, h1, hm1, hp1, e1⟩ : ∃ l1, fX f l1 i ∧ n ∈ cS l1 ∧ l1.players = l.players ∧ (bif decide (l.Field.Freeze < x.Hour) then eH l else l) = l1 := by
    refine ⟨_, ?_, ?_, ?_, rfl⟩ <;> cases decide (l.Field.Freeze < x.Hour)
    · exact h
    · exact oC h
    · exact hn
    · rw [cond_true, xL h]; exact hn
    · rfl
    · exact (lL l).1
  unfold eX at he ⊢
  rw [e1] at he ⊢
  have hc1 : l1.Field.Close < x.Hour := by rw [h1.fd]; exact hc
  have h2 := tQ h1 hi hx
  have ht := vF l1 x
  simp only at he ⊢
  cases hz : l1.frozen with
  | false =>
    rw [ht.2.1, hz, cond_false] at he ⊢
    unfold cS at hm1 ⊢
    rw [hz, cond_false] at hm1
    rw [ht.2.1, hz, cond_false]
    unfold kI at hm1 ⊢
    rw [aGs h1.wf h2.wf hc1]
    refine sF l1 (cC l1 x) (fun n => isE (cC l1 x).players n) ?_ ?_ he (fT l1) [] [] (fun m _ _ => (nL hc1 m).1.2.1) (.inr ⟨Nat.le_refl _, Nat.le_refl _⟩) (fun h => h) hm1
    · unfold plc
      rw [ht.1]
      have := (aBs l1 x).1.1
      omega
    · rw [ht.1]
  | true =>
    rw [ht.2.1, hz, cond_true] at he ⊢
    have hz2 : (pM (cC l1 x)).frozen = true := by show (cC l1 x).frozen = true; rw [ht.2.1, hz]
    have he2 : isE (cC l1 x).players n = true := he
    unfold cS at hm1 ⊢
    rw [hz2, cond_true]
    rw [hz, cond_true] at hm1
    show n ∈ ((cC l1 x).first.filter fun n => isE (cC l1 x).players n) ++ lE (cC l1 x) _ 100 ((cC l1 x).late.filter fun n => isE (cC l1 x).players n)
    rw [ht.2.2.1, ht.2.2.2]
    rcases List.mem_append.1 hm1 with hm | hm
    · exact List.mem_append.2 (.inl (List.mem_filter.2 ⟨hm, he2⟩))
    · exact List.mem_append.2 (.inr (aAv _ _ _ _ (List.mem_filter.2 ⟨hm, he2⟩)))
theorem tE (l : aJ) (x : aK) : (eX l x).players = (cC l x).players := by
  have e : ∀ l1 : aJ, (bif (cC l1 x).frozen then pM (cC l1 x) else cC l1 x).players = (cC l1 x).players := fun l1 => by
    cases (cC l1 x).frozen <;> rfl
  unfold eX
  simp only
  rw [e, nM, nM]
  cases decide (l.Field.Freeze < x.Hour) with
  | false => rfl
  | true =>
    rw [cond_true]
    unfold eH
    cases l.frozen <;> rfl
end Go.Am

end
section
namespace Go.Am

theorem aIg {l : aJ} {x : aK} (hx : l.Field.Close < x.Hour) {n : Int} (h : isE (eX l x).players n = true) : isE l.players n = true := by
  rw [tE] at h; exact aDb hx h
theorem aDa {f : aT} : ∀ (t : List aK) {l : aJ} {i : Nat}, fX f l i → i + t.length ≤ 60 → (∀ x ∈ t, hC x = true ∧ f.Close < x.Hour) → ∀ {n : Int}, isE (t.foldl eX l).players n = true → isE l.players n = true
  | [], _, _, _, _, _, _, h => h
  | x :: t, l, i, hg, hl, ht, n, h => by
    simp only [List.length_cons] at hl
    have hx := ht x (by simp)
    exact aIg (by rw [hg.fd]; exact hx.2) (aDa t (oZ hg (by omega) hx.1) (by omega) (fun y hy => ht y (by simp [hy])) h)
theorem aBf {f : aT} : ∀ (t : List aK) {l : aJ} {i : Nat}, fX f l i → i + t.length ≤ 60 → (∀ x ∈ t, hC x = true ∧ f.Close < x.Hour) → ∀ {n : Int}, n ∈ cS l → isE (t.foldl eX l).players n = true → n ∈ cS (t.foldl eX l)
  | [], _, _, _, _, _, _, hn, _ => hn
  | x :: t, l, i, hg, hl, ht, n, hn, h => by
    simp only [List.length_cons] at hl
    have hx := ht x (by simp)
    have hg2 := oZ hg (show i < 60 by omega) hx.1
    have ht2 : ∀ y ∈ t, hC y = true ∧ f.Close < y.Hour := fun y hy => ht y (by simp [hy])
    rw [List.foldl_cons] at h ⊢
    exact aBf t hg2 (by omega) ht2 (aHp hg (by omega) hx.1 hx.2 hn (aDa t hg2 (by omega) ht2 h)) h
theorem aBe {f : aT} : ∀ (t : List aK) {l : aJ} {i : Nat}, fX f l i → i + t.length ≤ 60 → (∀ x ∈ t, hC x = true) → fX f (t.foldl eX l) (i + t.length)
  | [], _, _, hg, _, _ => hg
  | x :: t, l, i, hg, hl, ht => by
    simp only [List.length_cons] at hl ⊢
    rw [List.foldl_cons, show i + (t.length + 1) = i + 1 + t.length by omega]
    exact aBe t (oZ hg (by omega) (ht x (by simp))) (by omega) fun y hy => ht y (by simp [hy])
/-- Who is in is an entry. -/
def MS (l : aJ) : Prop := ∀ n ∈ cS l, isE l.players n = true
theorem aFu {l : aJ} {n : Int} (h : n ∈ kI l) : isE l.players n = true := by
  unfold kI at h
  rcases aDg l _ _ h with h | h
  · simp at h
  · exact qB.1 h
theorem xI {l : aJ} (h : l.frozen = false) : MS l := fun n hn => by
  unfold cS at hn
  rw [h, cond_false] at hn
  exact aFu hn
theorem aAw (l : aJ) (first : List Int) : ∀ (k : Nat) (late : List Int), (∀ n ∈ late, isE l.players n = true) → ∀ n ∈ lE l first k late, isE l.players n = true
  | 0, _, h => h
  | k + 1, late, h => by
    rw [lE]
    cases decide (((first ++ late).length : Int) < plc l) with
    | false => exact h
    | true =>
      rw [cond_true]
      split
      · exact h
      · rename_i m hm
        refine aAw l first k _ fun n hn => ?_
        rcases List.mem_append.1 hn with hn | hn
        · exact h n hn
        · rw [List.mem_singleton.1 hn]; exact qB.1 (List.mem_of_find?_eq_some hm)
theorem aJl {l : aJ} (h : l.frozen = true) : MS (pM l) := fun n hn => by
  unfold cS at hn
  rw [show (pM l).frozen = true from h, cond_true] at hn
  show isE l.players n = true
  rcases List.mem_append.1 hn with hn | hn
  · exact (List.mem_filter.1 hn).2
  · exact aAw l _ 100 _ (fun m hm => (List.mem_filter.1 hm).2) n hn
theorem aJn (l : aJ) (x : aK) : MS (eX l x) := by
  unfold eX
  simp only
  cases hz : (cC (bif decide (l.Field.Freeze < x.Hour) then eH l else l) x).frozen with
  | true => exact aJl hz
  | false => exact xI hz
theorem zU : ∀ (t : List aK) {l : aJ}, MS l → MS (t.foldl eX l)
  | [], _, h => h
  | x :: t, l, _ => zU t (aJn l x)
/-- Who has a wild card, who had one. -/
def WH (l : aJ) : Prop := ∀ n, (n ∈ l.wilds → (pl l n).had = true) ∧ ((pl l n).had = true → n ∈ l.wilds ∨ (pl l n).quit = true)
theorem aCg {l l2 : aJ} (h : WH l) (hp : l2.players = l.players) (hw : l2.wilds = l.wilds) : WH l2 := fun n => by
  have := h n
  unfold pl at this ⊢
  rw [hp, hw]; exact this
end Go.Am

end
section
namespace Go.Am

theorem aEs {l : aJ} {x : aK} (h : WH l) : WH (cC l x) := by
  intro n
  have hn := h n
  rw [qS]
  unfold cC upP
  simp only
  by_cases e : n = x.Player
  · subst e
    rw [decide_eq_true rfl, cond_true]
    cases decide (x.Kind = 1) || decide (x.Kind = 2) with
    | true => simp only [cond_true]; cases decide (x.Hour ≤ l.Field.Close) && !(pl l x.Player).entered <;> exact hn
    | false =>
      simp only [cond_false]
      cases decide (x.Kind = 3) with
      | true =>
        simp only [cond_true]
        cases ((decide (x.Hour ≤ l.Field.Freeze) && !(pl l x.Player).wild) && !(pl l x.Player).quit) && decide ((l.wilds.length : Int) < l.Field.Wilds) with
        | false => exact hn
        | true => exact ⟨fun _ => rfl, fun _ => .inl (by simp)⟩
      | false =>
        simp only [cond_false]
        cases decide (x.Kind = 4) with
        | true => exact ⟨fun hm => absurd (List.mem_filter.1 hm).2 (by simp), fun _ => .inr rfl⟩
        | false => simp only [cond_false]; cases decide (x.Kind = 5) <;> exact hn
  · rw [decide_eq_false e, cond_false]
    cases decide (x.Kind = 1) || decide (x.Kind = 2) with
    | true => simp only [cond_true]; cases decide (x.Hour ≤ l.Field.Close) && !(pl l x.Player).entered <;> exact hn
    | false =>
      simp only [cond_false]
      cases decide (x.Kind = 3) with
      | true =>
        simp only [cond_true]
        cases ((decide (x.Hour ≤ l.Field.Freeze) && !(pl l x.Player).wild) && !(pl l x.Player).quit) && decide ((l.wilds.length : Int) < l.Field.Wilds) with
        | false => exact hn
        | true =>
          have e2 : n ∈ l.wilds ++ [x.Player] ↔ n ∈ l.wilds := by simp [e]
          exact ⟨fun hm => hn.1 (e2.1 hm), fun hh => (hn.2 hh).imp e2.2 id⟩
      | false =>
        simp only [cond_false]
        cases decide (x.Kind = 4) with
        | true =>
          have e2 : n ∈ (l.wilds.filter fun m => !decide (m = x.Player)) ↔ n ∈ l.wilds := by simp [e]
          exact ⟨fun hm => hn.1 (e2.1 hm), fun hh => (hn.2 hh).imp e2.2 id⟩
        | false => simp only [cond_false]; cases decide (x.Kind = 5) <;> exact hn
theorem aJp {l : aJ} {x : aK} (h : WH l) : WH (eX l x) := by
  have h1 : WH (bif decide (l.Field.Freeze < x.Hour) then eH l else l) := by
    cases decide (l.Field.Freeze < x.Hour) with
    | false => exact h
    | true => exact aCg h (lL l).1 (lL l).2.2.1
  unfold eX
  simp only
  cases (cC (bif decide (l.Field.Freeze < x.Hour) then eH l else l) x).frozen with
  | false => exact aEs h1
  | true => exact aCg (aEs h1) rfl rfl
theorem zW : ∀ (t : List aK) {l : aJ}, WH l → WH (t.foldl eX l)
  | [], _, h => h
  | x :: t, _, h => zW t (aJp h)
theorem aJo (f : aT) : WH (gI f) := fun n => ⟨fun h => by simp [gI] at h, fun h => by simp [pl, gI, aE, zP] at h⟩
theorem aKh (l : aJ) (x : aK) : (upP l x).quit = true ↔ (pl l x.Player).quit = true ∨ x.Kind = 4 := by
  unfold upP
  simp only
  by_cases h4 : x.Kind = 4
  · simp [h4]
  · simp only [h4, decide_false, cond_false, or_false]
    cases decide (x.Kind = 1) || decide (x.Kind = 2) with
    | true => simp only [cond_true]; cases decide (x.Hour ≤ l.Field.Close) && !(pl l x.Player).entered <;> exact Iff.rfl
    | false =>
      simp only [cond_false]
      cases decide (x.Kind = 3) with
      | true => simp only [cond_true]; cases ((decide (x.Hour ≤ l.Field.Freeze) && !(pl l x.Player).wild) && !(pl l x.Player).quit) && decide ((l.wilds.length : Int) < l.Field.Wilds) <;> exact Iff.rfl
      | false => simp only [cond_false]; cases decide (x.Kind = 5) <;> exact Iff.rfl
theorem aHj (l : aJ) (x : aK) (n : Int) : (pl (eX l x) n).quit = true ↔ (pl l n).quit = true ∨ (x.Kind = 4 ∧ x.Player = n) := by
  have e : pl (eX l x) n = pl (cC l x) n := by unfold pl; rw [tE]
  rw [e, qS]
  by_cases h : n = x.Player
  · subst h; rw [decide_eq_true rfl, cond_true, aKh]; simp
  · rw [decide_eq_false h, cond_false]
    exact ⟨.inl, fun hh => hh.elim id fun hh => absurd hh.2.symm h⟩
theorem aBn : ∀ (t : List aK) (l : aJ) (n : Int), (pl (t.foldl eX l) n).quit = true ↔ (pl l n).quit = true ∨ ∃ x ∈ t, x.Kind = 4 ∧ x.Player = n
  | [], _, _ => by simp
  | x :: t, l, n => by
    rw [List.foldl_cons, aBn t, aHj]
    simp only [List.mem_cons, exists_eq_or_imp, or_assoc]
theorem aCo {f : aT} {l : aJ} {i : Nat} (h : fX f l i) (hour : Int) : cS (sM hour l) = cS l ∧ (sM hour l).wilds = l.wilds ∧ (sM hour l).players = l.players := by
  unfold sM
  cases decide (l.Field.Freeze < hour) with
  | false => exact ⟨rfl, rfl, rfl⟩
  | true => exact ⟨xL h, (lL l).2.2.1, (lL l).1⟩
theorem aCq {f : aT} : ∀ (t : List aK) {l : aJ} {i : Nat}, fX f l i → i + t.length ≤ 60 → (∀ x ∈ t, hC x = true ∧ f.Close < x.Hour) → ∀ n, (pl (t.foldl eX l) n).entered = (pl l n).entered
  | [], _, _, _, _, _, _ => rfl
  | x :: t, l, i, hg, hl, ht, n => by
    simp only [List.length_cons] at hl
    have hx := ht x (by simp)
    rw [List.foldl_cons, aCq t (oZ hg (by omega) hx.1) (by omega) (fun y hy => ht y (by simp [hy])) n]
    have e : pl (eX l x) n = pl (cC l x) n := by unfold pl; rw [tE]
    rw [e]
    exact (nL (by rw [hg.fd]; exact hx.2) n).1.1
/-- The notices of the hours between. -/
theorem yQ {T : List aK} (hs : T.Pairwise fun x y => gH x < gH y) (hb : ∀ x ∈ T, bN x) {a b : Int} (hab : a ≤ b) : (T.filter fun x => decide (x.Hour ≤ b)) = (T.filter fun x => decide (x.Hour ≤ a)) ++ T.filter fun x => decide (a < x.Hour) && decide (x.Hour ≤ b) := by
  refine mM (key := gH) (hs.filter _) (List.pairwise_append.2 ⟨hs.filter _, hs.filter _, fun x hx y hy => ?_⟩) fun x => ?_
  · have hx2 := List.mem_filter.1 hx
    have hy2 := List.mem_filter.1 hy
    simp only [decide_eq_true_eq, Bool.and_eq_true] at hx2 hy2
    have b1 := hb x hx2.1
    have b2 := hb y hy2.1
    unfold bN at b1 b2
    unfold gH
    omega
  · simp only [List.mem_append, List.mem_filter, decide_eq_true_eq, Bool.and_eq_true]
    constructor
    · intro h
      by_cases ha : x.Hour ≤ a
      · exact .inl ⟨h.1, ha⟩
      · exact .inr ⟨h.1, by omega, h.2⟩
    · rintro (h | h)
      · exact ⟨h.1, by omega⟩
      · exact ⟨h.1, h.2.2⟩
theorem aJm (f : aT) : MS (gI f) := xI rfl
/-- Who is in stays in, but for those who quit or got a wild card. -/
theorem stays {f : aT} {l : List aK} (h : VL f l) {a b : Int} (ha : f.Close ≤ a) (hab : a ≤ b) {n : Int} (hn : n ∈ cS (cP f l a)) : n ∈ cS (cP f l b) ↔ ¬ (n ∈ (cP f l b).wilds ∨ ∃ x ∈ l, x.Player = n ∧ x.Kind = 4 ∧ a < x.Hour ∧ x.Hour ≤ b) := by
  have hb : ∀ x ∈ l, bN x := fun x hx => aFk (h.nt x hx)
  have hT := vG l
  have hlen := h.len
  have hs := vN hb h.id
  have hbT : ∀ x ∈ fA l, bN x := fun x hx => hb x ((mE x).1 hx)
  have good : ∀ k, ∃ j, j ≤ 60 ∧ fX f (oT k (gI f) (fA l)) j := fun k => vC k (fA l) (gI f) 0 (oW h.fd) (by omega) fun x hx => h.nt x ((mE x).1 hx)
  obtain ⟨_, _, ga⟩ := good a
  obtain ⟨_, _, gb⟩ := good b
  have ea := aCo ga a
  have eb := aCo gb b
  unfold cP at hn ⊢
  rw [ea.1] at hn
  rw [eb.1, eb.2.1]
  rw [yF a _ _ hs hbT] at hn
  rw [yF b _ _ hs hbT, yQ hs hbT hab, List.foldl_append]
  have hla : ((fA l).filter fun x => decide (x.Hour ≤ a)).length + ((fA l).filter fun x => decide (a < x.Hour) && decide (x.Hour ≤ b)).length ≤ 60 := by
    rw [← List.length_append, ← yQ hs hbT hab]
    have := List.length_filter_le (fun x : aK => decide (x.Hour ≤ b)) (fA l)
    omega
  have ok : ∀ x ∈ fA l, hC x = true := fun x hx => h.nt x ((mE x).1 hx)
  have g1 := aBe ((fA l).filter fun x => decide (x.Hour ≤ a)) (oW h.fd) (by omega) fun x hx => ok x (List.mem_filter.1 hx).1
  have m1 := zU ((fA l).filter fun x => decide (x.Hour ≤ a)) (aJm f)
  have w1 := zW ((fA l).filter fun x => decide (x.Hour ≤ a)) (aJo f)
  generalize ((fA l).filter fun x => decide (x.Hour ≤ a)).foldl eX (gI f) = l1 at hn g1 m1 w1 ⊢
  have hmid : ∀ x ∈ (fA l).filter fun x => decide (a < x.Hour) && decide (x.Hour ≤ b), hC x = true ∧ f.Close < x.Hour := fun x hx => by
    have := List.mem_filter.1 hx
    simp only [Bool.and_eq_true, decide_eq_true_eq] at this
    exact ⟨ok x this.1, by omega⟩
  have memM : ∀ x, x ∈ ((fA l).filter fun x => decide (a < x.Hour) && decide (x.Hour ≤ b)) ↔ x ∈ l ∧ a < x.Hour ∧ x.Hour ≤ b := fun x => by
    rw [List.mem_filter, mE, Bool.and_eq_true, decide_eq_true_eq, decide_eq_true_eq]
  generalize ((fA l).filter fun x => decide (a < x.Hour) && decide (x.Hour ≤ b)) = M at hla hmid memM ⊢
  have w2 := zW M w1 n
  have m2 := zU M m1 n
  have hq := aBn M l1 n
  have i1 := m1 n hn
  have he := aCq M g1 (by omega) hmid n
  have hs2 := aBf M g1 (by omega) hmid hn
  rw [yY] at m2 hs2 i1
  simp only [Bool.and_eq_true, Bool.not_eq_true'] at m2 hs2 i1
  have hqu : (∃ x ∈ l, x.Player = n ∧ x.Kind = 4 ∧ a < x.Hour ∧ x.Hour ≤ b) ↔ (pl (M.foldl eX l1) n).quit = true := by
    rw [hq]
    constructor
    · rintro ⟨x, h1, h2, h3, h4, h5⟩
      exact .inr ⟨x, (memM x).2 ⟨h1, h4, h5⟩, h3, h2⟩
    · rintro (h1 | ⟨x, h1, h3, h2⟩)
      · rw [i1.1.2] at h1; cases h1
      · have := (memM x).1 h1; exact ⟨x, this.1, h2, h3, this.2.1, this.2.2⟩
  rw [hqu]
  constructor
  · intro hin hor
    have h2 := m2 hin
    rcases hor with hw | hqq
    · rw [w2.1 hw] at h2; exact absurd h2.2 (by simp)
    · rw [hqq] at h2; exact absurd h2.1.2 (by simp)
  · intro hno
    refine hs2 ⟨⟨by rw [he]; exact i1.1.1, ?_⟩, ?_⟩
    · cases hc : (pl (M.foldl eX l1) n).quit with
      | false => rfl
      | true => exact absurd (.inr hc) hno
    · cases hc : (pl (M.foldl eX l1) n).had with
      | false => rfl
      | true => exact absurd (w2.2 hc) hno
end Go.Am

end
