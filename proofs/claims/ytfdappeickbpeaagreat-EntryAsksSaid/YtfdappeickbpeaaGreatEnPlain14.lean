/- Plain laws, one behind the other. -/
import Derived.Test.YtfdappeickbpeaaGreatEntryFirstLaw
section
namespace Go.Am
def ug (l : aN) (xs : List Int) : Nat := (xs.filter fun n => !(pl l n).guard).length
theorem aRe (l : aN) : ∀ xs : List Int, ug l xs + gd l xs = xs.length
 | [] => rfl
 | n :: t => by
  have ih := aRe l t
  unfold ug gd at ih ⊢
  rw [List.filter_cons, List.filter_cons]
  cases (pl l n).guard <;> simp <;> omega
theorem aIn (l : aN) (xs : List Int) (n : Int) : ug l (xs ++ [n]) = ug l xs + (if (pl l n).guard then 0 else 1) := by
 unfold ug
 rw [List.filter_append, List.length_append, List.filter_cons]
 cases (pl l n).guard <;> simp
theorem zM (l : aN) (xs : List Int) (n : Int) : gd l (xs ++ [n]) = gd l xs + (if (pl l n).guard then 1 else 0) := by
 unfold gd
 rw [List.filter_append, List.length_append, List.filter_cons]
 cases (pl l n).guard <;> simp
def psn (l : aN) (acc : List Int) (m : Int) : Bool := decide ((acc.length : Int) < plc l) && (!(pl l m).guard || decide (((gd l acc : Nat) : Int) < l.Field.Guards))
theorem aAp (l : aN) (acc : List Int) (m : Int) (t : List Int) : tA l acc (m :: t) = tA l (bif psn l acc m then acc ++ [m] else acc) t := rfl
theorem aBp {l : aN} {acc : List Int} {m : Int} : psn l acc m = true ↔ (acc.length : Int) < plc l ∧ ((pl l m).guard = true → ((gd l acc : Nat) : Int) < l.Field.Guards) := by
 unfold psn
 cases (pl l m).guard <;> simp
theorem yZ (l l2 : aN) (p : Int → Bool) (hplc : plc l ≤ plc l2) (hG : l2.Field.Guards = l.Field.Guards) {n : Int} (hn : p n = true) : ∀ (t acc acc2 : List Int), (∀ m ∈ t, p m = true → (pl l2 m).guard = (pl l m).guard) → (plc l ≤ acc.length ∨ (ug l2 acc2 ≤ ug l acc ∧ gd l2 acc2 ≤ gd l acc)) → (n ∈ acc → n ∈ acc2) → n ∈ tA l acc t → n ∈ tA l2 acc2 (t.filter p)
 | [], _, _, _, _, h, hm => h hm
 | m :: t, acc, acc2, hg, hI, h, hm => by
  have hg2 : ∀ m ∈ t, p m = true → (pl l2 m).guard = (pl l m).guard := fun k hk => hg k (by simp [hk])
  have e1 := aRe l acc
  have e2 := aRe l2 acc2
  rw [aAp] at hm
  by_cases hp : p m = true
  ·rw [List.filter_cons_of_pos hp, aAp]
   have hgm := hg m (by simp) hp
   cases hc : psn l acc m with
   | true =>
    rw [hc, cond_true] at hm
    have c1 := aBp.1 hc
    have hI2 : ug l2 acc2 ≤ ug l acc ∧ gd l2 acc2 ≤ gd l acc := by
     rcases hI with hI | hI
     ·omega
     ·exact hI
    have hc2 : psn l2 acc2 m = true := aBp.2 ⟨by omega, fun hgu => by
     have := c1.2 (by rw [← hgm]; exact hgu)
     rw [hG]; omega⟩
    rw [hc2, cond_true]
    refine yZ l l2 p hplc hG hn t _ _ hg2 (.inr ?_) (fun hh => ?_) hm
    ·rw [aIn, aIn, zM, zM, hgm]
     omega
    ·rcases List.mem_append.1 hh with hh | hh
     ·exact List.mem_append.2 (.inl (h hh))
     ·exact List.mem_append.2 (.inr hh)
   | false =>
    rw [hc, cond_false] at hm
    cases hc2 : psn l2 acc2 m with
    | false => rw [cond_false]; exact yZ l l2 p hplc hG hn t _ _ hg2 hI h hm
    | true =>
     rw [cond_true]
     refine yZ l l2 p hplc hG hn t _ _ hg2 ?_ (fun hh => List.mem_append.2 (.inl (h hh))) hm
     have c2 := aBp.1 hc2
     rcases hI with hI | hI
     ·exact .inl hI
     ·by_cases hf : plc l ≤ acc.length
      ·exact .inl hf
      ·right
       have hgu : (pl l m).guard = true ∧ l.Field.Guards ≤ ((gd l acc : Nat) : Int) := by
        refine Classical.byContradiction fun hne => ?_
        have : psn l acc m = true := aBp.2 ⟨by omega, fun hgu => by
         refine Classical.byContradiction fun hlt => hne ⟨hgu, by omega⟩⟩
        rw [this] at hc
        exact absurd hc (by simp)
       have c3 := c2.2 (by rw [hgm]; exact hgu.1)
       rw [hG] at c3
       rw [aIn, zM, hgm, hgu.1]
       simp only [if_true]
       omega
  ·rw [List.filter_cons_of_neg hp]
   have hnm : n ≠ m := fun e => hp (by rw [← e]; exact hn)
   cases hc : psn l acc m with
   | false => rw [hc, cond_false] at hm; exact yZ l l2 p hplc hG hn t _ _ hg2 hI h hm
   | true =>
    rw [hc, cond_true] at hm
    refine yZ l l2 p hplc hG hn t _ _ hg2 ?_ (fun hh => ?_) hm
    ·rcases hI with hI | hI
     ·exact .inl (by rw [List.length_append]; simp; omega)
     ·right
      rw [aIn, zM]
      omega
    ·rcases List.mem_append.1 hh with hh | hh
     ·exact h hh
     ·exact absurd (List.mem_singleton.1 hh) hnm
end Go.Am
end
section
namespace Go.Am
theorem aYd {l : aN} {x : aO} (hx : l.Field.Close < x.Hour) : ((upP l x).entered = (pl l x.Player).entered ∧ (upP l x).guard = (pl l x.Player).guard ∧ (upP l x).rank = (pl l x.Player).rank ∧ (upP l x).turn = (pl l x.Player).turn) ∧ ((pl l x.Player).quit = true → (upP l x).quit = true) ∧ ((pl l x.Player).had = true → (upP l x).had = true) := by
 unfold upP
 simp only [show decide (x.Hour ≤ l.Field.Close) = false from decide_eq_false (by omega), Bool.false_and, cond_false]
 cases decide (x.Kind = 1) || decide (x.Kind = 2) with
 | true => simp
 | false =>
  simp only [cond_false]
  cases decide (x.Kind = 3) with
  | true => simp only [cond_true]; cases ((decide (x.Hour ≤ l.Field.Freeze) && !(pl l x.Player).wild) && !(pl l x.Player).quit) && decide ((l.wilds.length : Int) < l.Field.Wilds) <;> simp
  | false =>
   simp only [cond_false]
   cases decide (x.Kind = 4) with
   | true => simp
   | false => simp only [cond_false]; cases decide (x.Kind = 5) <;> simp
theorem uA {l : aN} {x : aO} (hx : l.Field.Close < x.Hour) (n : Int) : ((pl (bK l x) n).entered = (pl l n).entered ∧ (pl (bK l x) n).guard = (pl l n).guard ∧ (pl (bK l x) n).rank = (pl l n).rank ∧ (pl (bK l x) n).turn = (pl l n).turn) ∧ ((pl l n).quit = true → (pl (bK l x) n).quit = true) ∧ ((pl l n).had = true → (pl (bK l x) n).had = true) := by
 rw [nV]
 by_cases h : n = x.Player
 ·subst h; rw [decide_eq_true rfl, cond_true]; exact aYd hx
 ·rw [decide_eq_false h, cond_false]; exact ⟨⟨rfl, rfl, rfl, rfl⟩, fun h => h, fun h => h⟩
theorem aMr {l : aN} {x : aO} (hx : l.Field.Close < x.Hour) {n : Int} (h : isE (bK l x).players n = true) : isE l.players n = true := by
 have ht := uA hx n
 rw [tS] at h ⊢
 rw [ht.1.1] at h
 simp only [Bool.and_eq_true, Bool.not_eq_true'] at h ⊢
 refine ⟨⟨h.1.1, ?_⟩, ?_⟩
 ·cases hq : (pl l n).quit with
  | false => rfl
  | true => rw [ht.2.1 hq] at h; exact absurd h.1.2 (by simp)
 ·cases hq : (pl l n).had with
  | false => rfl
  | true => rw [ht.2.2 hq] at h; exact absurd h.2 (by simp)
theorem aSa {l : aN} {x : aO} (h : WF l) (h2 : WF (bK l x)) (hx : l.Field.Close < x.Hour) : bF (bK l x) = (bF l).filter fun n => isE (bK l x).players n := by
 refine mK (key := eM (bK l x)) (qF h2) (((qF h).filter _).imp fun {a b} hab => ?_) fun n => ?_
 ·unfold eM at hab ⊢
  rw [(uA hx a).1.2.2.1, (uA hx a).1.2.2.2, (uA hx b).1.2.2.1, (uA hx b).1.2.2.2]
  exact hab
 ·rw [jV, List.mem_filter, jV]
  exact ⟨fun hn => ⟨aMr hx hn, hn⟩, fun hn => hn.2⟩
theorem aJo (l : aN) (first : List Int) : ∀ (k : Nat) (late : List Int) {n : Int}, n ∈ late → n ∈ iH l first k late
 | 0, _, _, h => h
 | k + 1, late, n, h => by
  rw [iH]
  cases decide (((first ++ late).length : Int) < plc l) with
  | false => exact h
  | true =>
   rw [cond_true]
   split
   ·exact h
   ·exact aJo l first k _ (by simp [h])
theorem gA (l : aN) : (dT l).players = l.players ∧ (dT l).Field = l.Field ∧ (dT l).wilds = l.wilds ∧ (dT l).more = l.more := by
 unfold dT
 cases l.frozen <;> exact ⟨rfl, rfl, rfl, rfl⟩
theorem lR {f : aT} {l : aN} {i : Nat} (h : gE f l i) : bD (dT l) = bD l := by
 unfold dT
 cases hz : l.frozen with
 | true => rfl
 | false =>
  simp only [cond_false]
  unfold bD
  simp only [hz, cond_true, cond_false, (h.fz hz).2, List.append_nil]
theorem aTl {f : aT} {l : aN} {x : aO} {i : Nat} (h : gE f l i) (hi : i < 60) (hx : gQ x = true) (hc : f.Close < x.Hour) {n : Int} (hn : n ∈ bD l) (he : isE (cA l x).players n = true) : n ∈ bD (cA l x) := by
 obtain ⟨l1, h1, hm1, hp1, e1⟩ : ∃ l1, gE f l1 i ∧ n ∈ bD l1 ∧ l1.players = l.players ∧ (bif decide (l.Field.Freeze < x.Hour) then dT l else l) = l1 := by
  refine ⟨_, ?_, ?_, ?_, rfl⟩ <;> cases decide (l.Field.Freeze < x.Hour)
  ·exact h
  ·exact nK h
  ·exact hn
  ·rw [cond_true, lR h]; exact hn
  ·rfl
  ·exact (gA l).1
 unfold cA at he ⊢
 rw [e1] at he ⊢
 have hc1 : l1.Field.Close < x.Hour := by rw [h1.fd]; exact hc
 have h2 := tZ h1 hi hx
 have ht := kY l1 x
 simp only at he ⊢
 cases hz : l1.frozen with
 | false =>
  rw [ht.2.1, hz, cond_false] at he ⊢
  unfold bD at hm1 ⊢
  rw [hz, cond_false] at hm1
  rw [ht.2.1, hz, cond_false]
  unfold lL at hm1 ⊢
  rw [aSa h1.wf h2.wf hc1]
  refine yZ l1 (bK l1 x) (fun n => isE (bK l1 x).players n) ?_ ?_ he (bF l1) [] [] (fun m _ _ => (uA hc1 m).1.2.1) (.inr ⟨Nat.le_refl _, Nat.le_refl _⟩) (fun h => h) hm1
  ·unfold plc
   rw [ht.1]
   have := (aEz l1 x).1.1
   omega
  ·rw [ht.1]
 | true =>
  rw [ht.2.1, hz, cond_true] at he ⊢
  have hz2 : (kW (bK l1 x)).frozen = true := by show (bK l1 x).frozen = true; rw [ht.2.1, hz]
  have he2 : isE (bK l1 x).players n = true := he
  unfold bD at hm1 ⊢
  rw [hz2, cond_true]
  rw [hz, cond_true] at hm1
  show n ∈ ((bK l1 x).first.filter fun n => isE (bK l1 x).players n) ++ iH (bK l1 x) _ 100 ((bK l1 x).late.filter fun n => isE (bK l1 x).players n)
  rw [ht.2.2.1, ht.2.2.2]
  rcases List.mem_append.1 hm1 with hm | hm
  ·exact List.mem_append.2 (.inl (List.mem_filter.2 ⟨hm, he2⟩))
  ·exact List.mem_append.2 (.inr (aJo _ _ _ _ (List.mem_filter.2 ⟨hm, he2⟩)))
theorem tY (l : aN) (x : aO) : (cA l x).players = (bK l x).players := by
 have e : ∀ l1 : aN, (bif (bK l1 x).frozen then kW (bK l1 x) else bK l1 x).players = (bK l1 x).players := fun l1 => by
  cases (bK l1 x).frozen <;> rfl
 unfold cA
 simp only
 rw [e, uB, uB]
 cases decide (l.Field.Freeze < x.Hour) with
 | false => rfl
 | true =>
  rw [cond_true]
  unfold dT
  cases l.frozen <;> rfl
end Go.Am
end
section
namespace Go.Am
theorem aUl {l : aN} {x : aO} (hx : l.Field.Close < x.Hour) {n : Int} (h : isE (cA l x).players n = true) : isE l.players n = true := by
 rw [tY] at h; exact aMr hx h
theorem aMq {f : aT} : ∀ (t : List aO) {l : aN} {i : Nat}, gE f l i → i + t.length ≤ 60 → (∀ x ∈ t, gQ x = true ∧ f.Close < x.Hour) → ∀ {n : Int}, isE (t.foldl cA l).players n = true → isE l.players n = true
 | [], _, _, _, _, _, _, h => h
 | x :: t, l, i, hg, hl, ht, n, h => by
  simp only [List.length_cons] at hl
  have hx := ht x (by simp)
  exact aUl (by rw [hg.fd]; exact hx.2) (aMq t (qD hg (by omega) hx.1) (by omega) (fun y hy => ht y (by simp [hy])) h)
theorem aKc {f : aT} : ∀ (t : List aO) {l : aN} {i : Nat}, gE f l i → i + t.length ≤ 60 → (∀ x ∈ t, gQ x = true ∧ f.Close < x.Hour) → ∀ {n : Int}, n ∈ bD l → isE (t.foldl cA l).players n = true → n ∈ bD (t.foldl cA l)
 | [], _, _, _, _, _, _, hn, _ => hn
 | x :: t, l, i, hg, hl, ht, n, hn, h => by
  simp only [List.length_cons] at hl
  have hx := ht x (by simp)
  have hg2 := qD hg (show i < 60 by omega) hx.1
  have ht2 : ∀ y ∈ t, gQ y = true ∧ f.Close < y.Hour := fun y hy => ht y (by simp [hy])
  rw [List.foldl_cons] at h ⊢
  exact aKc t hg2 (by omega) ht2 (aTl hg (by omega) hx.1 hx.2 hn (aMq t hg2 (by omega) ht2 h)) h
theorem aEd {f : aT} : ∀ (t : List aO) {l : aN} {i : Nat}, gE f l i → i + t.length ≤ 60 → (∀ x ∈ t, gQ x = true) → gE f (t.foldl cA l) (i + t.length)
 | [], _, _, hg, _, _ => hg
 | x :: t, l, i, hg, hl, ht => by
  simp only [List.length_cons] at hl ⊢
  rw [List.foldl_cons, show i + (t.length + 1) = i + 1 + t.length by omega]
  exact aEd t (qD hg (by omega) (ht x (by simp))) (by omega) fun y hy => ht y (by simp [hy])
def MS (l : aN) : Prop := ∀ n ∈ bD l, isE l.players n = true
theorem aQo {l : aN} {n : Int} (h : n ∈ lL l) : isE l.players n = true := by
 unfold lL at h
 rcases aMx l _ _ h with h | h
 ·simp at h
 ·exact jV.1 h
theorem aFw {l : aN} (h : l.frozen = false) : MS l := fun n hn => by
 unfold bD at hn
 rw [h, cond_false] at hn
 exact aQo hn
theorem aJq (l : aN) (first : List Int) : ∀ (k : Nat) (late : List Int), (∀ n ∈ late, isE l.players n = true) → ∀ n ∈ iH l first k late, isE l.players n = true
 | 0, _, h => h
 | k + 1, late, h => by
  rw [iH]
  cases decide (((first ++ late).length : Int) < plc l) with
  | false => exact h
  | true =>
   rw [cond_true]
   split
   ·exact h
   ·rename_i m hm
    refine aJq l first k _ fun n hn => ?_
    rcases List.mem_append.1 hn with hn | hn
    ·exact h n hn
    ·rw [List.mem_singleton.1 hn]; exact jV.1 (List.mem_of_find?_eq_some hm)
theorem aWn {l : aN} (h : l.frozen = true) : MS (kW l) := fun n hn => by
 unfold bD at hn
 rw [show (kW l).frozen = true from h, cond_true] at hn
 show isE l.players n = true
 rcases List.mem_append.1 hn with hn | hn
 ·exact (List.mem_filter.1 hn).2
 ·exact aJq l _ 100 _ (fun m hm => (List.mem_filter.1 hm).2) n hn
theorem aIo (l : aN) (x : aO) : MS (cA l x) := by
 unfold cA
 simp only
 cases hz : (bK (bif decide (l.Field.Freeze < x.Hour) then dT l else l) x).frozen with
 | true => exact aWn hz
 | false => exact aFw hz
theorem aFd : ∀ (t : List aO) {l : aN}, MS l → MS (t.foldl cA l)
 | [], _, h => h
 | x :: t, l, _ => aFd t (aIo l x)
def WH (l : aN) : Prop := ∀ n, (n ∈ l.wilds → (pl l n).had = true) ∧ ((pl l n).had = true → n ∈ l.wilds ∨ (pl l n).quit = true)
theorem aGn {l l2 : aN} (h : WH l) (hp : l2.players = l.players) (hw : l2.wilds = l.wilds) : WH l2 := fun n => by
 have := h n
 unfold pl at this ⊢
 rw [hp, hw]; exact this
end Go.Am
end
section
namespace Go.Am
theorem aOw {l : aN} {x : aO} (h : WH l) : WH (bK l x) := by
 intro n
 have hn := h n
 rw [nV]
 unfold bK upP
 simp only
 by_cases e : n = x.Player
 ·subst e
  rw [decide_eq_true rfl, cond_true]
  cases decide (x.Kind = 1) || decide (x.Kind = 2) with
  | true => simp only [cond_true]; cases decide (x.Hour ≤ l.Field.Close) && !(pl l x.Player).entered <;> exact hn
  | false =>
   simp only [cond_false]
   cases decide (x.Kind = 3) with
   | true =>
    simp only [cond_true]
    cases ((decide (x.Hour ≤ l.Field.Freeze) && !(pl l x.Player).wild) && !(pl l x.Player).quit) && decide ((l.wilds.length : Int) < l.Field.Wilds) with
    | false => exact hn
    | true => exact ⟨fun _ => rfl, fun _ => .inl (by simp)⟩
   | false =>
    simp only [cond_false]
    cases decide (x.Kind = 4) with
    | true => exact ⟨fun hm => absurd (List.mem_filter.1 hm).2 (by simp), fun _ => .inr rfl⟩
    | false => simp only [cond_false]; cases decide (x.Kind = 5) <;> exact hn
 ·rw [decide_eq_false e, cond_false]
  cases decide (x.Kind = 1) || decide (x.Kind = 2) with
  | true => simp only [cond_true]; cases decide (x.Hour ≤ l.Field.Close) && !(pl l x.Player).entered <;> exact hn
  | false =>
   simp only [cond_false]
   cases decide (x.Kind = 3) with
   | true =>
    simp only [cond_true]
    cases ((decide (x.Hour ≤ l.Field.Freeze) && !(pl l x.Player).wild) && !(pl l x.Player).quit) && decide ((l.wilds.length : Int) < l.Field.Wilds) with
    | false => exact hn
    | true =>
     have e2 : n ∈ l.wilds ++ [x.Player] ↔ n ∈ l.wilds := by simp [e]
     exact ⟨fun hm => hn.1 (e2.1 hm), fun hh => (hn.2 hh).imp e2.2 id⟩
   | false =>
    simp only [cond_false]
    cases decide (x.Kind = 4) with
    | true =>
     have e2 : n ∈ (l.wilds.filter fun m => !decide (m = x.Player)) ↔ n ∈ l.wilds := by simp [e]
     exact ⟨fun hm => hn.1 (e2.1 hm), fun hh => (hn.2 hh).imp e2.2 id⟩
    | false => simp only [cond_false]; cases decide (x.Kind = 5) <;> exact hn
theorem aWp {l : aN} {x : aO} (h : WH l) : WH (cA l x) := by
 have h1 : WH (bif decide (l.Field.Freeze < x.Hour) then dT l else l) := by
  cases decide (l.Field.Freeze < x.Hour) with
  | false => exact h
  | true => exact aGn h (gA l).1 (gA l).2.2.1
 unfold cA
 simp only
 cases (bK (bif decide (l.Field.Freeze < x.Hour) then dT l else l) x).frozen with
 | false => exact aOw h1
 | true => exact aGn (aOw h1) rfl rfl
theorem aFf : ∀ (t : List aO) {l : aN}, WH l → WH (t.foldl cA l)
 | [], _, h => h
 | x :: t, _, h => aFf t (aWp h)
theorem aOv (f : aT) : WH (eI f) := fun n => ⟨fun h => by simp [eI] at h, fun h => by simp [pl, eI, aL, zP] at h⟩
theorem aPo (l : aN) (x : aO) : (upP l x).quit = true ↔ (pl l x.Player).quit = true ∨ x.Kind = 4 := by
 unfold upP
 simp only
 by_cases h4 : x.Kind = 4
 ·simp [h4]
 ·simp only [h4, decide_false, cond_false, or_false]
  cases decide (x.Kind = 1) || decide (x.Kind = 2) with
  | true => simp only [cond_true]; cases decide (x.Hour ≤ l.Field.Close) && !(pl l x.Player).entered <;> exact Iff.rfl
  | false =>
   simp only [cond_false]
   cases decide (x.Kind = 3) with
   | true => simp only [cond_true]; cases ((decide (x.Hour ≤ l.Field.Freeze) && !(pl l x.Player).wild) && !(pl l x.Player).quit) && decide ((l.wilds.length : Int) < l.Field.Wilds) <;> exact Iff.rfl
   | false => simp only [cond_false]; cases decide (x.Kind = 5) <;> exact Iff.rfl
theorem aSx (l : aN) (x : aO) (n : Int) : (pl (cA l x) n).quit = true ↔ (pl l n).quit = true ∨ (x.Kind = 4 ∧ x.Player = n) := by
 have e : pl (cA l x) n = pl (bK l x) n := by unfold pl; rw [tY]
 rw [e, nV]
 by_cases h : n = x.Player
 ·subst h; rw [decide_eq_true rfl, cond_true, aPo]; simp
 ·rw [decide_eq_false h, cond_false]
  exact ⟨.inl, fun hh => hh.elim id fun hh => absurd hh.2.symm h⟩
theorem aEq : ∀ (t : List aO) (l : aN) (n : Int), (pl (t.foldl cA l) n).quit = true ↔ (pl l n).quit = true ∨ ∃ x ∈ t, x.Kind = 4 ∧ x.Player = n
 | [], _, _ => by simp
 | x :: t, l, n => by
  rw [List.foldl_cons, aEq t, aSx]
  simp only [List.mem_cons, exists_eq_or_imp, or_assoc]
theorem aBy {f : aT} {l : aN} {i : Nat} (h : gE f l i) (hour : Int) : bD (pK hour l) = bD l ∧ (pK hour l).wilds = l.wilds ∧ (pK hour l).players = l.players := by
 unfold pK
 cases decide (l.Field.Freeze < hour) with
 | false => exact ⟨rfl, rfl, rfl⟩
 | true => exact ⟨lR h, (gA l).2.2.1, (gA l).1⟩
theorem aLy {f : aT} : ∀ (t : List aO) {l : aN} {i : Nat}, gE f l i → i + t.length ≤ 60 → (∀ x ∈ t, gQ x = true ∧ f.Close < x.Hour) → ∀ n, (pl (t.foldl cA l) n).entered = (pl l n).entered
 | [], _, _, _, _, _, _ => rfl
 | x :: t, l, i, hg, hl, ht, n => by
  simp only [List.length_cons] at hl
  have hx := ht x (by simp)
  rw [List.foldl_cons, aLy t (qD hg (by omega) hx.1) (by omega) (fun y hy => ht y (by simp [hy])) n]
  have e : pl (cA l x) n = pl (bK l x) n := by unfold pl; rw [tY]
  rw [e]
  exact (uA (by rw [hg.fd]; exact hx.2) n).1.1
theorem aHr {T : List aO} (hs : T.Pairwise fun x y => dS x < dS y) (hb : ∀ x ∈ T, bN x) {a b : Int} (hab : a ≤ b) : (T.filter fun x => decide (x.Hour ≤ b)) = (T.filter fun x => decide (x.Hour ≤ a)) ++ T.filter fun x => decide (a < x.Hour) && decide (x.Hour ≤ b) := by
 refine mK (key := dS) (hs.filter _) (List.pairwise_append.2 ⟨hs.filter _, hs.filter _, fun x hx y hy => ?_⟩) fun x => ?_
 ·have hx2 := List.mem_filter.1 hx
  have hy2 := List.mem_filter.1 hy
  simp only [decide_eq_true_eq, Bool.and_eq_true] at hx2 hy2
  have b1 := hb x hx2.1
  have b2 := hb y hy2.1
  unfold bN at b1 b2
  unfold dS
  omega
 ·simp only [List.mem_append, List.mem_filter, decide_eq_true_eq, Bool.and_eq_true]
  constructor
  ·intro h
   by_cases ha : x.Hour ≤ a
   ·exact .inl ⟨h.1, ha⟩
   ·exact .inr ⟨h.1, by omega, h.2⟩
  ·rintro (h | h)
   ·exact ⟨h.1, by omega⟩
   ·exact ⟨h.1, h.2.2⟩
theorem aFe (f : aT) : MS (eI f) := aFw rfl
theorem stays {f : aT} {l : List aO} (h : VL f l) {a b : Int} (ha : f.Close ≤ a) (hab : a ≤ b) {n : Int} (hn : n ∈ bD (bV f l a)) : n ∈ bD (bV f l b) ↔ ¬ (n ∈ (bV f l b).wilds ∨ ∃ x ∈ l, x.Player = n ∧ x.Kind = 4 ∧ a < x.Hour ∧ x.Hour ≤ b) := by
 have hb : ∀ x ∈ l, bN x := fun x hx => yM (h.nt x hx)
 have hT := qE l
 have hlen := h.len
 have hs := oA hb h.id
 have hbT : ∀ x ∈ dC l, bN x := fun x hx => hb x ((fK x).1 hx)
 have good : ∀ k, ∃ j, j ≤ 60 ∧ gE f (rP k (eI f) (dC l)) j := fun k => wX k (dC l) (eI f) 0 (jX h.fd) (by omega) fun x hx => h.nt x ((fK x).1 hx)
 obtain ⟨_, _, ga⟩ := good a
 obtain ⟨_, _, gb⟩ := good b
 have ea := aBy ga a
 have eb := aBy gb b
 unfold bV at hn ⊢
 rw [ea.1] at hn
 rw [eb.1, eb.2.1]
 rw [zY a _ _ hs hbT] at hn
 rw [zY b _ _ hs hbT, aHr hs hbT hab, List.foldl_append]
 have hla : ((dC l).filter fun x => decide (x.Hour ≤ a)).length + ((dC l).filter fun x => decide (a < x.Hour) && decide (x.Hour ≤ b)).length ≤ 60 := by
  rw [← List.length_append, ← aHr hs hbT hab]
  have := List.length_filter_le (fun x : aO => decide (x.Hour ≤ b)) (dC l)
  omega
 have ok : ∀ x ∈ dC l, gQ x = true := fun x hx => h.nt x ((fK x).1 hx)
 have g1 := aEd ((dC l).filter fun x => decide (x.Hour ≤ a)) (jX h.fd) (by omega) fun x hx => ok x (List.mem_filter.1 hx).1
 have m1 := aFd ((dC l).filter fun x => decide (x.Hour ≤ a)) (aFe f)
 have w1 := aFf ((dC l).filter fun x => decide (x.Hour ≤ a)) (aOv f)
 generalize ((dC l).filter fun x => decide (x.Hour ≤ a)).foldl cA (eI f) = l1 at hn g1 m1 w1 ⊢
 have hmid : ∀ x ∈ (dC l).filter fun x => decide (a < x.Hour) && decide (x.Hour ≤ b), gQ x = true ∧ f.Close < x.Hour := fun x hx => by
  have := List.mem_filter.1 hx
  simp only [Bool.and_eq_true, decide_eq_true_eq] at this
  exact ⟨ok x this.1, by omega⟩
 have memM : ∀ x, x ∈ ((dC l).filter fun x => decide (a < x.Hour) && decide (x.Hour ≤ b)) ↔ x ∈ l ∧ a < x.Hour ∧ x.Hour ≤ b := fun x => by
  rw [List.mem_filter, fK, Bool.and_eq_true, decide_eq_true_eq, decide_eq_true_eq]
 generalize ((dC l).filter fun x => decide (a < x.Hour) && decide (x.Hour ≤ b)) = M at hla hmid memM ⊢
 have w2 := aFf M w1 n
 have m2 := aFd M m1 n
 have hq := aEq M l1 n
 have i1 := m1 n hn
 have he := aLy M g1 (by omega) hmid n
 have hs2 := aKc M g1 (by omega) hmid hn
 rw [tS] at m2 hs2 i1
 simp only [Bool.and_eq_true, Bool.not_eq_true'] at m2 hs2 i1
 have hqu : (∃ x ∈ l, x.Player = n ∧ x.Kind = 4 ∧ a < x.Hour ∧ x.Hour ≤ b) ↔ (pl (M.foldl cA l1) n).quit = true := by
  rw [hq]
  constructor
  ·rintro ⟨x, h1, h2, h3, h4, h5⟩
   exact .inr ⟨x, (memM x).2 ⟨h1, h4, h5⟩, h3, h2⟩
  ·rintro (h1 | ⟨x, h1, h3, h2⟩)
   ·rw [i1.1.2] at h1; cases h1
   ·have := (memM x).1 h1; exact ⟨x, this.1, h2, h3, this.2.1, this.2.2⟩
 rw [hqu]
 constructor
 ·intro hin hor
  have h2 := m2 hin
  rcases hor with hw | hqq
  ·rw [w2.1 hw] at h2; exact absurd h2.2 (by simp)
  ·rw [hqq] at h2; exact absurd h2.1.2 (by simp)
 ·intro hno
  refine hs2 ⟨⟨by rw [he]; exact i1.1.1, ?_⟩, ?_⟩
  ·cases hc : (pl (M.foldl cA l1) n).quit with
   | false => rfl
   | true => exact absurd (.inr hc) hno
  ·cases hc : (pl (M.foldl cA l1) n).had with
   | false => rfl
   | true => exact absurd (w2.2 hc) hno
end Go.Am
end
