/- Plain laws, one behind the other. -/
import Derived.Test.YtfdappeickbpeaaGreatEntryFirstLaw
section
namespace Go.Am
def ug (l : aO) (xs : List Int) : Nat := (xs.filter fun n => !(pl l n).guard).length
theorem aLs (l : aO) : ∀ xs : List Int, ug l xs + gd l xs = xs.length
 | [] => rfl
 | n :: t => by
  have ih := aLs l t
  unfold ug gd at ih ⊢
  rw [List.filter_cons, List.filter_cons]
  cases (pl l n).guard <;> simp <;> omega
theorem aEs (l : aO) (xs : List Int) (n : Int) : ug l (xs ++ [n]) = ug l xs + (if (pl l n).guard then 0 else 1) := by
 unfold ug
 rw [List.filter_append, List.length_append, List.filter_cons]
 cases (pl l n).guard <;> simp
theorem wV (l : aO) (xs : List Int) (n : Int) : gd l (xs ++ [n]) = gd l xs + (if (pl l n).guard then 1 else 0) := by
 unfold gd
 rw [List.filter_append, List.length_append, List.filter_cons]
 cases (pl l n).guard <;> simp
def psn (l : aO) (acc : List Int) (m : Int) : Bool := decide ((acc.length : Int) < plc l) && (!(pl l m).guard || decide (((gd l acc : Nat) : Int) < l.Field.Guards))
theorem xR (l : aO) (acc : List Int) (m : Int) (t : List Int) : rU l acc (m :: t) = rU l (bif psn l acc m then acc ++ [m] else acc) t := rfl
theorem yQ {l : aO} {acc : List Int} {m : Int} : psn l acc m = true ↔ (acc.length : Int) < plc l ∧ ((pl l m).guard = true → ((gd l acc : Nat) : Int) < l.Field.Guards) := by
 unfold psn
 cases (pl l m).guard <;> simp
theorem wI (l l2 : aO) (p : Int → Bool) (hplc : plc l ≤ plc l2) (hG : l2.Field.Guards = l.Field.Guards) {n : Int} (hn : p n = true) : ∀ (t acc acc2 : List Int), (∀ m ∈ t, p m = true → (pl l2 m).guard = (pl l m).guard) → (plc l ≤ acc.length ∨ (ug l2 acc2 ≤ ug l acc ∧ gd l2 acc2 ≤ gd l acc)) → (n ∈ acc → n ∈ acc2) → n ∈ rU l acc t → n ∈ rU l2 acc2 (t.filter p)
 | [], _, _, _, _, h, hm => h hm
 | m :: t, acc, acc2, hg, hI, h, hm => by
  have hg2 : ∀ m ∈ t, p m = true → (pl l2 m).guard = (pl l m).guard := fun k hk => hg k (by simp [hk])
  have e1 := aLs l acc
  have e2 := aLs l2 acc2
  rw [xR] at hm
  by_cases hp : p m = true
  ·rw [List.filter_cons_of_pos hp, xR]
   have hgm := hg m (by simp) hp
   cases hc : psn l acc m with
   | true =>
    rw [hc, cond_true] at hm
    have c1 := yQ.1 hc
    have hI2 : ug l2 acc2 ≤ ug l acc ∧ gd l2 acc2 ≤ gd l acc := by
     rcases hI with hI | hI
     ·omega
     ·exact hI
    have hc2 : psn l2 acc2 m = true := yQ.2 ⟨by omega, fun hgu => by
     have := c1.2 (by rw [← hgm]; exact hgu)
     rw [hG]; omega⟩
    rw [hc2, cond_true]
    refine wI l l2 p hplc hG hn t _ _ hg2 (.inr ?_) (fun hh => ?_) hm
    ·rw [aEs, aEs, wV, wV, hgm]
     omega
    ·rcases List.mem_append.1 hh with hh | hh
     ·exact List.mem_append.2 (.inl (h hh))
     ·exact List.mem_append.2 (.inr hh)
   | false =>
    rw [hc, cond_false] at hm
    cases hc2 : psn l2 acc2 m with
    | false => rw [cond_false]; exact wI l l2 p hplc hG hn t _ _ hg2 hI h hm
    | true =>
     rw [cond_true]
     refine wI l l2 p hplc hG hn t _ _ hg2 ?_ (fun hh => List.mem_append.2 (.inl (h hh))) hm
     have c2 := yQ.1 hc2
     rcases hI with hI | hI
     ·exact .inl hI
     ·by_cases hf : plc l ≤ acc.length
      ·exact .inl hf
      ·right
       have hgu : (pl l m).guard = true ∧ l.Field.Guards ≤ ((gd l acc : Nat) : Int) := by
        refine Classical.byContradiction fun hne => ?_
        have : psn l acc m = true := yQ.2 ⟨by omega, fun hgu => by
         refine Classical.byContradiction fun hlt => hne ⟨hgu, by omega⟩⟩
        rw [this] at hc
        exact absurd hc (by simp)
       have c3 := c2.2 (by rw [hgm]; exact hgu.1)
       rw [hG] at c3
       rw [aEs, wV, hgm, hgu.1]
       simp only [if_true]
       omega
  ·rw [List.filter_cons_of_neg hp]
   have hnm : n ≠ m := fun e => hp (by rw [← e]; exact hn)
   cases hc : psn l acc m with
   | false => rw [hc, cond_false] at hm; exact wI l l2 p hplc hG hn t _ _ hg2 hI h hm
   | true =>
    rw [hc, cond_true] at hm
    refine wI l l2 p hplc hG hn t _ _ hg2 ?_ (fun hh => ?_) hm
    ·rcases hI with hI | hI
     ·exact .inl (by rw [List.length_append]; simp; omega)
     ·right
      rw [aEs, wV]
      omega
    ·rcases List.mem_append.1 hh with hh | hh
     ·exact h hh
     ·exact absurd (List.mem_singleton.1 hh) hnm
end Go.Am
end
section
namespace Go.Am
theorem aRa {l : aO} {x : aM} (hx : l.Field.Close < x.Hour) : ((upP l x).entered = (pl l x.Player).entered ∧ (upP l x).guard = (pl l x.Player).guard ∧ (upP l x).rank = (pl l x.Player).rank ∧ (upP l x).turn = (pl l x.Player).turn) ∧ ((pl l x.Player).quit = true → (upP l x).quit = true) ∧ ((pl l x.Player).had = true → (upP l x).had = true) := by
 unfold upP
 simp only [show decide (x.Hour ≤ l.Field.Close) = false from decide_eq_false (by omega), Bool.false_and, cond_false]
 cases decide (x.Kind = 1) || decide (x.Kind = 2) with
 | true => simp
 | false =>
  simp only [cond_false]
  cases decide (x.Kind = 3) with
  | true => simp only [cond_true]; cases ((decide (x.Hour ≤ l.Field.Freeze) && !(pl l x.Player).wild) && !(pl l x.Player).quit) && decide ((l.wilds.length : Int) < l.Field.Wilds) <;> simp
  | false =>
   simp only [cond_false]
   cases decide (x.Kind = 4) with
   | true => simp
   | false => simp only [cond_false]; cases decide (x.Kind = 5) <;> simp
theorem rO {l : aO} {x : aM} (hx : l.Field.Close < x.Hour) (n : Int) : ((pl (bH l x) n).entered = (pl l n).entered ∧ (pl (bH l x) n).guard = (pl l n).guard ∧ (pl (bH l x) n).rank = (pl l n).rank ∧ (pl (bH l x) n).turn = (pl l n).turn) ∧ ((pl l n).quit = true → (pl (bH l x) n).quit = true) ∧ ((pl l n).had = true → (pl (bH l x) n).had = true) := by
 rw [mE]
 by_cases h : n = x.Player
 ·subst h; rw [decide_eq_true rfl, cond_true]; exact aRa hx
 ·rw [decide_eq_false h, cond_false]; exact ⟨⟨rfl, rfl, rfl, rfl⟩, fun h => h, fun h => h⟩
theorem aIg {l : aO} {x : aM} (hx : l.Field.Close < x.Hour) {n : Int} (h : isE (bH l x).players n = true) : isE l.players n = true := by
 have ht := rO hx n
 rw [wY] at h ⊢
 rw [ht.1.1] at h
 simp only [Bool.and_eq_true, Bool.not_eq_true'] at h ⊢
 refine ⟨⟨h.1.1, ?_⟩, ?_⟩
 ·cases hq : (pl l n).quit with
  | false => rfl
  | true => rw [ht.2.1 hq] at h; exact absurd h.1.2 (by simp)
 ·cases hq : (pl l n).had with
  | false => rfl
  | true => rw [ht.2.2 hq] at h; exact absurd h.2 (by simp)
theorem aMd {l : aO} {x : aM} (h : WF l) (h2 : WF (bH l x)) (hx : l.Field.Close < x.Hour) : bW (bH l x) = (bW l).filter fun n => isE (bH l x).players n := by
 refine mJ (key := eI (bH l x)) (rY h2) (((rY h).filter _).imp fun {a b} hab => ?_) fun n => ?_
 ·unfold eI at hab ⊢
  rw [(rO hx a).1.2.2.1, (rO hx a).1.2.2.2, (rO hx b).1.2.2.1, (rO hx b).1.2.2.2]
  exact hab
 ·rw [mF, List.mem_filter, mF]
  exact ⟨fun hn => ⟨aIg hx hn, hn⟩, fun hn => hn.2⟩
theorem aFv (l : aO) (first : List Int) : ∀ (k : Nat) (late : List Int) {n : Int}, n ∈ late → n ∈ jQ l first k late
 | 0, _, _, h => h
 | k + 1, late, n, h => by
  rw [jQ]
  cases decide (((first ++ late).length : Int) < plc l) with
  | false => exact h
  | true =>
   rw [cond_true]
   split
   ·exact h
   ·exact aFv l first k _ (by simp [h])
theorem gZ (l : aO) : (dY l).players = l.players ∧ (dY l).Field = l.Field ∧ (dY l).wilds = l.wilds ∧ (dY l).more = l.more := by
 unfold dY
 cases l.frozen <;> exact ⟨rfl, rfl, rfl, rfl⟩
theorem kD {f : aY} {l : aO} {i : Nat} (h : iH f l i) : dD (dY l) = dD l := by
 unfold dY
 cases hz : l.frozen with
 | true => rfl
 | false =>
  simp only [cond_false]
  unfold dD
  simp only [hz, cond_true, cond_false, (h.fz hz).2, List.append_nil]
theorem aNh {f : aY} {l : aO} {x : aM} {i : Nat} (h : iH f l i) (hi : i < 60) (hx : iJ x = true) (hc : f.Close < x.Hour) {n : Int} (hn : n ∈ dD l) (he : isE (dM l x).players n = true) : n ∈ dD (dM l x) := by
 obtain ⟨l1, h1, hm1, hp1, e1⟩ : ∃ l1, iH f l1 i ∧ n ∈ dD l1 ∧ l1.players = l.players ∧ (bif decide (l.Field.Freeze < x.Hour) then dY l else l) = l1 := by
  refine ⟨_, ?_, ?_, ?_, rfl⟩ <;> cases decide (l.Field.Freeze < x.Hour)
  ·exact h
  ·exact mV h
  ·exact hn
  ·rw [cond_true, kD h]; exact hn
  ·rfl
  ·exact (gZ l).1
 unfold dM at he ⊢
 rw [e1] at he ⊢
 have hc1 : l1.Field.Close < x.Hour := by rw [h1.fd]; exact hc
 have h2 := sV h1 hi hx
 have ht := kR l1 x
 simp only at he ⊢
 cases hz : l1.frozen with
 | false =>
  rw [ht.2.1, hz, cond_false] at he ⊢
  unfold dD at hm1 ⊢
  rw [hz, cond_false] at hm1
  rw [ht.2.1, hz, cond_false]
  unfold kB at hm1 ⊢
  rw [aMd h1.wf h2.wf hc1]
  refine wI l1 (bH l1 x) (fun n => isE (bH l1 x).players n) ?_ ?_ he (bW l1) [] [] (fun m _ _ => (rO hc1 m).1.2.1) (.inr ⟨Nat.le_refl _, Nat.le_refl _⟩) (fun h => h) hm1
  ·unfold plc
   rw [ht.1]
   have := (aBl l1 x).1.1
   omega
  ·rw [ht.1]
 | true =>
  rw [ht.2.1, hz, cond_true] at he ⊢
  have hz2 : (lT (bH l1 x)).frozen = true := by show (bH l1 x).frozen = true; rw [ht.2.1, hz]
  have he2 : isE (bH l1 x).players n = true := he
  unfold dD at hm1 ⊢
  rw [hz2, cond_true]
  rw [hz, cond_true] at hm1
  show n ∈ ((bH l1 x).first.filter fun n => isE (bH l1 x).players n) ++ jQ (bH l1 x) _ 100 ((bH l1 x).late.filter fun n => isE (bH l1 x).players n)
  rw [ht.2.2.1, ht.2.2.2]
  rcases List.mem_append.1 hm1 with hm | hm
  ·exact List.mem_append.2 (.inl (List.mem_filter.2 ⟨hm, he2⟩))
  ·exact List.mem_append.2 (.inr (aFv _ _ _ _ (List.mem_filter.2 ⟨hm, he2⟩)))
theorem rN (l : aO) (x : aM) : (dM l x).players = (bH l x).players := by
 have e : ∀ l1 : aO, (bif (bH l1 x).frozen then lT (bH l1 x) else bH l1 x).players = (bH l1 x).players := fun l1 => by
  cases (bH l1 x).frozen <;> rfl
 unfold dM
 simp only
 rw [e, rP, rP]
 cases decide (l.Field.Freeze < x.Hour) with
 | false => rfl
 | true =>
  rw [cond_true]
  unfold dY
  cases l.frozen <;> rfl
end Go.Am
end
section
namespace Go.Am
theorem aOa {l : aO} {x : aM} (hx : l.Field.Close < x.Hour) {n : Int} (h : isE (dM l x).players n = true) : isE l.players n = true := by
 rw [rN] at h; exact aIg hx h
theorem aIf {f : aY} : ∀ (t : List aM) {l : aO} {i : Nat}, iH f l i → i + t.length ≤ 60 → (∀ x ∈ t, iJ x = true ∧ f.Close < x.Hour) → ∀ {n : Int}, isE (t.foldl dM l).players n = true → isE l.players n = true
 | [], _, _, _, _, _, _, h => h
 | x :: t, l, i, hg, hl, ht, n, h => by
  simp only [List.length_cons] at hl
  have hx := ht x (by simp)
  exact aOa (by rw [hg.fd]; exact hx.2) (aIf t (rM hg (by omega) hx.1) (by omega) (fun y hy => ht y (by simp [hy])) h)
theorem aGe {f : aY} : ∀ (t : List aM) {l : aO} {i : Nat}, iH f l i → i + t.length ≤ 60 → (∀ x ∈ t, iJ x = true ∧ f.Close < x.Hour) → ∀ {n : Int}, n ∈ dD l → isE (t.foldl dM l).players n = true → n ∈ dD (t.foldl dM l)
 | [], _, _, _, _, _, _, hn, _ => hn
 | x :: t, l, i, hg, hl, ht, n, hn, h => by
  simp only [List.length_cons] at hl
  have hx := ht x (by simp)
  have hg2 := rM hg (show i < 60 by omega) hx.1
  have ht2 : ∀ y ∈ t, iJ y = true ∧ f.Close < y.Hour := fun y hy => ht y (by simp [hy])
  rw [List.foldl_cons] at h ⊢
  exact aGe t hg2 (by omega) ht2 (aNh hg (by omega) hx.1 hx.2 hn (aIf t hg2 (by omega) ht2 h)) h
theorem aGd {f : aY} : ∀ (t : List aM) {l : aO} {i : Nat}, iH f l i → i + t.length ≤ 60 → (∀ x ∈ t, iJ x = true) → iH f (t.foldl dM l) (i + t.length)
 | [], _, _, hg, _, _ => hg
 | x :: t, l, i, hg, hl, ht => by
  simp only [List.length_cons] at hl ⊢
  rw [List.foldl_cons, show i + (t.length + 1) = i + 1 + t.length by omega]
  exact aGd t (rM hg (by omega) (ht x (by simp))) (by omega) fun y hy => ht y (by simp [hy])
def MS (l : aO) : Prop := ∀ n ∈ dD l, isE l.players n = true
theorem aLe {l : aO} {n : Int} (h : n ∈ kB l) : isE l.players n = true := by
 unfold kB at h
 rcases aIk l _ _ h with h | h
 ·simp at h
 ·exact mF.1 h
theorem aCe {l : aO} (h : l.frozen = false) : MS l := fun n hn => by
 unfold dD at hn
 rw [h, cond_false] at hn
 exact aLe hn
theorem aFw (l : aO) (first : List Int) : ∀ (k : Nat) (late : List Int), (∀ n ∈ late, isE l.players n = true) → ∀ n ∈ jQ l first k late, isE l.players n = true
 | 0, _, h => h
 | k + 1, late, h => by
  rw [jQ]
  cases decide (((first ++ late).length : Int) < plc l) with
  | false => exact h
  | true =>
   rw [cond_true]
   split
   ·exact h
   ·rename_i m hm
    refine aFw l first k _ fun n hn => ?_
    rcases List.mem_append.1 hn with hn | hn
    ·exact h n hn
    ·rw [List.mem_singleton.1 hn]; exact mF.1 (List.mem_of_find?_eq_some hm)
theorem aPn {l : aO} (h : l.frozen = true) : MS (lT l) := fun n hn => by
 unfold dD at hn
 rw [show (lT l).frozen = true from h, cond_true] at hn
 show isE l.players n = true
 rcases List.mem_append.1 hn with hn | hn
 ·exact (List.mem_filter.1 hn).2
 ·exact aFw l _ 100 _ (fun m hm => (List.mem_filter.1 hm).2) n hn
theorem aKa (l : aO) (x : aM) : MS (dM l x) := by
 unfold dM
 simp only
 cases hz : (bH (bif decide (l.Field.Freeze < x.Hour) then dY l else l) x).frozen with
 | true => exact aPn hz
 | false => exact aCe hz
theorem aEt : ∀ (t : List aM) {l : aO}, MS l → MS (t.foldl dM l)
 | [], _, h => h
 | x :: t, l, _ => aEt t (aKa l x)
def WH (l : aO) : Prop := ∀ n, (n ∈ l.wilds → (pl l n).had = true) ∧ ((pl l n).had = true → n ∈ l.wilds ∨ (pl l n).quit = true)
theorem aHd {l l2 : aO} (h : WH l) (hp : l2.players = l.players) (hw : l2.wilds = l.wilds) : WH l2 := fun n => by
 have := h n
 unfold pl at this ⊢
 rw [hp, hw]; exact this
end Go.Am
end
section
namespace Go.Am
theorem aKb {l : aO} {x : aM} (h : WH l) : WH (bH l x) := by
 intro n
 have hn := h n
 rw [mE]
 unfold bH upP
 simp only
 by_cases e : n = x.Player
 ·subst e
  rw [decide_eq_true rfl, cond_true]
  cases decide (x.Kind = 1) || decide (x.Kind = 2) with
  | true => simp only [cond_true]; cases decide (x.Hour ≤ l.Field.Close) && !(pl l x.Player).entered <;> exact hn
  | false =>
   simp only [cond_false]
   cases decide (x.Kind = 3) with
   | true =>
    simp only [cond_true]
    cases ((decide (x.Hour ≤ l.Field.Freeze) && !(pl l x.Player).wild) && !(pl l x.Player).quit) && decide ((l.wilds.length : Int) < l.Field.Wilds) with
    | false => exact hn
    | true => exact ⟨fun _ => rfl, fun _ => .inl (by simp)⟩
   | false =>
    simp only [cond_false]
    cases decide (x.Kind = 4) with
    | true => exact ⟨fun hm => absurd (List.mem_filter.1 hm).2 (by simp), fun _ => .inr rfl⟩
    | false => simp only [cond_false]; cases decide (x.Kind = 5) <;> exact hn
 ·rw [decide_eq_false e, cond_false]
  cases decide (x.Kind = 1) || decide (x.Kind = 2) with
  | true => simp only [cond_true]; cases decide (x.Hour ≤ l.Field.Close) && !(pl l x.Player).entered <;> exact hn
  | false =>
   simp only [cond_false]
   cases decide (x.Kind = 3) with
   | true =>
    simp only [cond_true]
    cases ((decide (x.Hour ≤ l.Field.Freeze) && !(pl l x.Player).wild) && !(pl l x.Player).quit) && decide ((l.wilds.length : Int) < l.Field.Wilds) with
    | false => exact hn
    | true =>
     have e2 : n ∈ l.wilds ++ [x.Player] ↔ n ∈ l.wilds := by simp [e]
     exact ⟨fun hm => hn.1 (e2.1 hm), fun hh => (hn.2 hh).imp e2.2 id⟩
   | false =>
    simp only [cond_false]
    cases decide (x.Kind = 4) with
    | true =>
     have e2 : n ∈ (l.wilds.filter fun m => !decide (m = x.Player)) ↔ n ∈ l.wilds := by simp [e]
     exact ⟨fun hm => hn.1 (e2.1 hm), fun hh => (hn.2 hh).imp e2.2 id⟩
    | false => simp only [cond_false]; cases decide (x.Kind = 5) <;> exact hn
theorem aPq {l : aO} {x : aM} (h : WH l) : WH (dM l x) := by
 have h1 : WH (bif decide (l.Field.Freeze < x.Hour) then dY l else l) := by
  cases decide (l.Field.Freeze < x.Hour) with
  | false => exact h
  | true => exact aHd h (gZ l).1 (gZ l).2.2.1
 unfold dM
 simp only
 cases (bH (bif decide (l.Field.Freeze < x.Hour) then dY l else l) x).frozen with
 | false => exact aKb h1
 | true => exact aHd (aKb h1) rfl rfl
theorem aEu : ∀ (t : List aM) {l : aO}, WH l → WH (t.foldl dM l)
 | [], _, h => h
 | x :: t, _, h => aEu t (aPq h)
theorem aPp (f : aY) : WH (gO f) := fun n => ⟨fun h => by simp [gO] at h, fun h => by simp [pl, gO, aK, zP] at h⟩
theorem aQp (l : aO) (x : aM) : (upP l x).quit = true ↔ (pl l x.Player).quit = true ∨ x.Kind = 4 := by
 unfold upP
 simp only
 by_cases h4 : x.Kind = 4
 ·simp [h4]
 ·simp only [h4, decide_false, cond_false, or_false]
  cases decide (x.Kind = 1) || decide (x.Kind = 2) with
  | true => simp only [cond_true]; cases decide (x.Hour ≤ l.Field.Close) && !(pl l x.Player).entered <;> exact Iff.rfl
  | false =>
   simp only [cond_false]
   cases decide (x.Kind = 3) with
   | true => simp only [cond_true]; cases ((decide (x.Hour ≤ l.Field.Freeze) && !(pl l x.Player).wild) && !(pl l x.Player).quit) && decide ((l.wilds.length : Int) < l.Field.Wilds) <;> exact Iff.rfl
   | false => simp only [cond_false]; cases decide (x.Kind = 5) <;> exact Iff.rfl
theorem aMy (l : aO) (x : aM) (n : Int) : (pl (dM l x) n).quit = true ↔ (pl l n).quit = true ∨ (x.Kind = 4 ∧ x.Player = n) := by
 have e : pl (dM l x) n = pl (bH l x) n := by unfold pl; rw [rN]
 rw [e, mE]
 by_cases h : n = x.Player
 ·subst h; rw [decide_eq_true rfl, cond_true, aQp]; simp
 ·rw [decide_eq_false h, cond_false]
  exact ⟨.inl, fun hh => hh.elim id fun hh => absurd hh.2.symm h⟩
theorem aGl : ∀ (t : List aM) (l : aO) (n : Int), (pl (t.foldl dM l) n).quit = true ↔ (pl l n).quit = true ∨ ∃ x ∈ t, x.Kind = 4 ∧ x.Player = n
 | [], _, _ => by simp
 | x :: t, l, n => by
  rw [List.foldl_cons, aGl t, aMy]
  simp only [List.mem_cons, exists_eq_or_imp, or_assoc]
theorem aHr {f : aY} {l : aO} {i : Nat} (h : iH f l i) (hour : Int) : dD (tU hour l) = dD l ∧ (tU hour l).wilds = l.wilds ∧ (tU hour l).players = l.players := by
 unfold tU
 cases decide (l.Field.Freeze < hour) with
 | false => exact ⟨rfl, rfl, rfl⟩
 | true => exact ⟨kD h, (gZ l).2.2.1, (gZ l).1⟩
theorem aHt {f : aY} : ∀ (t : List aM) {l : aO} {i : Nat}, iH f l i → i + t.length ≤ 60 → (∀ x ∈ t, iJ x = true ∧ f.Close < x.Hour) → ∀ n, (pl (t.foldl dM l) n).entered = (pl l n).entered
 | [], _, _, _, _, _, _ => rfl
 | x :: t, l, i, hg, hl, ht, n => by
  simp only [List.length_cons] at hl
  have hx := ht x (by simp)
  rw [List.foldl_cons, aHt t (rM hg (by omega) hx.1) (by omega) (fun y hy => ht y (by simp [hy])) n]
  have e : pl (dM l x) n = pl (bH l x) n := by unfold pl; rw [rN]
  rw [e]
  exact (rO (by rw [hg.fd]; exact hx.2) n).1.1
theorem aDt {T : List aM} (hs : T.Pairwise fun x y => dH x < dH y) (hb : ∀ x ∈ T, bN x) {a b : Int} (hab : a ≤ b) : (T.filter fun x => decide (x.Hour ≤ b)) = (T.filter fun x => decide (x.Hour ≤ a)) ++ T.filter fun x => decide (a < x.Hour) && decide (x.Hour ≤ b) := by
 refine mJ (key := dH) (hs.filter _) (List.pairwise_append.2 ⟨hs.filter _, hs.filter _, fun x hx y hy => ?_⟩) fun x => ?_
 ·have hx2 := List.mem_filter.1 hx
  have hy2 := List.mem_filter.1 hy
  simp only [decide_eq_true_eq, Bool.and_eq_true] at hx2 hy2
  have b1 := hb x hx2.1
  have b2 := hb y hy2.1
  unfold bN at b1 b2
  unfold dH
  omega
 ·simp only [List.mem_append, List.mem_filter, decide_eq_true_eq, Bool.and_eq_true]
  constructor
  ·intro h
   by_cases ha : x.Hour ≤ a
   ·exact .inl ⟨h.1, ha⟩
   ·exact .inr ⟨h.1, by omega, h.2⟩
  ·rintro (h | h)
   ·exact ⟨h.1, by omega⟩
   ·exact ⟨h.1, h.2.2⟩
theorem aJz (f : aY) : MS (gO f) := aCe rfl
theorem stays {f : aY} {l : List aM} (h : VL f l) {a b : Int} (ha : f.Close ≤ a) (hab : a ≤ b) {n : Int} (hn : n ∈ dD (fT f l a)) : n ∈ dD (fT f l b) ↔ ¬ (n ∈ (fT f l b).wilds ∨ ∃ x ∈ l, x.Player = n ∧ x.Kind = 4 ∧ a < x.Hour ∧ x.Hour ≤ b) := by
 have hb : ∀ x ∈ l, bN x := fun x hx => aBp (h.nt x hx)
 have hT := wE l
 have hlen := h.len
 have hs := sL hb h.id
 have hbT : ∀ x ∈ gK l, bN x := fun x hx => hb x ((mS x).1 hx)
 have good : ∀ k, ∃ j, j ≤ 60 ∧ iH f (qQ k (gO f) (gK l)) j := fun k => zQ k (gK l) (gO f) 0 (oG h.fd) (by omega) fun x hx => h.nt x ((mS x).1 hx)
 obtain ⟨_, _, ga⟩ := good a
 obtain ⟨_, _, gb⟩ := good b
 have ea := aHr ga a
 have eb := aHr gb b
 unfold fT at hn ⊢
 rw [ea.1] at hn
 rw [eb.1, eb.2.1]
 rw [aDe a _ _ hs hbT] at hn
 rw [aDe b _ _ hs hbT, aDt hs hbT hab, List.foldl_append]
 have hla : ((gK l).filter fun x => decide (x.Hour ≤ a)).length + ((gK l).filter fun x => decide (a < x.Hour) && decide (x.Hour ≤ b)).length ≤ 60 := by
  rw [← List.length_append, ← aDt hs hbT hab]
  have := List.length_filter_le (fun x : aM => decide (x.Hour ≤ b)) (gK l)
  omega
 have ok : ∀ x ∈ gK l, iJ x = true := fun x hx => h.nt x ((mS x).1 hx)
 have g1 := aGd ((gK l).filter fun x => decide (x.Hour ≤ a)) (oG h.fd) (by omega) fun x hx => ok x (List.mem_filter.1 hx).1
 have m1 := aEt ((gK l).filter fun x => decide (x.Hour ≤ a)) (aJz f)
 have w1 := aEu ((gK l).filter fun x => decide (x.Hour ≤ a)) (aPp f)
 generalize ((gK l).filter fun x => decide (x.Hour ≤ a)).foldl dM (gO f) = l1 at hn g1 m1 w1 ⊢
 have hmid : ∀ x ∈ (gK l).filter fun x => decide (a < x.Hour) && decide (x.Hour ≤ b), iJ x = true ∧ f.Close < x.Hour := fun x hx => by
  have := List.mem_filter.1 hx
  simp only [Bool.and_eq_true, decide_eq_true_eq] at this
  exact ⟨ok x this.1, by omega⟩
 have memM : ∀ x, x ∈ ((gK l).filter fun x => decide (a < x.Hour) && decide (x.Hour ≤ b)) ↔ x ∈ l ∧ a < x.Hour ∧ x.Hour ≤ b := fun x => by
  rw [List.mem_filter, mS, Bool.and_eq_true, decide_eq_true_eq, decide_eq_true_eq]
 generalize ((gK l).filter fun x => decide (a < x.Hour) && decide (x.Hour ≤ b)) = M at hla hmid memM ⊢
 have w2 := aEu M w1 n
 have m2 := aEt M m1 n
 have hq := aGl M l1 n
 have i1 := m1 n hn
 have he := aHt M g1 (by omega) hmid n
 have hs2 := aGe M g1 (by omega) hmid hn
 rw [wY] at m2 hs2 i1
 simp only [Bool.and_eq_true, Bool.not_eq_true'] at m2 hs2 i1
 have hqu : (∃ x ∈ l, x.Player = n ∧ x.Kind = 4 ∧ a < x.Hour ∧ x.Hour ≤ b) ↔ (pl (M.foldl dM l1) n).quit = true := by
  rw [hq]
  constructor
  ·rintro ⟨x, h1, h2, h3, h4, h5⟩
   exact .inr ⟨x, (memM x).2 ⟨h1, h4, h5⟩, h3, h2⟩
  ·rintro (h1 | ⟨x, h1, h3, h2⟩)
   ·rw [i1.1.2] at h1; cases h1
   ·have := (memM x).1 h1; exact ⟨x, this.1, h2, h3, this.2.1, this.2.2⟩
 rw [hqu]
 constructor
 ·intro hin hor
  have h2 := m2 hin
  rcases hor with hw | hqq
  ·rw [w2.1 hw] at h2; exact absurd h2.2 (by simp)
  ·rw [hqq] at h2; exact absurd h2.1.2 (by simp)
 ·intro hno
  refine hs2 ⟨⟨by rw [he]; exact i1.1.1, ?_⟩, ?_⟩
  ·cases hc : (pl (M.foldl dM l1) n).quit with
   | false => rfl
   | true => exact absurd (.inr hc) hno
  ·cases hc : (pl (M.foldl dM l1) n).had with
   | false => rfl
   | true => exact absurd (w2.2 hc) hno
end Go.Am
end
