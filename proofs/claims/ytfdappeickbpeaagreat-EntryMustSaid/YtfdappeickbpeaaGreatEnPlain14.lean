/- Plain laws, one behind the other. -/
import Derived.Test.YtfdappeickbpeaaGreatEntryFirstLaw
section
namespace Go.Am
def ug (l : aH) (xs : List Int) : Nat := (xs.filter fun n => !(pl l n).guard).length
theorem aNj (l : aH) : ∀ xs : List Int, ug l xs + gd l xs = xs.length
 | [] => rfl
 | n :: t => by
  have ih := aNj l t
  unfold ug gd at ih ⊢
  rw [List.filter_cons, List.filter_cons]
  cases (pl l n).guard <;> simp <;> omega
theorem aFe (l : aH) (xs : List Int) (n : Int) : ug l (xs ++ [n]) = ug l xs + (if (pl l n).guard then 0 else 1) := by
 unfold ug
 rw [List.filter_append, List.length_append, List.filter_cons]
 cases (pl l n).guard <;> simp
theorem wV (l : aH) (xs : List Int) (n : Int) : gd l (xs ++ [n]) = gd l xs + (if (pl l n).guard then 1 else 0) := by
 unfold gd
 rw [List.filter_append, List.length_append, List.filter_cons]
 cases (pl l n).guard <;> simp
def psn (l : aH) (acc : List Int) (m : Int) : Bool := decide ((acc.length : Int) < plc l) && (!(pl l m).guard || decide (((gd l acc : Nat) : Int) < l.Field.Guards))
theorem xS (l : aH) (acc : List Int) (m : Int) (t : List Int) : qF l acc (m :: t) = qF l (bif psn l acc m then acc ++ [m] else acc) t := rfl
theorem yQ {l : aH} {acc : List Int} {m : Int} : psn l acc m = true ↔ (acc.length : Int) < plc l ∧ ((pl l m).guard = true → ((gd l acc : Nat) : Int) < l.Field.Guards) := by
 unfold psn
 cases (pl l m).guard <;> simp
theorem wE (l l2 : aH) (p : Int → Bool) (hplc : plc l ≤ plc l2) (hG : l2.Field.Guards = l.Field.Guards) {n : Int} (hn : p n = true) : ∀ (t acc acc2 : List Int), (∀ m ∈ t, p m = true → (pl l2 m).guard = (pl l m).guard) → (plc l ≤ acc.length ∨ (ug l2 acc2 ≤ ug l acc ∧ gd l2 acc2 ≤ gd l acc)) → (n ∈ acc → n ∈ acc2) → n ∈ qF l acc t → n ∈ qF l2 acc2 (t.filter p)
 | [], _, _, _, _, h, hm => h hm
 | m :: t, acc, acc2, hg, hI, h, hm => by
  have hg2 : ∀ m ∈ t, p m = true → (pl l2 m).guard = (pl l m).guard := fun k hk => hg k (by simp [hk])
  have e1 := aNj l acc
  have e2 := aNj l2 acc2
  rw [xS] at hm
  by_cases hp : p m = true
  ·rw [List.filter_cons_of_pos hp, xS]
   have hgm := hg m (by simp) hp
   cases hc : psn l acc m with
   | true =>
    rw [hc, cond_true] at hm
    have c1 := yQ.1 hc
    have hI2 : ug l2 acc2 ≤ ug l acc ∧ gd l2 acc2 ≤ gd l acc := by
     rcases hI with hI | hI
     ·omega
     ·exact hI
    have hc2 : psn l2 acc2 m = true := yQ.2 ⟨by omega, fun hgu => by
     have := c1.2 (by rw [← hgm]; exact hgu)
     rw [hG]; omega⟩
    rw [hc2, cond_true]
    refine wE l l2 p hplc hG hn t _ _ hg2 (.inr ?_) (fun hh => ?_) hm
    ·rw [aFe, aFe, wV, wV, hgm]
     omega
    ·rcases List.mem_append.1 hh with hh | hh
     ·exact List.mem_append.2 (.inl (h hh))
     ·exact List.mem_append.2 (.inr hh)
   | false =>
    rw [hc, cond_false] at hm
    cases hc2 : psn l2 acc2 m with
    | false => rw [cond_false]; exact wE l l2 p hplc hG hn t _ _ hg2 hI h hm
    | true =>
     rw [cond_true]
     refine wE l l2 p hplc hG hn t _ _ hg2 ?_ (fun hh => List.mem_append.2 (.inl (h hh))) hm
     have c2 := yQ.1 hc2
     rcases hI with hI | hI
     ·exact .inl hI
     ·by_cases hf : plc l ≤ acc.length
      ·exact .inl hf
      ·right
       have hgu : (pl l m).guard = true ∧ l.Field.Guards ≤ ((gd l acc : Nat) : Int) := by
        refine Classical.byContradiction fun hne => ?_
        have : psn l acc m = true := yQ.2 ⟨by omega, fun hgu => by
         refine Classical.byContradiction fun hlt => hne ⟨hgu, by omega⟩⟩
        rw [this] at hc
        exact absurd hc (by simp)
       have c3 := c2.2 (by rw [hgm]; exact hgu.1)
       rw [hG] at c3
       rw [aFe, wV, hgm, hgu.1]
       simp only [if_true]
       omega
  ·rw [List.filter_cons_of_neg hp]
   have hnm : n ≠ m := fun e => hp (by rw [← e]; exact hn)
   cases hc : psn l acc m with
   | false => rw [hc, cond_false] at hm; exact wE l l2 p hplc hG hn t _ _ hg2 hI h hm
   | true =>
    rw [hc, cond_true] at hm
    refine wE l l2 p hplc hG hn t _ _ hg2 ?_ (fun hh => ?_) hm
    ·rcases hI with hI | hI
     ·exact .inl (by rw [List.length_append]; simp; omega)
     ·right
      rw [aFe, wV]
      omega
    ·rcases List.mem_append.1 hh with hh | hh
     ·exact h hh
     ·exact absurd (List.mem_singleton.1 hh) hnm
end Go.Am
end
section
namespace Go.Am
theorem aTx {l : aH} {x : aG} (hx : l.Field.Close < x.Hour) : ((upP l x).entered = (pl l x.Player).entered ∧ (upP l x).guard = (pl l x.Player).guard ∧ (upP l x).rank = (pl l x.Player).rank ∧ (upP l x).turn = (pl l x.Player).turn) ∧ ((pl l x.Player).quit = true → (upP l x).quit = true) ∧ ((pl l x.Player).had = true → (upP l x).had = true) := by
 unfold upP
 simp only [show decide (x.Hour ≤ l.Field.Close) = false from decide_eq_false (by omega), Bool.false_and, cond_false]
 cases decide (x.Kind = 1) || decide (x.Kind = 2) with
 | true => simp
 | false =>
  simp only [cond_false]
  cases decide (x.Kind = 3) with
  | true => simp only [cond_true]; cases ((decide (x.Hour ≤ l.Field.Freeze) && !(pl l x.Player).wild) && !(pl l x.Player).quit) && decide ((l.wilds.length : Int) < l.Field.Wilds) <;> simp
  | false =>
   simp only [cond_false]
   cases decide (x.Kind = 4) with
   | true => simp
   | false => simp only [cond_false]; cases decide (x.Kind = 5) <;> simp
theorem rF {l : aH} {x : aG} (hx : l.Field.Close < x.Hour) (n : Int) : ((pl (bC l x) n).entered = (pl l n).entered ∧ (pl (bC l x) n).guard = (pl l n).guard ∧ (pl (bC l x) n).rank = (pl l n).rank ∧ (pl (bC l x) n).turn = (pl l n).turn) ∧ ((pl l n).quit = true → (pl (bC l x) n).quit = true) ∧ ((pl l n).had = true → (pl (bC l x) n).had = true) := by
 rw [lX]
 by_cases h : n = x.Player
 ·subst h; rw [decide_eq_true rfl, cond_true]; exact aTx hx
 ·rw [decide_eq_false h, cond_false]; exact ⟨⟨rfl, rfl, rfl, rfl⟩, fun h => h, fun h => h⟩
theorem aIy {l : aH} {x : aG} (hx : l.Field.Close < x.Hour) {n : Int} (h : isE (bC l x).players n = true) : isE l.players n = true := by
 have ht := rF hx n
 rw [qU] at h ⊢
 rw [ht.1.1] at h
 simp only [Bool.and_eq_true, Bool.not_eq_true'] at h ⊢
 refine ⟨⟨h.1.1, ?_⟩, ?_⟩
 ·cases hq : (pl l n).quit with
  | false => rfl
  | true => rw [ht.2.1 hq] at h; exact absurd h.1.2 (by simp)
 ·cases hq : (pl l n).had with
  | false => rfl
  | true => rw [ht.2.2 hq] at h; exact absurd h.2 (by simp)
theorem aOg {l : aH} {x : aG} (h : WF l) (h2 : WF (bC l x)) (hx : l.Field.Close < x.Hour) : bF (bC l x) = (bF l).filter fun n => isE (bC l x).players n := by
 refine jN (key := dQ (bC l x)) (nW h2) (((nW h).filter _).imp fun {a b} hab => ?_) fun n => ?_
 ·unfold dQ at hab ⊢
  rw [(rF hx a).1.2.2.1, (rF hx a).1.2.2.2, (rF hx b).1.2.2.1, (rF hx b).1.2.2.2]
  exact hab
 ·rw [gF, List.mem_filter, gF]
  exact ⟨fun hn => ⟨aIy hx hn, hn⟩, fun hn => hn.2⟩
theorem aGl (l : aH) (first : List Int) : ∀ (k : Nat) (late : List Int) {n : Int}, n ∈ late → n ∈ fT l first k late
 | 0, _, _, h => h
 | k + 1, late, n, h => by
  rw [fT]
  cases decide (((first ++ late).length : Int) < plc l) with
  | false => exact h
  | true =>
   rw [cond_true]
   split
   ·exact h
   ·exact aGl l first k _ (by simp [h])
theorem eJ (l : aH) : (cC l).players = l.players ∧ (cC l).Field = l.Field ∧ (cC l).wilds = l.wilds ∧ (cC l).more = l.more := by
 unfold cC
 cases l.frozen <;> exact ⟨rfl, rfl, rfl, rfl⟩
theorem kD {f : aP} {l : aH} {i : Nat} (h : eQ f l i) : aW (cC l) = aW l := by
 unfold cC
 cases hz : l.frozen with
 | true => rfl
 | false =>
  simp only [cond_false]
  unfold aW
  simp only [hz, cond_true, cond_false, (h.fz hz).2, List.append_nil]
theorem aPp {f : aP} {l : aH} {x : aG} {i : Nat} (h : eQ f l i) (hi : i < 60) (hx : eZ x = true) (hc : f.Close < x.Hour) {n : Int} (hn : n ∈ aW l) (he : isE (bJ l x).players n = true) : n ∈ aW (bJ l x) := by
 obtain ⟨l1, h1, hm1, hp1, e1⟩ : ∃ l1, eQ f l1 i ∧ n ∈ aW l1 ∧ l1.players = l.players ∧ (bif decide (l.Field.Freeze < x.Hour) then cC l else l) = l1 := by
  refine ⟨_, ?_, ?_, ?_, rfl⟩ <;> cases decide (l.Field.Freeze < x.Hour)
  ·exact h
  ·exact lK h
  ·exact hn
  ·rw [cond_true, kD h]; exact hn
  ·rfl
  ·exact (eJ l).1
 unfold bJ at he ⊢
 rw [e1] at he ⊢
 have hc1 : l1.Field.Close < x.Hour := by rw [h1.fd]; exact hc
 have h2 := rE h1 hi hx
 have ht := jO l1 x
 simp only at he ⊢
 cases hz : l1.frozen with
 | false =>
  rw [ht.2.1, hz, cond_false] at he ⊢
  unfold aW at hm1 ⊢
  rw [hz, cond_false] at hm1
  rw [ht.2.1, hz, cond_false]
  unfold kA at hm1 ⊢
  rw [aOg h1.wf h2.wf hc1]
  refine wE l1 (bC l1 x) (fun n => isE (bC l1 x).players n) ?_ ?_ he (bF l1) [] [] (fun m _ _ => (rF hc1 m).1.2.1) (.inr ⟨Nat.le_refl _, Nat.le_refl _⟩) (fun h => h) hm1
  ·unfold plc
   rw [ht.1]
   have := (aBr l1 x).1.1
   omega
  ·rw [ht.1]
 | true =>
  rw [ht.2.1, hz, cond_true] at he ⊢
  have hz2 : (jL (bC l1 x)).frozen = true := by show (bC l1 x).frozen = true; rw [ht.2.1, hz]
  have he2 : isE (bC l1 x).players n = true := he
  unfold aW at hm1 ⊢
  rw [hz2, cond_true]
  rw [hz, cond_true] at hm1
  show n ∈ ((bC l1 x).first.filter fun n => isE (bC l1 x).players n) ++ fT (bC l1 x) _ 100 ((bC l1 x).late.filter fun n => isE (bC l1 x).players n)
  rw [ht.2.2.1, ht.2.2.2]
  rcases List.mem_append.1 hm1 with hm | hm
  ·exact List.mem_append.2 (.inl (List.mem_filter.2 ⟨hm, he2⟩))
  ·exact List.mem_append.2 (.inr (aGl _ _ _ _ (List.mem_filter.2 ⟨hm, he2⟩)))
theorem rD (l : aH) (x : aG) : (bJ l x).players = (bC l x).players := by
 have e : ∀ l1 : aH, (bif (bC l1 x).frozen then jL (bC l1 x) else bC l1 x).players = (bC l1 x).players := fun l1 => by
  cases (bC l1 x).frozen <;> rfl
 unfold bJ
 simp only
 rw [e, rG, rG]
 cases decide (l.Field.Freeze < x.Hour) with
 | false => rfl
 | true =>
  rw [cond_true]
  unfold cC
  cases l.frozen <;> rfl
end Go.Am
end
section
namespace Go.Am
theorem aQn {l : aH} {x : aG} (hx : l.Field.Close < x.Hour) {n : Int} (h : isE (bJ l x).players n = true) : isE l.players n = true := by
 rw [rD] at h; exact aIy hx h
theorem aIx {f : aP} : ∀ (t : List aG) {l : aH} {i : Nat}, eQ f l i → i + t.length ≤ 60 → (∀ x ∈ t, eZ x = true ∧ f.Close < x.Hour) → ∀ {n : Int}, isE (t.foldl bJ l).players n = true → isE l.players n = true
 | [], _, _, _, _, _, _, h => h
 | x :: t, l, i, hg, hl, ht, n, h => by
  simp only [List.length_cons] at hl
  have hx := ht x (by simp)
  exact aQn (by rw [hg.fd]; exact hx.2) (aIx t (kT hg (by omega) hx.1) (by omega) (fun y hy => ht y (by simp [hy])) h)
theorem aGw {f : aP} : ∀ (t : List aG) {l : aH} {i : Nat}, eQ f l i → i + t.length ≤ 60 → (∀ x ∈ t, eZ x = true ∧ f.Close < x.Hour) → ∀ {n : Int}, n ∈ aW l → isE (t.foldl bJ l).players n = true → n ∈ aW (t.foldl bJ l)
 | [], _, _, _, _, _, _, hn, _ => hn
 | x :: t, l, i, hg, hl, ht, n, hn, h => by
  simp only [List.length_cons] at hl
  have hx := ht x (by simp)
  have hg2 := kT hg (show i < 60 by omega) hx.1
  have ht2 : ∀ y ∈ t, eZ y = true ∧ f.Close < y.Hour := fun y hy => ht y (by simp [hy])
  rw [List.foldl_cons] at h ⊢
  exact aGw t hg2 (by omega) ht2 (aPp hg (by omega) hx.1 hx.2 hn (aIx t hg2 (by omega) ht2 h)) h
theorem aAu {f : aP} : ∀ (t : List aG) {l : aH} {i : Nat}, eQ f l i → i + t.length ≤ 60 → (∀ x ∈ t, eZ x = true) → eQ f (t.foldl bJ l) (i + t.length)
 | [], _, _, hg, _, _ => hg
 | x :: t, l, i, hg, hl, ht => by
  simp only [List.length_cons] at hl ⊢
  rw [List.foldl_cons, show i + (t.length + 1) = i + 1 + t.length by omega]
  exact aAu t (kT hg (by omega) (ht x (by simp))) (by omega) fun y hy => ht y (by simp [hy])
def MS (l : aH) : Prop := ∀ n ∈ aW l, isE l.players n = true
theorem aMt {l : aH} {n : Int} (h : n ∈ kA l) : isE l.players n = true := by
 unfold kA at h
 rcases aJd l _ _ h with h | h
 ·simp at h
 ·exact gF.1 h
theorem aCl {l : aH} (h : l.frozen = false) : MS l := fun n hn => by
 unfold aW at hn
 rw [h, cond_false] at hn
 exact aMt hn
theorem aGn (l : aH) (first : List Int) : ∀ (k : Nat) (late : List Int), (∀ n ∈ late, isE l.players n = true) → ∀ n ∈ fT l first k late, isE l.players n = true
 | 0, _, h => h
 | k + 1, late, h => by
  rw [fT]
  cases decide (((first ++ late).length : Int) < plc l) with
  | false => exact h
  | true =>
   rw [cond_true]
   split
   ·exact h
   ·rename_i m hm
    refine aGn l first k _ fun n hn => ?_
    rcases List.mem_append.1 hn with hn | hn
    ·exact h n hn
    ·rw [List.mem_singleton.1 hn]; exact gF.1 (List.mem_of_find?_eq_some hm)
theorem aSf {l : aH} (h : l.frozen = true) : MS (jL l) := fun n hn => by
 unfold aW at hn
 rw [show (jL l).frozen = true from h, cond_true] at hn
 show isE l.players n = true
 rcases List.mem_append.1 hn with hn | hn
 ·exact (List.mem_filter.1 hn).2
 ·exact aGn l _ 100 _ (fun m hm => (List.mem_filter.1 hm).2) n hn
theorem aFg (l : aH) (x : aG) : MS (bJ l x) := by
 unfold bJ
 simp only
 cases hz : (bC (bif decide (l.Field.Freeze < x.Hour) then cC l else l) x).frozen with
 | true => exact aSf hz
 | false => exact aCl hz
theorem aBu : ∀ (t : List aG) {l : aH}, MS l → MS (t.foldl bJ l)
 | [], _, h => h
 | x :: t, l, _ => aBu t (aFg l x)
def WH (l : aH) : Prop := ∀ n, (n ∈ l.wilds → (pl l n).had = true) ∧ ((pl l n).had = true → n ∈ l.wilds ∨ (pl l n).quit = true)
theorem aDa {l l2 : aH} (h : WH l) (hp : l2.players = l.players) (hw : l2.wilds = l.wilds) : WH l2 := fun n => by
 have := h n
 unfold pl at this ⊢
 rw [hp, hw]; exact this
end Go.Am
end
section
namespace Go.Am
theorem aLd {l : aH} {x : aG} (h : WH l) : WH (bC l x) := by
 intro n
 have hn := h n
 rw [lX]
 unfold bC upP
 simp only
 by_cases e : n = x.Player
 ·subst e
  rw [decide_eq_true rfl, cond_true]
  cases decide (x.Kind = 1) || decide (x.Kind = 2) with
  | true => simp only [cond_true]; cases decide (x.Hour ≤ l.Field.Close) && !(pl l x.Player).entered <;> exact hn
  | false =>
   simp only [cond_false]
   cases decide (x.Kind = 3) with
   | true =>
    simp only [cond_true]
    cases ((decide (x.Hour ≤ l.Field.Freeze) && !(pl l x.Player).wild) && !(pl l x.Player).quit) && decide ((l.wilds.length : Int) < l.Field.Wilds) with
    | false => exact hn
    | true => exact ⟨fun _ => rfl, fun _ => .inl (by simp)⟩
   | false =>
    simp only [cond_false]
    cases decide (x.Kind = 4) with
    | true => exact ⟨fun hm => absurd (List.mem_filter.1 hm).2 (by simp), fun _ => .inr rfl⟩
    | false => simp only [cond_false]; cases decide (x.Kind = 5) <;> exact hn
 ·rw [decide_eq_false e, cond_false]
  cases decide (x.Kind = 1) || decide (x.Kind = 2) with
  | true => simp only [cond_true]; cases decide (x.Hour ≤ l.Field.Close) && !(pl l x.Player).entered <;> exact hn
  | false =>
   simp only [cond_false]
   cases decide (x.Kind = 3) with
   | true =>
    simp only [cond_true]
    cases ((decide (x.Hour ≤ l.Field.Freeze) && !(pl l x.Player).wild) && !(pl l x.Player).quit) && decide ((l.wilds.length : Int) < l.Field.Wilds) with
    | false => exact hn
    | true =>
     have e2 : n ∈ l.wilds ++ [x.Player] ↔ n ∈ l.wilds := by simp [e]
     exact ⟨fun hm => hn.1 (e2.1 hm), fun hh => (hn.2 hh).imp e2.2 id⟩
   | false =>
    simp only [cond_false]
    cases decide (x.Kind = 4) with
    | true =>
     have e2 : n ∈ (l.wilds.filter fun m => !decide (m = x.Player)) ↔ n ∈ l.wilds := by simp [e]
     exact ⟨fun hm => hn.1 (e2.1 hm), fun hh => (hn.2 hh).imp e2.2 id⟩
    | false => simp only [cond_false]; cases decide (x.Kind = 5) <;> exact hn
theorem aSj {l : aH} {x : aG} (h : WH l) : WH (bJ l x) := by
 have h1 : WH (bif decide (l.Field.Freeze < x.Hour) then cC l else l) := by
  cases decide (l.Field.Freeze < x.Hour) with
  | false => exact h
  | true => exact aDa h (eJ l).1 (eJ l).2.2.1
 unfold bJ
 simp only
 cases (bC (bif decide (l.Field.Freeze < x.Hour) then cC l else l) x).frozen with
 | false => exact aLd h1
 | true => exact aDa (aLd h1) rfl rfl
theorem aBw : ∀ (t : List aG) {l : aH}, WH l → WH (t.foldl bJ l)
 | [], _, h => h
 | x :: t, _, h => aBw t (aSj h)
theorem aLc (f : aP) : WH (dB f) := fun n => ⟨fun h => by simp [dB] at h, fun h => by simp [pl, dB, aE, zP] at h⟩
theorem aLw (l : aH) (x : aG) : (upP l x).quit = true ↔ (pl l x.Player).quit = true ∨ x.Kind = 4 := by
 unfold upP
 simp only
 by_cases h4 : x.Kind = 4
 ·simp [h4]
 ·simp only [h4, decide_false, cond_false, or_false]
  cases decide (x.Kind = 1) || decide (x.Kind = 2) with
  | true => simp only [cond_true]; cases decide (x.Hour ≤ l.Field.Close) && !(pl l x.Player).entered <;> exact Iff.rfl
  | false =>
   simp only [cond_false]
   cases decide (x.Kind = 3) with
   | true => simp only [cond_true]; cases ((decide (x.Hour ≤ l.Field.Freeze) && !(pl l x.Player).wild) && !(pl l x.Player).quit) && decide ((l.wilds.length : Int) < l.Field.Wilds) <;> exact Iff.rfl
   | false => simp only [cond_false]; cases decide (x.Kind = 5) <;> exact Iff.rfl
theorem aPd (l : aH) (x : aG) (n : Int) : (pl (bJ l x) n).quit = true ↔ (pl l n).quit = true ∨ (x.Kind = 4 ∧ x.Player = n) := by
 have e : pl (bJ l x) n = pl (bC l x) n := by unfold pl; rw [rD]
 rw [e, lX]
 by_cases h : n = x.Player
 ·subst h; rw [decide_eq_true rfl, cond_true, aLw]; simp
 ·rw [decide_eq_false h, cond_false]
  exact ⟨.inl, fun hh => hh.elim id fun hh => absurd hh.2.symm h⟩
theorem aBj : ∀ (t : List aG) (l : aH) (n : Int), (pl (t.foldl bJ l) n).quit = true ↔ (pl l n).quit = true ∨ ∃ x ∈ t, x.Kind = 4 ∧ x.Player = n
 | [], _, _ => by simp
 | x :: t, l, n => by
  rw [List.foldl_cons, aBj t, aPd]
  simp only [List.mem_cons, exists_eq_or_imp, or_assoc]
theorem yX {f : aP} {l : aH} {i : Nat} (h : eQ f l i) (hour : Int) : aW (kU hour l) = aW l ∧ (kU hour l).wilds = l.wilds ∧ (kU hour l).players = l.players := by
 unfold kU
 cases decide (l.Field.Freeze < hour) with
 | false => exact ⟨rfl, rfl, rfl⟩
 | true => exact ⟨kD h, (eJ l).2.2.1, (eJ l).1⟩
theorem aIk {f : aP} : ∀ (t : List aG) {l : aH} {i : Nat}, eQ f l i → i + t.length ≤ 60 → (∀ x ∈ t, eZ x = true ∧ f.Close < x.Hour) → ∀ n, (pl (t.foldl bJ l) n).entered = (pl l n).entered
 | [], _, _, _, _, _, _ => rfl
 | x :: t, l, i, hg, hl, ht, n => by
  simp only [List.length_cons] at hl
  have hx := ht x (by simp)
  rw [List.foldl_cons, aIk t (kT hg (by omega) hx.1) (by omega) (fun y hy => ht y (by simp [hy])) n]
  have e : pl (bJ l x) n = pl (bC l x) n := by unfold pl; rw [rD]
  rw [e]
  exact (rF (by rw [hg.fd]; exact hx.2) n).1.1
theorem aEd {T : List aG} (hs : T.Pairwise fun x y => cS x < cS y) (hb : ∀ x ∈ T, bN x) {a b : Int} (hab : a ≤ b) : (T.filter fun x => decide (x.Hour ≤ b)) = (T.filter fun x => decide (x.Hour ≤ a)) ++ T.filter fun x => decide (a < x.Hour) && decide (x.Hour ≤ b) := by
 refine jN (key := cS) (hs.filter _) (List.pairwise_append.2 ⟨hs.filter _, hs.filter _, fun x hx y hy => ?_⟩) fun x => ?_
 ·have hx2 := List.mem_filter.1 hx
  have hy2 := List.mem_filter.1 hy
  simp only [decide_eq_true_eq, Bool.and_eq_true] at hx2 hy2
  have b1 := hb x hx2.1
  have b2 := hb y hy2.1
  unfold bN at b1 b2
  unfold cS
  omega
 ·simp only [List.mem_append, List.mem_filter, decide_eq_true_eq, Bool.and_eq_true]
  constructor
  ·intro h
   by_cases ha : x.Hour ≤ a
   ·exact .inl ⟨h.1, ha⟩
   ·exact .inr ⟨h.1, by omega, h.2⟩
  ·rintro (h | h)
   ·exact ⟨h.1, by omega⟩
   ·exact ⟨h.1, h.2.2⟩
theorem aBv (f : aP) : MS (dB f) := aCl rfl
theorem stays {f : aP} {l : List aG} (h : VL f l) {a b : Int} (ha : f.Close ≤ a) (hab : a ≤ b) {n : Int} (hn : n ∈ aW (aZ f l a)) : n ∈ aW (aZ f l b) ↔ ¬ (n ∈ (aZ f l b).wilds ∨ ∃ x ∈ l, x.Player = n ∧ x.Kind = 4 ∧ a < x.Hour ∧ x.Hour ≤ b) := by
 have hb : ∀ x ∈ l, bN x := fun x hx => rI (h.nt x hx)
 have hT := nV l
 have hlen := h.len
 have hs := jP hb h.id
 have hbT : ∀ x ∈ cN l, bN x := fun x hx => hb x ((dR x).1 hx)
 have good : ∀ k, ∃ j, j ≤ 60 ∧ eQ f (nI k (dB f) (cN l)) j := fun k => sO k (cN l) (dB f) 0 (gX h.fd) (by omega) fun x hx => h.nt x ((dR x).1 hx)
 obtain ⟨_, _, ga⟩ := good a
 obtain ⟨_, _, gb⟩ := good b
 have ea := yX ga a
 have eb := yX gb b
 unfold aZ at hn ⊢
 rw [ea.1] at hn
 rw [eb.1, eb.2.1]
 rw [sN a _ _ hs hbT] at hn
 rw [sN b _ _ hs hbT, aEd hs hbT hab, List.foldl_append]
 have hla : ((cN l).filter fun x => decide (x.Hour ≤ a)).length + ((cN l).filter fun x => decide (a < x.Hour) && decide (x.Hour ≤ b)).length ≤ 60 := by
  rw [← List.length_append, ← aEd hs hbT hab]
  have := List.length_filter_le (fun x : aG => decide (x.Hour ≤ b)) (cN l)
  omega
 have ok : ∀ x ∈ cN l, eZ x = true := fun x hx => h.nt x ((dR x).1 hx)
 have g1 := aAu ((cN l).filter fun x => decide (x.Hour ≤ a)) (gX h.fd) (by omega) fun x hx => ok x (List.mem_filter.1 hx).1
 have m1 := aBu ((cN l).filter fun x => decide (x.Hour ≤ a)) (aBv f)
 have w1 := aBw ((cN l).filter fun x => decide (x.Hour ≤ a)) (aLc f)
 generalize ((cN l).filter fun x => decide (x.Hour ≤ a)).foldl bJ (dB f) = l1 at hn g1 m1 w1 ⊢
 have hmid : ∀ x ∈ (cN l).filter fun x => decide (a < x.Hour) && decide (x.Hour ≤ b), eZ x = true ∧ f.Close < x.Hour := fun x hx => by
  have := List.mem_filter.1 hx
  simp only [Bool.and_eq_true, decide_eq_true_eq] at this
  exact ⟨ok x this.1, by omega⟩
 have memM : ∀ x, x ∈ ((cN l).filter fun x => decide (a < x.Hour) && decide (x.Hour ≤ b)) ↔ x ∈ l ∧ a < x.Hour ∧ x.Hour ≤ b := fun x => by
  rw [List.mem_filter, dR, Bool.and_eq_true, decide_eq_true_eq, decide_eq_true_eq]
 generalize ((cN l).filter fun x => decide (a < x.Hour) && decide (x.Hour ≤ b)) = M at hla hmid memM ⊢
 have w2 := aBw M w1 n
 have m2 := aBu M m1 n
 have hq := aBj M l1 n
 have i1 := m1 n hn
 have he := aIk M g1 (by omega) hmid n
 have hs2 := aGw M g1 (by omega) hmid hn
 rw [qU] at m2 hs2 i1
 simp only [Bool.and_eq_true, Bool.not_eq_true'] at m2 hs2 i1
 have hqu : (∃ x ∈ l, x.Player = n ∧ x.Kind = 4 ∧ a < x.Hour ∧ x.Hour ≤ b) ↔ (pl (M.foldl bJ l1) n).quit = true := by
  rw [hq]
  constructor
  ·rintro ⟨x, h1, h2, h3, h4, h5⟩
   exact .inr ⟨x, (memM x).2 ⟨h1, h4, h5⟩, h3, h2⟩
  ·rintro (h1 | ⟨x, h1, h3, h2⟩)
   ·rw [i1.1.2] at h1; cases h1
   ·have := (memM x).1 h1; exact ⟨x, this.1, h2, h3, this.2.1, this.2.2⟩
 rw [hqu]
 constructor
 ·intro hin hor
  have h2 := m2 hin
  rcases hor with hw | hqq
  ·rw [w2.1 hw] at h2; exact absurd h2.2 (by simp)
  ·rw [hqq] at h2; exact absurd h2.1.2 (by simp)
 ·intro hno
  refine hs2 ⟨⟨by rw [he]; exact i1.1.1, ?_⟩, ?_⟩
  ·cases hc : (pl (M.foldl bJ l1) n).quit with
   | false => rfl
   | true => exact absurd (.inr hc) hno
  ·cases hc : (pl (M.foldl bJ l1) n).had with
   | false => rfl
   | true => exact absurd (w2.2 hc) hno
end Go.Am
end
