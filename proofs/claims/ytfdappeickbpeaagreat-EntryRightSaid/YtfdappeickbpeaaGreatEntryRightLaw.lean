/- The theorem of the list, plainly. -/
import Derived.Test.YtfdappeickbpeaaGreatEntryPlacesLaw
namespace Go.Am

theorem xJ (l : aI) : ∀ (t acc : List Int), plc l ≤ (acc.length : Int) → kF l acc t = acc
  | [], _, _ => rfl
  | m :: t, acc, h => by
    have : psn l acc m = false := by
      unfold psn
      rw [decide_eq_false (by omega), Bool.false_and]
    rw [nY, this, cond_false]
    exact xJ l t acc h
theorem aBk (l : aI) : ∀ (t acc : List Int), gd l acc ≤ gd l (kF l acc t)
  | [], _ => Nat.le_refl _
  | m :: t, acc => by
    rw [nY]
    refine Nat.le_trans ?_ (aBk l t _)
    cases psn l acc m with
    | false => exact Nat.le_refl _
    | true => rw [cond_true, tN]; omega
theorem aJf {l : aI} {acc : List Int} {m : Int} (h : psn l acc m = false) : plc l ≤ (acc.length : Int) ∨ ((pl l m).guard = true ∧ l.Field.Guards ≤ ((gd l acc : Nat) : Int)) := by
  by_cases h1 : (acc.length : Int) < plc l
  · refine .inr ?_
    unfold psn at h
    rw [decide_eq_true h1, Bool.true_and, Bool.or_eq_false_iff, Bool.not_eq_false', decide_eq_false_iff_not] at h
    exact ⟨h.1, by omega⟩
  · exact .inl (by omega)
/-- Who is left out by the list: there is no place, or none for one who is protected. -/
theorem aGp (l : aI) : ∀ (t acc : List Int) {n : Int}, n ∈ t → n ∉ kF l acc t → plc l ≤ ((kF l acc t).length : Int) ∨ ((pl l n).guard = true ∧ l.Field.Guards ≤ ((gd l (kF l acc t) : Nat) : Int))
  | m :: t, acc, n, hn, hno => by
    rw [nY] at hno ⊢
    by_cases e : n = m
    · subst e
      cases hp : psn l acc n with
      | true =>
        rw [hp, cond_true] at hno
        exact absurd (zI l t _ (by simp)) hno
      | false =>
        rw [cond_false]
        have hg := aBk l t acc
        rcases aJf hp with h | h
        · rw [xJ l t acc h]; exact .inl h
        · exact .inr ⟨h.1, by omega⟩
    · exact aGp l t _ ((List.mem_cons.1 hn).resolve_left e) hno
/-- Nobody behind one who is left out is in, unless that one is protected. -/
theorem aAl (l : aI) : ∀ (t acc : List Int) {n m : Int}, t.Pairwise (fun a b => gG l a < gG l b) → n ∈ t → n ∉ kF l acc t → m ∈ kF l acc t → m ∉ acc → gG l n < gG l m → (pl l n).guard = true ∧ l.Field.Guards ≤ ((gd l (kF l acc t) : Nat) : Int)
  | h :: t, acc, n, m, hs, hn, hno, hm, hma, hk => by
    have h1 := List.pairwise_cons.1 hs
    rw [nY] at hno hm ⊢
    by_cases e : n = h
    · subst e
      cases hp : psn l acc n with
      | true =>
        rw [hp, cond_true] at hno
        exact absurd (zI l t _ (by simp)) hno
      | false =>
        rw [hp, cond_false] at hm
        rw [cond_false]
        have hg := aBk l t acc
        rcases aJf hp with h | h
        · rw [xJ l t acc h] at hm; exact absurd hm hma
        · exact ⟨h.1, by omega⟩
    · have hnt := (List.mem_cons.1 hn).resolve_left e
      have hmh : m ≠ h := fun e2 => by
        have := h1.1 n hnt
        rw [e2] at hk; omega
      refine aAl l t _ h1.2 hnt hno hm ?_ hk
      cases psn l acc h with
      | false => exact hma
      | true => rw [cond_true, List.mem_append, List.mem_singleton]; exact fun hh => hh.elim hma hmh
theorem aKn {l : aI} (h : WF l) {n m : Int} (hn : (pl l n).entered = true) (hm : (pl l m).entered = true) (h0 : 0 < (pl l n).rank) (hr : (pl l m).rank = 0 ∨ (pl l n).rank < (pl l m).rank) : gG l n < gG l m := by
  have a := h.turn n hn
  have b := h.turn m hm
  have c := h.ent
  unfold gG
  rw [if_neg (by omega)]
  by_cases e : (pl l m).rank = 0
  · rw [if_pos e]; omega
  · rw [if_neg e]
    have := hr.resolve_left e
    omega
/-- Whether a protected one of those left out is barred. -/
def wR (L : aI) (n : Int) : Bool := (pl L n).guard && decide (L.Field.Guards ≤ ((gd L (bR L) : Nat) : Int))
/-- What is said of one who is left out. -/
theorem uW {f : aS} {l : List aJ} {hour : Int} {L : aI} (A : AF f l hour L) {n : Int} (hn : n ∈ jQ L) (hb : wR L n = false) :
    (hour ≤ f.Freeze → plc L ≤ ((bR L).length : Int) ∧ ∀ m ∈ bR L, 0 < (pl L n).rank → ¬ ((pl L m).rank = 0 ∨ (pl L n).rank < (pl L m).rank)) ∧
    ((∃ x ∈ l, f.Freeze < x.Hour ∧ x.Hour ≤ hour) → (pl L n).signed = true → plc L ≤ ((bR L).length : Int)) := by
  obtain ⟨_, _, g⟩ := A.good
  have hn2 := List.mem_filter.1 hn
  have hno : n ∉ bR L := by simpa using hn2.2
  have hbar : ¬ ((pl L n).guard = true ∧ L.Field.Guards ≤ ((gd L (bR L) : Nat) : Int)) := fun hh => by
    unfold wR at hb
    rw [hh.1, decide_eq_true hh.2] at hb
    cases hb
  constructor
  · intro hz
    have hf := A.fz hz
    have em : bR L = kF L [] (fH L) := by
      unfold bR
      rw [hf, cond_false]
      rfl
    rw [em] at hno hbar ⊢
    refine ⟨(aGp L _ [] hn2.1 hno).resolve_right hbar, fun m hm h0 hr => ?_⟩
    have hme : (pl L m).entered = true := tB ((zK L _ _ hm).resolve_left (by simp))
    exact hbar (aAl L _ [] (oS g.wf) hn2.1 hno hm (by simp) (aKn g.wf (tB hn2.1) hme h0 hr))
  · intro hx hsg
    rcases A.fl hx with h | h
    · exact h
    · have := List.find?_eq_none.1 h n hn2.1
      refine absurd ?_ this
      unfold kK
      rw [hsg, decide_eq_false hno, Bool.not_false, Bool.and_true, Bool.true_and, Bool.or_eq_true]
      by_cases hg : (pl L n).guard = true
      · refine .inr (decide_eq_true ?_)
        exact Int.not_le.1 fun hle => hbar ⟨hg, hle⟩
      · left; simpa using hg
theorem aKu {f : aS} {l : List aJ} (h : VL f l) (hour : Int) :
    cT l hour f (eO f l hour) BIG 0 0 = gJ l hour ((gd (bA f l hour) (bR (bA f l hour)) : Nat) : Int) f (eO f l hour) := by
  have A := aft h hour
  obtain ⟨j, hj, gd0⟩ := A.good
  have hm := pQ gd0
  have key := lO (S := Int) (fun k i s => cT l hour f (eO f l hour) k s i) (bR (bA f l hour)).length
    (fun i s => gJ l hour (s + ((gd (bA f l hour) ((bR (bA f l hour)).drop i) : Nat) : Int)) f (eO f l hour)) (fun i s => 0 ≤ s ∧ s ≤ i) (fun k i s hi hI ih => ?_) (fun k s _ => ?_) BIG 0 (gD (by omega)) (by simp)
  · rw [key, List.drop_zero, Int.zero_add]
  · have hi2 : i < (eO f l hour).Main.length := hi
    obtain ⟨gg, rr, he, h1, h2⟩ := vU h hour (bR (bA f l hour))[i]
    have e3 := (h1 (aBi (A.ms _ (List.getElem_mem hi)))).1
    have he2 : dX f l hour (eO f l hour).Main[i] = some ((pl (bA f l hour) (bR (bA f l hour))[i]).entered, gg, rr) := he
    simp only [cT, show decide ((i : Int) < ((eO f l hour).Main.length : Int)) = true from decide_eq_true (by omega), cond_true, eY hi2, Option.bind_some, he2, dQ (show i < 9223372036854775807 by omega)]
    rw [List.drop_eq_getElem_cons hi, aMi, e3]
    cases (pl (bA f l hour) (bR (bA f l hour))[i]).guard with
    | true =>
      rw [cond_true, iE (by omega) (by omega), if_pos rfl, ih _ (by omega)]
      rw [show s + 1 + ((gd (bA f l hour) ((bR (bA f l hour)).drop (i + 1)) : Nat) : Int) = s + ((1 + gd (bA f l hour) ((bR (bA f l hour)).drop (i + 1)) : Nat) : Int) by omega]
    | false =>
      rw [cond_false, if_neg (by simp), ih _ (by omega)]
      rw [show s + ((gd (bA f l hour) ((bR (bA f l hour)).drop (i + 1)) : Nat) : Int) = s + ((0 + gd (bA f l hour) ((bR (bA f l hour)).drop (i + 1)) : Nat) : Int) by omega]
  · simp only [cT, show decide (((bR (bA f l hour)).length : Int) < ((eO f l hour).Main.length : Int)) = false from decide_eq_false (by show ¬ ((bR (bA f l hour)).length : Int) < ((bR (bA f l hour)).length : Int); omega), cond_false]
    simp [gd]
def oK (f : aS) (hour : Int) (y : aJ) : Bool := decide (f.Freeze < y.Hour) && decide (y.Hour ≤ hour)
theorem aKv (l : List aJ) (hour g : Int) (f : aS) (x : cU) (hl : l.length ≤ 60) :
    dU l hour g f x BIG false 0 = gK l hour g (l.any (oK f hour)) f x := by
  have key := lO (S := Bool) (fun k i s => dU l hour g f x k s i) l.length (fun i s => gK l hour g (s || (l.drop i).any (oK f hour)) f x) (fun _ _ => True) (fun k j s hj _ ih => ?_) (fun k s _ => ?_) BIG false (gD (by omega)) trivial
  · rw [key]; rfl
  · simp only [dU, show decide ((j : Int) < (l.length : Int)) = true by simpa using hj, cond_true, eY hj, Option.bind_some, dQ (show j < 9223372036854775807 by omega)]
    have e : ∀ K : Bool → Option Bool, ((bif s then some true else ((bif decide (f.Freeze < l[j].Hour) then some (decide (l[j].Hour ≤ hour)) else some false).bind fun b12 => some b12)).bind K) = K (s || oK f hour l[j]) := fun K => by
      unfold oK
      cases s <;> cases decide (f.Freeze < l[j].Hour) <;> cases decide (l[j].Hour ≤ hour) <;> rfl
    rw [e, ih _ trivial, List.drop_eq_getElem_cons hj, List.any_cons, Bool.or_assoc]
  · simp [dU]
def uK (n hour : Int) (y : aJ) : Bool := decide (y.Kind = 5) && decide (y.Player = n) && decide (y.Hour ≤ hour)
theorem aKx (again : Int → Option Bool) (l : List aJ) (hour g : Int) (last : Bool) {i : Nat} (rank : Int) (b : Bool) (f : aS) (x : cU) (hi : i < x.Out.length) (hl : l.length ≤ 60) :
    dV again l hour g last (i : Int) rank b f x BIG false 0 = gL again l hour g last (i : Int) rank b (l.any (uK x.Out[i] hour)) f x := by
  have key := lO (S := Bool) (fun k j s => dV again l hour g last (i : Int) rank b f x k s j) l.length (fun j s => gL again l hour g last (i : Int) rank b (s || (l.drop j).any (uK x.Out[i] hour)) f x) (fun _ _ => True) (fun k j s hj _ ih => ?_) (fun k s _ => ?_) BIG false (gD (by omega)) trivial
  · rw [key]; rfl
  · simp only [dV, show decide ((j : Int) < (l.length : Int)) = true by simpa using hj, cond_true, eY hj, eY hi, Option.bind_some, dQ (show j < 9223372036854775807 by omega)]
    have e : ∀ K : Bool → Option Bool, ((bif s then some true else ((bif decide (l[j].Kind = 5) then some (decide (l[j].Player = x.Out[i])) else some false).bind fun b20 => (bif b20 then some (decide (l[j].Hour ≤ hour)) else some false).bind fun b22 => some b22)).bind K) = K (s || uK x.Out[i] hour l[j]) := fun K => by
      unfold uK
      cases s <;> cases decide (l[j].Kind = 5) <;> cases decide (l[j].Player = x.Out[i]) <;> cases decide (l[j].Hour ≤ hour) <;> rfl
    rw [e, ih _ trivial, List.drop_eq_getElem_cons hj, List.any_cons, Bool.or_assoc]
  · simp [dV]
theorem aKy {f : aS} {l : List aJ} (h : VL f l) (hour : Int) (again : Int → Option Bool) (g : Int) (last : Bool) (i rank : Int) (b : Bool)
    (hno : b = false → 0 < rank → ∀ m ∈ bR (bA f l hour), ¬ ((pl (bA f l hour) m).rank = 0 ∨ rank < (pl (bA f l hour) m).rank)) :
    dW again l hour g last i rank b f (eO f l hour) BIG 0 = gM again l hour g last i f (eO f l hour) := by
  have A := aft h hour
  obtain ⟨j, hj, gd0⟩ := A.good
  have hm := pQ gd0
  have key := lO (S := Unit) (fun k j _ => dW again l hour g last i rank b f (eO f l hour) k j) (bR (bA f l hour)).length (fun _ _ => gM again l hour g last i f (eO f l hour)) (fun _ _ => True) (fun k j _ hj _ ih => ?_) (fun k _ _ => ?_) BIG () (gD (by omega)) trivial
  · exact key
  · have hj2 : j < (eO f l hour).Main.length := hj
    obtain ⟨gg, rr, he, h1, h2⟩ := vU h hour (bR (bA f l hour))[j]
    have e3 := (h1 (aBi (A.ms _ (List.getElem_mem hj)))).2
    have he2 : dX f l hour (eO f l hour).Main[j] = some ((pl (bA f l hour) (bR (bA f l hour))[j]).entered, gg, rr) := he
    simp only [dW, show decide ((j : Int) < ((eO f l hour).Main.length : Int)) = true from decide_eq_true (by omega), cond_true, eY hj2, Option.bind_some, he2, dQ (show j < 9223372036854775807 by omega)]
    have e : ∀ K : Bool → Option Bool, ((bif !b then some (decide (0 < rank)) else some false).bind fun b27 => (bif b27 then ((bif decide (rr = 0) then some true else some (decide (rank < rr))).bind fun b28 => some b28) else some false).bind K) = K false := fun K => by
      cases b with
      | true => rfl
      | false =>
        by_cases h0 : 0 < rank
        · have := hno rfl h0 _ (List.getElem_mem hj)
          rw [not_or] at this
          have a1 : ¬ rr = 0 := fun e => this.1 (e3.symm.trans e)
          have a2 : ¬ rank < rr := fun e => this.2 (e3 ▸ e)
          rw [decide_eq_true h0, decide_eq_false a1, decide_eq_false a2]
          rfl
        · rw [decide_eq_false h0]; rfl
    rw [e, cond_false]
    exact ih () trivial
  · simp only [dW, show decide (((bR (bA f l hour)).length : Int) < ((eO f l hour).Main.length : Int)) = false from decide_eq_false (by show ¬ ((bR (bA f l hour)).length : Int) < ((bR (bA f l hour)).length : Int); omega), cond_false]
theorem aKw {f : aS} {l : List aJ} (h : VL f l) (hour : Int) :
    cN l hour ((gd (bA f l hour) (bR (bA f l hour)) : Nat) : Int) (l.any (oK f hour)) f (eO f l hour) BIG 0 = some true := by
  have A := aft h hour
  obtain ⟨j, hj, gd0⟩ := A.good
  have hm := pQ gd0
  have ho := aEt gd0.wf
  have hl := h.len
  have key := lO (S := Unit) (fun k i _ => cN l hour ((gd (bA f l hour) (bR (bA f l hour)) : Nat) : Int) (l.any (oK f hour)) f (eO f l hour) k i) (jQ (bA f l hour)).length (fun _ _ => some true) (fun _ _ => True) (fun k i _ hi _ ih => ?_) (fun k _ _ => ?_) BIG () (gD (by omega)) trivial
  · exact key
  · have hi2 : i < (eO f l hour).Out.length := hi
    obtain ⟨gg, rr, he, h1, h2⟩ := vU h hour (jQ (bA f l hour))[i]
    have hmem : (jQ (bA f l hour))[i] ∈ jQ (bA f l hour) := List.getElem_mem hi
    have e3 := h1 (tB (List.mem_filter.1 hmem).1)
    have he2 : dX f l hour (eO f l hour).Out[i] = some ((pl (bA f l hour) (jQ (bA f l hour))[i]).entered, gg, rr) := he
    simp only [cN, show decide ((i : Int) < ((eO f l hour).Out.length : Int)) = true from decide_eq_true (by omega), cond_true, eY hi2, Option.bind_some, he2]
    have eb : ∀ K : Bool → Option Bool, ((bif gg then some (decide (f.Guards ≤ ((gd (bA f l hour) (bR (bA f l hour)) : Nat) : Int))) else some false).bind K) = K (wR (bA f l hour) (jQ (bA f l hour))[i]) := fun K => by
      unfold wR
      rw [← e3.1, gd0.fd]
      cases gg <;> rfl
    rw [eb, aKx _ l hour _ _ _ _ f _ hi2 hl]
    have hs : l.any (uK (jQ (bA f l hour))[i] hour) = (pl (bA f l hour) (jQ (bA f l hour))[i]).signed := by
      rw [Bool.eq_iff_iff, A.sign, List.any_eq_true]
      simp only [uK, Bool.and_eq_true, decide_eq_true_eq, and_assoc]
    have hlt : l.any (oK f hour) = true ↔ ∃ x ∈ l, f.Freeze < x.Hour ∧ x.Hour ≤ hour := by
      rw [List.any_eq_true]
      simp only [oK, Bool.and_eq_true, decide_eq_true_eq]
    have hop : ∀ hp : plc (bA f l hour) ≤ ((bR (bA f l hour)).length : Int), decide (0 < (eO f l hour).Open) = false := fun hp => decide_eq_false (by
      show ¬ 0 < plc (bA f l hour) - ((bR (bA f l hour)).length : Int)
      omega)
    have hs2 : l.any (uK (eO f l hour).Out[i] hour) = (pl (bA f l hour) (jQ (bA f l hour))[i]).signed := hs
    unfold gL
    have hfin : fG (cN l hour ((gd (bA f l hour) (bR (bA f l hour)) : Nat) : Int) (l.any (oK f hour)) f (eO f l hour) k) l hour ((gd (bA f l hour) (bR (bA f l hour)) : Nat) : Int) (l.any (oK f hour)) (i : Int) f (eO f l hour) = some true := by
      unfold fG
      rw [dQ (by omega)]
      exact ih () trivial
    by_cases hz : hour ≤ f.Freeze
    · rw [decide_eq_true hz, cond_true]
      have eo : ∀ K : Bool → Option Bool, ((bif decide (0 < (eO f l hour).Open) then some (!wR (bA f l hour) (jQ (bA f l hour))[i]) else some false).bind K) = K false := fun K => by
        cases hb : wR (bA f l hour) (jQ (bA f l hour))[i] with
        | true => cases decide (0 < (eO f l hour).Open) <;> rfl
        | false =>
          rw [hop ((uW A hmem hb).1 hz).1]; rfl
      rw [eo, cond_false, aKy h hour _ _ _ _ _ _ fun hb h0 m hmm => ?_]
      · unfold gM
        exact hfin
      · rw [e3.2] at h0 ⊢
        exact ((uW A hmem hb).1 hz).2 m hmm h0
    · rw [decide_eq_false hz, cond_false]
      have eo : ∀ K : Bool → Option Bool, ((bif l.any (oK f hour) then some (decide (0 < (eO f l hour).Open)) else some false).bind fun b30 => (bif b30 then some (l.any (uK (eO f l hour).Out[i] hour)) else some false).bind fun b31 => (bif b31 then some (!wR (bA f l hour) (jQ (bA f l hour))[i]) else some false).bind K) = K false := fun K => by
        rw [hs2]
        cases hb : wR (bA f l hour) (jQ (bA f l hour))[i] with
        | true => cases l.any (oK f hour) <;> cases decide (0 < (eO f l hour).Open) <;> cases (pl (bA f l hour) (jQ (bA f l hour))[i]).signed <;> rfl
        | false =>
          cases hla : l.any (oK f hour) with
          | false => rfl
          | true =>
            cases hsg : (pl (bA f l hour) (jQ (bA f l hour))[i]).signed with
            | false => cases decide (0 < (eO f l hour).Open) <;> rfl
            | true => rw [hop ((uW A hmem hb).2 (hlt.1 hla) hsg)]; rfl
      rw [eo, cond_false]
      exact hfin
  · simp only [cN, show decide (((jQ (bA f l hour)).length : Int) < ((eO f l hour).Out.length : Int)) = false from decide_eq_false (by show ¬ ((jQ (bA f l hour)).length : Int) < ((jQ (bA f l hour)).length : Int); omega), cond_false, kX, xZ, Option.bind_some]
theorem sC (f : aS) (l : List aJ) (hour : Int) (_ : aAo f) (_ : (okL uV) l) (_ : okI hour) : jX f l hour = some true := by
  obtain ⟨r, hr, hv⟩ := aKt f l
  unfold jX
  rw [hr, aIt]
  simp only [Option.bind_some, sX, xZ]
  cases hb : !r || !wi hour 0 9999 with
  | true => rfl
  | false =>
    simp only [cond_false]
    simp only [Bool.or_eq_false_iff, Bool.not_eq_false'] at hb
    obtain ⟨hV, hl⟩ := hv hb.1
    rw [aGb hV hb.2, Option.bind_some]
    show (bif !decide ((0 : Int) = 0) then some false else cT l hour f (eO f l hour) BIG 0 0) = some true
    rw [decide_eq_true rfl, Bool.not_true, cond_false, aKu hV hour]
    unfold gJ
    rw [aKv l hour _ f _ (by omega)]
    unfold gK
    exact aKw hV hour
end Go.Am
