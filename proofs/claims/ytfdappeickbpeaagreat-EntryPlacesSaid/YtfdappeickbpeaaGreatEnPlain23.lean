/- Plain laws, one behind the other. -/
import Derived.Test.YtfdappeickbpeaaGreatEntryStaysLaw
section
namespace Go.Am

/-- A notice by which a player enters. -/
def qJ (f : aV) (hour p : Int) (x : aJ) : Bool := decide (x.Player = p) && (decide (x.Kind = 1) || decide (x.Kind = 2)) && decide (x.Hour ≤ hour) && decide (x.Hour ≤ f.Close)
def tV (x y : aJ) : Bool := decide (x.Hour < y.Hour) || (decide (x.Hour = y.Hour) && decide (x.Id < y.Id))
def nJ (f : aV) (hour p : Int) (y : aJ) (l : List aJ) : aJ := l.foldl (fun y x => bif qJ f hour p x && tV x y then x else y) y
def aEf (x : aJ) : Bool × Bool × Int := (decide (x.Hour ≤ 9999), decide (x.Kind = 2), x.Rank)
theorem aHr (f : aV) (l : List aJ) (hour p : Int) (hl : l.length ≤ 60) : iU f l hour p = some (aEf (nJ f hour p (aJ.mk 0 10000 0 0 0) l)) := by
  have key := lT (S := aJ) (fun k i y => cY l hour p f k i y) l.length (fun i y => some (aEf (nJ f hour p y (l.drop i)))) (fun _ _ => True) (fun k i y hi _ ih => ?_) (fun k y _ => ?_) BIG (aJ.mk 0 10000 0 0 0) (gM (by omega)) trivial
  · unfold iU
    rw [key]; rfl
  · simp only [cY, show decide ((i : Int) < (l.length : Int)) = true by simpa using hi, cond_true, eO hi, Option.bind_some, dP (show i < 9223372036854775807 by omega)]
    have e : ((bif decide (l[i].Player = p) then ((bif decide (l[i].Kind = 1) then (some true) else (some (decide (l[i].Kind = 2)))).bind fun b5 => some b5) else (some false)).bind fun b6 => (bif b6 then (some (decide (l[i].Hour ≤ hour))) else (some false)).bind fun b7 => (bif b7 then (some (decide (l[i].Hour ≤ f.Close))) else (some false)).bind fun b8 => (bif b8 then ((bif decide (l[i].Hour < y.Hour) then (some true) else ((bif decide (l[i].Hour = y.Hour) then (some (decide (l[i].Id < y.Id))) else (some false)).bind fun b9 => some b9)).bind fun b10 => some b10) else (some false))) = some (qJ f hour p l[i] && tV l[i] y) := by
      unfold qJ tV
      cases decide (l[i].Player = p) <;> cases decide (l[i].Kind = 1) <;> cases decide (l[i].Kind = 2) <;> cases decide (l[i].Hour ≤ hour) <;> cases decide (l[i].Hour ≤ f.Close) <;> cases decide (l[i].Hour < y.Hour) <;> cases decide (l[i].Hour = y.Hour) <;> cases decide (l[i].Id < y.Id) <;> rfl
    rw [List.drop_eq_getElem_cons hi]
    show _ = some (aEf (nJ f hour p (bif qJ f hour p l[i] && tV l[i] y then l[i] else y) (l.drop (i + 1))))
    rw [← ih _ trivial]
    have e2 := congrArg (fun o : Option Bool => o.bind fun b11 => bif b11 then cY l hour p f k ((i + 1 : Nat) : Int) l[i] else cY l hour p f k ((i + 1 : Nat) : Int) y) e
    simp only [Option.bind_some] at e2
    have e3 : (bif qJ f hour p l[i] && tV l[i] y then cY l hour p f k ((i + 1 : Nat) : Int) l[i] else cY l hour p f k ((i + 1 : Nat) : Int) y) = cY l hour p f k ((i + 1 : Nat) : Int) (bif qJ f hour p l[i] && tV l[i] y then l[i] else y) := by
      cases qJ f hour p l[i] && tV l[i] y <;> rfl
    rw [← e3, ← e2]
    cases decide (l[i].Player = p) <;> cases decide (l[i].Kind = 1) <;> cases decide (l[i].Kind = 2) <;> cases decide (l[i].Hour ≤ hour) <;> cases decide (l[i].Hour ≤ f.Close) <;> cases decide (l[i].Hour < y.Hour) <;> cases decide (l[i].Hour = y.Hour) <;> cases decide (l[i].Id < y.Id) <;> rfl
  · simp [cY, mI, aEf, nJ]
end Go.Am

end
section
namespace Go.Am

theorem aKy {x y : aJ} (hx : bN x) (hy : 0 ≤ y.Id ∧ y.Id ≤ 999) : tV x y = true ↔ eK x < eK y := by
  unfold bN at hx
  unfold tV eK
  simp only [Bool.or_eq_true, Bool.and_eq_true, decide_eq_true_eq]
  omega
/-- The least one. -/
theorem uZ (f : aV) (hour p : Int) : ∀ (l : List aJ) (y : aJ), (∀ x ∈ l, bN x) → (0 ≤ y.Id ∧ y.Id ≤ 999) →
    (nJ f hour p y l = y ∨ (nJ f hour p y l ∈ l ∧ qJ f hour p (nJ f hour p y l) = true)) ∧ eK (nJ f hour p y l) ≤ eK y ∧ ∀ x ∈ l, qJ f hour p x = true → eK (nJ f hour p y l) ≤ eK x
  | [], y, _, _ => ⟨.inl rfl, Int.le_refl _, fun x hx => by simp at hx⟩
  | z :: l, y, hb, hy => by
    have hz := hb z (by simp)
    have hk := aKy hz hy
    have e : nJ f hour p y (z :: l) = nJ f hour p (bif qJ f hour p z && tV z y then z else y) l := rfl
    cases hc : qJ f hour p z && tV z y with
    | true =>
      rw [hc, cond_true] at e
      rw [Bool.and_eq_true, hk] at hc
      have ih := uZ f hour p l z (fun x hx => hb x (by simp [hx])) (by unfold bN at hz; omega)
      rw [← e] at ih
      refine ⟨.inr ?_, by omega, fun x hx hm => ?_⟩
      · rcases ih.1 with h | h
        · rw [h]; exact ⟨by simp, hc.1⟩
        · exact ⟨by simp [h.1], h.2⟩
      · rcases List.mem_cons.1 hx with h | h
        · rw [h]; exact ih.2.1
        · exact ih.2.2 x h hm
    | false =>
      rw [hc, cond_false] at e
      have ih := uZ f hour p l y (fun x hx => hb x (by simp [hx])) hy
      rw [← e] at ih
      refine ⟨ih.1.imp id fun h => ⟨by simp [h.1], h.2⟩, ih.2.1, fun x hx hm => ?_⟩
      rcases List.mem_cons.1 hx with h | h
      · subst h
        rw [hm, Bool.true_and] at hc
        have : ¬ eK x < eK y := fun hlt => by rw [hk.2 hlt] at hc; cases hc
        omega
      · exact ih.2.2 x h hm
end Go.Am

end
section
namespace Go.Am

theorem aKl {l : aI} {x : aJ} (h : (pl l x.Player).entered = true) : (upP l x).entered = true ∧ (upP l x).guard = (pl l x.Player).guard ∧ (upP l x).rank = (pl l x.Player).rank := by
  unfold upP
  simp only [h, Bool.not_true, Bool.and_false, cond_false]
  cases decide (x.Kind = 1) || decide (x.Kind = 2) with
  | true => first | exact ⟨h, rfl, rfl⟩ | exact ⟨rfl, rfl, rfl⟩
  | false =>
    simp only [cond_false]
    cases decide (x.Kind = 3) with
    | true => simp only [cond_true]; cases ((decide (x.Hour ≤ l.Field.Freeze) && !(pl l x.Player).wild) && !(pl l x.Player).quit) && decide ((l.wilds.length : Int) < l.Field.Wilds) <;> first | exact ⟨h, rfl, rfl⟩ | exact ⟨rfl, rfl, rfl⟩
    | false =>
      simp only [cond_false]
      cases decide (x.Kind = 4) with
      | true => first | exact ⟨h, rfl, rfl⟩ | exact ⟨rfl, rfl, rfl⟩
      | false => simp only [cond_false]; cases decide (x.Kind = 5) <;> first | exact ⟨h, rfl, rfl⟩ | exact ⟨rfl, rfl, rfl⟩
/-- A notice by which a player enters, of whatever hour. -/
def uV (f : aV) (p : Int) (x : aJ) : Bool := decide (x.Player = p) && (decide (x.Kind = 1) || decide (x.Kind = 2)) && decide (x.Hour ≤ f.Close)
theorem aOc {l : aI} {x : aJ} (h : (pl l x.Player).entered = false) : ((upP l x).entered = true ↔ uV l.Field x.Player x = true) ∧ (uV l.Field x.Player x = true → (upP l x).guard = decide (x.Kind = 2) ∧ (upP l x).rank = x.Rank) := by
  unfold upP uV
  simp only [h, Bool.not_false, Bool.and_true, decide_true, Bool.true_and]
  cases decide (x.Kind = 1) || decide (x.Kind = 2) with
  | true =>
    simp only [cond_true, Bool.true_and]
    cases decide (x.Hour ≤ l.Field.Close) with
    | true => simp
    | false => simp [h]
  | false =>
    simp only [cond_false, Bool.false_and]
    refine ⟨?_, fun hh => by cases hh⟩
    cases decide (x.Kind = 3) with
    | true => simp only [cond_true]; cases ((decide (x.Hour ≤ l.Field.Freeze) && !(pl l x.Player).wild) && !(pl l x.Player).quit) && decide ((l.wilds.length : Int) < l.Field.Wilds) <;> simp [h]
    | false =>
      simp only [cond_false]
      cases decide (x.Kind = 4) with
      | true => simp [h]
      | false => simp only [cond_false]; cases decide (x.Kind = 5) <;> simp [h]
theorem tI (l : aI) (x : aJ) (n : Int) : pl (cB l x) n = bif decide (n = x.Player) then upP l x else pl l n := by
  have e : pl (cB l x) n = pl (bQ l x) n := by unfold pl; rw [oT]
  rw [e, lU]
theorem nE (l : aI) (x : aJ) : (cB l x).Field = l.Field := by
  have e : ∀ l1 : aI, (bif (bQ l1 x).frozen then kT (bQ l1 x) else bQ l1 x).Field = l1.Field := fun l1 => by
    cases (bQ l1 x).frozen <;> exact (kB l1 x).1
  unfold cB
  simp only
  rw [e]
  cases decide (l.Field.Freeze < x.Hour) with
  | false => rfl
  | true => exact (eX l).2.1
theorem aCf : ∀ (t : List aJ) {l : aI} {n : Int}, (pl l n).entered = true → (pl (t.foldl cB l) n).entered = true ∧ (pl (t.foldl cB l) n).guard = (pl l n).guard ∧ (pl (t.foldl cB l) n).rank = (pl l n).rank
  | [], _, _, h => ⟨h, rfl, rfl⟩
  | x :: t, l, n, h => by
    have hs : (pl (cB l x) n).entered = true ∧ (pl (cB l x) n).guard = (pl l n).guard ∧ (pl (cB l x) n).rank = (pl l n).rank := by
      rw [tI]
      by_cases e : n = x.Player
      · subst e; rw [decide_eq_true rfl, cond_true]; exact aKl h
      · rw [decide_eq_false e, cond_false]; exact ⟨h, rfl, rfl⟩
    have ih := aCf t hs.1
    rw [List.foldl_cons]
    exact ⟨ih.1, ih.2.1.trans hs.2.1, ih.2.2.trans hs.2.2⟩
/-- The first of them says it. -/
theorem zI (n : Int) : ∀ (t : List aJ) {l : aI}, (pl l n).entered = false → match t.find? (uV l.Field n) with
    | none => (pl (t.foldl cB l) n).entered = false
    | some x => (pl (t.foldl cB l) n).entered = true ∧ (pl (t.foldl cB l) n).guard = decide (x.Kind = 2) ∧ (pl (t.foldl cB l) n).rank = x.Rank
  | [], _, h => h
  | x :: t, l, h => by
    rw [List.foldl_cons, List.find?_cons]
    by_cases e : n = x.Player
    · subst e
      have hu := aOc h
      have hp := tI l x x.Player
      rw [decide_eq_true rfl, cond_true] at hp
      cases hc : uV l.Field x.Player x with
      | true =>
        have k := aCf t (l := cB l x) (n := x.Player) (by rw [hp]; exact hu.1.2 hc)
        rw [hp] at k
        exact ⟨k.1, k.2.1.trans (hu.2 hc).1, k.2.2.trans (hu.2 hc).2⟩
      | false =>
        have ih := zI x.Player t (l := cB l x) (by
          rw [hp]
          cases hq : (upP l x).entered with
          | false => rfl
          | true => rw [hu.1.1 hq] at hc; cases hc)
        rw [nE] at ih
        exact ih
    · have hp := tI l x n
      rw [decide_eq_false e, cond_false] at hp
      have hc : uV l.Field n x = false := by
        unfold uV
        rw [decide_eq_false fun h => e h.symm]; rfl
      rw [hc]
      have ih := zI n t (l := cB l x) (by rw [hp]; exact h)
      rw [nE] at ih
      exact ih
end Go.Am

end
section
namespace Go.Am

theorem aFz {t : List aJ} (hs : t.Pairwise fun x y => eK x < eK y) {p : aJ → Bool} {x : aJ} (h : t.find? p = some x) : x ∈ t ∧ p x = true ∧ ∀ y ∈ t, p y = true → eK x ≤ eK y := by
  refine ⟨List.mem_of_find?_eq_some h, List.find?_some h, ?_⟩
  induction t with
  | nil => simp at h
  | cons z t ih =>
    have h1 := List.pairwise_cons.1 hs
    rw [List.find?_cons] at h
    cases hp : p z with
    | true =>
      rw [hp] at h
      have e : z = x := by simpa using h
      subst e
      intro y hy _
      rcases List.mem_cons.1 hy with e | hy
      · rw [e]; exact Int.le_refl _
      · exact Int.le_of_lt (h1.1 y hy)
    | false =>
      rw [hp] at h
      intro y hy hpy
      rcases List.mem_cons.1 hy with e | hy
      · rw [e, hp] at hpy; cases hpy
      · exact ih h1.2 h y hy hpy
theorem aNa (f : aV) (n : Int) : (pl (dG f) n).entered = false := rfl
theorem aJs {f : aV} {l : aI} {i : Nat} (h : fE f l i) (hour n : Int) : pl (mD hour l) n = pl l n := by
  unfold pl; rw [(rF h hour).2.2]
/-- Whether, how and with which rank a player entered. -/
theorem aHs {f : aV} {l : List aJ} (h : VL f l) (hour p : Int) : ∃ g r, iU f l hour p = some ((pl (aU f l hour) p).entered, g, r) ∧ ((pl (aU f l hour) p).entered = true → g = (pl (aU f l hour) p).guard ∧ r = (pl (aU f l hour) p).rank) ∧ ((pl (aU f l hour) p).entered = false → g = false ∧ r = 0) := by
  have hb : ∀ x ∈ l, bN x := fun x hx => vU (h.nt x hx)
  have hT := nF l
  have hlen := h.len
  have hs := lV hb h.id
  have hbT : ∀ x ∈ cX l, bN x := fun x hx => hb x ((eN x).1 hx)
  obtain ⟨_, _, ga⟩ := qA hour (cX l) (dG f) 0 (iX h.fd) (by omega) fun x hx => h.nt x ((eN x).1 hx)
  have sp := uZ f hour p l (aJ.mk 0 10000 0 0 0) hb ⟨by decide, by decide⟩
  rw [aHr f l hour p (by omega)]
  generalize nJ f hour p (aJ.mk 0 10000 0 0 0) l = F at sp
  unfold aU
  rw [aJs ga, nC hour _ _ hs hbT]
  have fd := zI p ((cX l).filter fun x => decide (x.Hour ≤ hour)) (aNa f p)
  have mem : ∀ x, x ∈ ((cX l).filter fun x => decide (x.Hour ≤ hour)) ↔ x ∈ l ∧ x.Hour ≤ hour := fun x => by
    rw [List.mem_filter, eN, decide_eq_true_eq]
  have emc : ∀ x, qJ f hour p x = true ↔ uV f p x = true ∧ x.Hour ≤ hour := fun x => by
    unfold qJ uV
    simp only [Bool.and_eq_true, decide_eq_true_eq]
    constructor
    · rintro ⟨⟨⟨a, b⟩, c⟩, d⟩; exact ⟨⟨⟨a, b⟩, d⟩, c⟩
    · rintro ⟨⟨⟨a, b⟩, d⟩, c⟩; exact ⟨⟨⟨a, b⟩, c⟩, d⟩
  cases hf : ((cX l).filter fun x => decide (x.Hour ≤ hour)).find? (uV (dG f).Field p) with
  | none =>
    rw [hf] at fd
    have e : F = aJ.mk 0 10000 0 0 0 := by
      rcases sp.1 with e | ⟨hm, he⟩
      · exact e
      · have := List.find?_eq_none.1 hf F ((mem F).2 ⟨hm, ((emc F).1 he).2⟩)
        exact absurd ((emc F).1 he).1 this
    subst e
    refine ⟨false, 0, ?_, fun hh => ?_, fun _ => ⟨rfl, rfl⟩⟩
    · rw [fd]; rfl
    · rw [fd] at hh; cases hh
  | some x =>
    rw [hf] at fd
    have fs := aFz (hs.filter _) hf
    have hx := (mem x).1 fs.1
    have hxm : qJ f hour p x = true := (emc x).2 ⟨fs.2.1, hx.2⟩
    have k1 := sp.2.2 x hx.1 hxm
    have bx := hb x hx.1
    have e : F = x := by
      rcases sp.1 with e | ⟨hm, he⟩
      · subst e
        unfold bN at bx
        unfold eK at k1
        simp only at k1
        omega
      · have k2 := fs.2.2 F ((mem F).2 ⟨hm, ((emc F).1 he).2⟩) ((emc F).1 he).1
        have bF := hb F hm
        refine h.id F hm x hx.1 ?_
        unfold bN at bx bF
        unfold eK at k1 k2
        omega
    subst e
    refine ⟨decide (F.Kind = 2), F.Rank, ?_, fun _ => ⟨fd.2.1.symm, fd.2.2.symm⟩, fun hh => ?_⟩
    · rw [fd.1]
      unfold aEf
      unfold bN at bx
      rw [decide_eq_true (by omega)]
    · rw [fd.1] at hh; cases hh
end Go.Am

end
section
namespace Go.Am

/-- What holds of who is in. -/
structure Pk (l : aI) (xs : List Int) : Prop where
  nd : xs.Nodup
  len : (xs.length : Int) ≤ plc l
  gd : ((gd l xs : Nat) : Int) ≤ l.Field.Guards
theorem aBs (l : aI) : ∀ (t acc : List Int), Pk l acc → (acc ++ t).Nodup → Pk l (qT l acc t)
  | [], acc, h, _ => h
  | n :: t, acc, h, hn => by
    rw [xM]
    cases hc : psn l acc n with
    | true =>
      rw [cond_true]
      have c := vQ.1 hc
      refine aBs l t _ ⟨?_, ?_, ?_⟩ (by rw [List.append_assoc]; exact hn)
      · have := List.nodup_append.1 hn
        refine List.nodup_append.2 ⟨this.1, by simp, fun a ha b hb => ?_⟩
        rw [List.mem_singleton.1 hb]
        exact this.2.2 a ha n (by simp)
      · rw [List.length_append]; simp; omega
      · rw [vM]
        have := h.gd
        cases hg : (pl l n).guard with
        | true => have := c.2 hg; simp; omega
        | false => simp; exact h.gd
    | false =>
      rw [cond_false]
      refine aBs l t acc h ?_
      exact hn.sublist (List.Sublist.append (List.Sublist.refl _) (List.sublist_cons_self n t))
theorem aNv {l : aI} (h : WF l) : 0 ≤ l.Field.Guards := by
  have hf := h.fd
  unfold oM at hf
  simp only [Bool.and_eq_true, uH] at hf
  omega
theorem aCy {l : aI} (h : WF l) : Pk l (kI l) := by
  have hp := uA h
  exact aBs l _ _ ⟨by simp, by simp; omega, by have := aNv h; simpa [gd] using this⟩ (by simpa using aAd h)
theorem aJf (l : aI) (p : Int → Bool) (xs : List Int) : gd l (xs.filter p) ≤ gd l xs :=
  (List.filter_sublist.filter _).length_le
theorem aEl {l : aI} (first : List Int) : ∀ (k : Nat) (late : List Int), Pk l (first ++ late) → Pk l (first ++ iQ l first k late)
  | 0, _, h => h
  | k + 1, late, h => by
    rw [iQ]
    cases hp : decide (((first ++ late).length : Int) < plc l) with
    | false => exact h
    | true =>
      rw [cond_true]
      split
      · exact h
      · rename_i m hm
        have hm2 := List.find?_some hm
        unfold lH at hm2
        simp only [Bool.and_eq_true, Bool.not_eq_true', decide_eq_false_iff_not, Bool.or_eq_true, decide_eq_true_eq] at hm2 hp
        refine aEl first k _ ⟨?_, ?_, ?_⟩
        · rw [← List.append_assoc]
          refine List.nodup_append.2 ⟨h.nd, by simp, fun a ha b hb => ?_⟩
          rw [List.mem_singleton.1 hb]
          intro e
          exact hm2.1.2 (e ▸ ha)
        · rw [← List.append_assoc, List.length_append]; simp; simp at hp; omega
        · rw [← List.append_assoc, vM]
          have := h.gd
          cases hg : (pl l m).guard with
          | true =>
            have h2 := hm2.2
            rw [hg] at h2
            simp at h2
            simp only [if_true]
            omega
          | false => simp only [Bool.false_eq_true, if_false, Nat.add_zero]; exact this
end Go.Am

end
section
namespace Go.Am

theorem zR {l l2 : aI} {xs : List Int} (h : ∀ n ∈ xs, (pl l2 n).guard = (pl l n).guard) : gd l2 xs = gd l xs := by
  unfold gd
  rw [List.filter_congr h]
theorem aKi {l : aI} {x : aJ} {n : Int} (h : (pl l n).entered = true) : (pl (bQ l x) n).guard = (pl l n).guard := by
  rw [lU]
  by_cases e : n = x.Player
  · subst e; rw [decide_eq_true rfl, cond_true]; exact (aKl h).2.1
  · rw [decide_eq_false e, cond_false]
theorem aMu {l : aI} {n : Int} (h : isE l.players n = true) : (pl l n).entered = true := by
  rw [tX] at h
  simp only [Bool.and_eq_true] at h
  exact h.1.1
theorem aNe {f : aV} {l : aI} {x : aJ} {i : Nat} (h : fE f l i) (hi : i < 60) (hx : gL x = true) (hm : MS l) (hp : Pk l (bO l)) : Pk (cB l x) (bO (cB l x)) := by
  obtain ⟨l1, h1, hm1, hp1, e1⟩ : ∃ l1, fE f l1 i ∧ MS l1 ∧ Pk l1 (bO l1) ∧ (bif decide (l.Field.Freeze < x.Hour) then dQ l else l) = l1 := by
    refine ⟨_, ?_, ?_, ?_, rfl⟩ <;> cases decide (l.Field.Freeze < x.Hour)
    · exact h
    · exact mE h
    · exact hm
    · intro n hn
      rw [cond_true] at hn ⊢
      rw [rZ h] at hn
      rw [(eX l).1]; exact hm n hn
    · exact hp
    · rw [cond_true, rZ h]
      have e := eX l
      refine ⟨hp.nd, ?_, ?_⟩
      · unfold plc; rw [e.2.1, e.2.2.2]; exact hp.len
      · rw [zR (l := l) fun n _ => by unfold pl; rw [e.1], e.2.1]; exact hp.gd
  unfold cB
  rw [e1]
  have h2 := qE h1 hi hx
  have ht := kB l1 x
  have hr := (xZ l1 x).1.1
  simp only
  cases hz : (bQ l1 x).frozen with
  | false =>
    rw [cond_false]
    unfold bO
    rw [hz, cond_false]
    exact aCy h2.wf
  | true =>
    rw [cond_true]
    have hz1 : l1.frozen = true := by rw [← ht.2.1]; exact hz
    unfold bO at hp1
    rw [hz1, cond_true] at hp1
    have hmm : ∀ n ∈ l1.first ++ l1.late, (pl l1 n).entered = true := fun n hn => by
      refine aMu (hm1 n ?_)
      unfold bO
      rw [hz1, cond_true]; exact hn
    have hF : Pk (bQ l1 x) ((l1.first ++ l1.late).filter fun n => isE (bQ l1 x).players n) := by
      refine ⟨hp1.nd.sublist List.filter_sublist, ?_, ?_⟩
      · have a := List.length_filter_le (fun n => isE (bQ l1 x).players n) (l1.first ++ l1.late)
        have b := hp1.len
        unfold plc at b ⊢
        rw [ht.1]
        omega
      · have a := aJf (bQ l1 x) (fun n => isE (bQ l1 x).players n) (l1.first ++ l1.late)
        have b := zR (l := l1) (l2 := bQ l1 x) (xs := l1.first ++ l1.late) fun n hn => aKi (hmm n hn)
        have c := hp1.gd
        rw [ht.1]
        omega
    rw [List.filter_append] at hF
    have k := aEl ((bQ l1 x).first.filter fun n => isE (bQ l1 x).players n) 100 ((bQ l1 x).late.filter fun n => isE (bQ l1 x).players n) (by rw [ht.2.2.1, ht.2.2.2]; exact hF)
    have e : bO (kT (bQ l1 x)) = ((bQ l1 x).first.filter fun n => isE (bQ l1 x).players n) ++ iQ (bQ l1 x) ((bQ l1 x).first.filter fun n => isE (bQ l1 x).players n) 100 ((bQ l1 x).late.filter fun n => isE (bQ l1 x).players n) := by
      unfold bO
      rw [show (kT (bQ l1 x)).frozen = true from hz, cond_true]
      rfl
    rw [e]
    exact ⟨k.nd, k.len, k.gd⟩
end Go.Am

end
section
namespace Go.Am

structure Wd (l : aI) : Prop where
  nd : l.wilds.Nodup
  len : (l.wilds.length : Int) ≤ l.Field.Wilds
  fl : ∀ n, n ∈ l.wilds ↔ (pl l n).wild = true
theorem aDv {l l2 : aI} (h : Wd l) (hp : l2.players = l.players) (hw : l2.wilds = l.wilds) (hf : l2.Field = l.Field) : Wd l2 :=
  ⟨by rw [hw]; exact h.nd, by rw [hw, hf]; exact h.len, fun n => by rw [hw, h.fl n]; unfold pl; rw [hp]⟩
theorem aGp {f : aV} (h : oM f = true) : Wd (dG f) := by
  refine ⟨by simp [dG], ?_, fun n => ⟨fun h => by simp [dG] at h, fun h => by simp [pl, dG, aH, zP] at h⟩⟩
  unfold oM at h
  simp only [Bool.and_eq_true, uH] at h
  show (([] : List Int).length : Int) ≤ f.Wilds
  simp; omega
/-- What a notice does to the wild cards. -/
theorem oZ (l : aI) (x : aJ) : (bQ l x).wilds = (bif decide (x.Kind = 3) && (((decide (x.Hour ≤ l.Field.Freeze) && !(pl l x.Player).wild) && !(pl l x.Player).quit) && decide ((l.wilds.length : Int) < l.Field.Wilds)) then l.wilds ++ [x.Player] else bif decide (x.Kind = 4) then l.wilds.filter fun m => !decide (m = x.Player) else l.wilds) ∧
    (bQ l x).more = (bif decide (x.Kind = 4) && ((pl l x.Player).wild && decide (l.Field.Freeze < x.Hour)) then l.more + 1 else l.more) ∧
    (upP l x).wild = (bif decide (x.Kind = 3) && (((decide (x.Hour ≤ l.Field.Freeze) && !(pl l x.Player).wild) && !(pl l x.Player).quit) && decide ((l.wilds.length : Int) < l.Field.Wilds)) then true else bif decide (x.Kind = 4) then false else (pl l x.Player).wild) := by
  unfold bQ upP
  simp only
  by_cases h1 : x.Kind = 1 ∨ x.Kind = 2
  · have e : (decide (x.Kind = 1) || decide (x.Kind = 2)) = true := by simpa using h1
    have e3 : decide (x.Kind = 3) = false := decide_eq_false (by omega)
    have e4 : decide (x.Kind = 4) = false := decide_eq_false (by omega)
    rw [e, e3, e4]
    simp only [cond_true, cond_false, Bool.false_and]
    cases decide (x.Hour ≤ l.Field.Close) && !(pl l x.Player).entered <;> simp
  · have e : (decide (x.Kind = 1) || decide (x.Kind = 2)) = false := by
      rw [Bool.eq_false_iff]; simpa using h1
    rw [e]
    simp only [cond_false]
    by_cases h3 : x.Kind = 3
    · have e4 : decide (x.Kind = 4) = false := decide_eq_false (by omega)
      rw [e4, decide_eq_true h3]
      simp only [cond_true, cond_false, Bool.false_and, Bool.true_and]
      cases ((decide (x.Hour ≤ l.Field.Freeze) && !(pl l x.Player).wild) && !(pl l x.Player).quit) && decide ((l.wilds.length : Int) < l.Field.Wilds) <;> exact ⟨rfl, rfl, rfl⟩
    · rw [decide_eq_false h3]
      simp only [cond_false, Bool.false_and]
      cases decide (x.Kind = 4) with
      | true => simp only [cond_true, Bool.true_and]; simp
      | false => simp only [cond_false, Bool.false_and]; cases decide (x.Kind = 5) <;> exact ⟨rfl, rfl, rfl⟩
theorem aMf {l : aI} {x : aJ} (h : Wd l) : Wd (bQ l x) := by
  have hw := oZ l x
  cases hc : decide (x.Kind = 3) && (((decide (x.Hour ≤ l.Field.Freeze) && !(pl l x.Player).wild) && !(pl l x.Player).quit) && decide ((l.wilds.length : Int) < l.Field.Wilds)) with
  | true =>
    rw [hc] at hw
    simp only [cond_true] at hw
    simp only [Bool.and_eq_true, Bool.not_eq_true', decide_eq_true_eq] at hc
    have hnw : x.Player ∉ l.wilds := fun hm => by rw [(h.fl _).1 hm] at hc; exact absurd hc.2.1.1.2 (by simp)
    refine ⟨?_, ?_, fun n => ?_⟩
    · rw [hw.1]
      refine List.nodup_append.2 ⟨h.nd, by simp, fun a ha b hb => ?_⟩
      rw [List.mem_singleton.1 hb]
      intro e
      exact hnw (e ▸ ha)
    · rw [hw.1, (kB l x).1, List.length_append]
      simp
      omega
    · rw [hw.1, lU, List.mem_append, List.mem_singleton]
      by_cases e : n = x.Player
      · subst e; rw [decide_eq_true rfl, cond_true, hw.2.2]; simp
      · rw [decide_eq_false e, cond_false, ← h.fl n]; simp [e]
  | false =>
    rw [hc] at hw
    simp only [cond_false] at hw
    cases h4 : decide (x.Kind = 4) with
    | true =>
      rw [h4] at hw
      simp only [cond_true] at hw
      refine ⟨?_, ?_, fun n => ?_⟩
      · rw [hw.1]; exact h.nd.sublist List.filter_sublist
      · rw [hw.1, (kB l x).1]
        have := List.length_filter_le (fun m => !decide (m = x.Player)) l.wilds
        have := h.len
        omega
      · rw [hw.1, lU, List.mem_filter]
        by_cases e : n = x.Player
        · subst e; rw [decide_eq_true rfl, cond_true, hw.2.2]; simp
        · rw [decide_eq_false e, cond_false, ← h.fl n]; simp
    | false =>
      rw [h4] at hw
      simp only [cond_false] at hw
      refine ⟨by rw [hw.1]; exact h.nd, by rw [hw.1, (kB l x).1]; exact h.len, fun n => ?_⟩
      rw [hw.1, lU]
      by_cases e : n = x.Player
      · subst e; rw [decide_eq_true rfl, cond_true, hw.2.2]; exact h.fl _
      · rw [decide_eq_false e, cond_false]; exact h.fl n
theorem wK (l : aI) (x : aJ) : (cB l x).wilds = (bQ l x).wilds ∧ (cB l x).more = (bQ l x).more := by
  have e : ∀ l1 : aI, (bif (bQ l1 x).frozen then kT (bQ l1 x) else bQ l1 x).wilds = (bQ l1 x).wilds ∧ (bif (bQ l1 x).frozen then kT (bQ l1 x) else bQ l1 x).more = (bQ l1 x).more := fun l1 => by
    cases (bQ l1 x).frozen <;> exact ⟨rfl, rfl⟩
  unfold cB
  simp only
  rw [(e _).1, (e _).2]
  cases decide (l.Field.Freeze < x.Hour) with
  | false => exact ⟨rfl, rfl⟩
  | true =>
    rw [cond_true]
    have hf := eX l
    have a := oZ (dQ l) x
    have b := oZ l x
    have ep : ∀ n, pl (dQ l) n = pl l n := fun n => by unfold pl; rw [hf.1]
    rw [ep, hf.2.1, hf.2.2.1, hf.2.2.2] at a
    exact ⟨a.1.trans b.1.symm, a.2.1.trans b.2.1.symm⟩
theorem aGq {l : aI} {x : aJ} (h : Wd l) : Wd (cB l x) :=
  aDv (aMf (x := x) h) (oT l x) (wK l x).1 ((nE l x).trans (kB l x).1.symm)
theorem aBk : ∀ (t : List aJ) {l : aI}, Wd l → Wd (t.foldl cB l)
  | [], _, h => h
  | _ :: t, _, h => aBk t (aGq h)
/-- Up to Freeze nothing is given back. -/
theorem aHa : ∀ (t : List aJ) {l : aI}, (∀ x ∈ t, x.Hour ≤ l.Field.Freeze) → (t.foldl cB l).more = l.more
  | [], _, _ => rfl
  | x :: t, l, h => by
    have hx := h x (by simp)
    rw [List.foldl_cons, aHa t (fun y hy => by rw [nE]; exact h y (by simp [hy])), (wK l x).2, (oZ l x).2.1]
    rw [decide_eq_false (show ¬ l.Field.Freeze < x.Hour by omega), Bool.and_false, Bool.and_false, cond_false]
theorem aJc {xs : List Int} (h : xs.Nodup) {n : Int} (hn : n ∈ xs) : (xs.filter fun m => !decide (m = n)).length + 1 = xs.length := by
  induction xs with
  | nil => simp at hn
  | cons a t ih =>
    have h1 := List.nodup_cons.1 h
    by_cases e : a = n
    · subst e
      rw [List.filter_cons_of_neg (by simp), List.filter_eq_self.2 fun m hm => by simp; rintro rfl; exact h1.1 hm]
      rfl
    · rw [List.filter_cons_of_pos (by simp [e])]
      have := ih h1.2 ((List.mem_cons.1 hn).resolve_left fun h => e h.symm)
      simp only [List.length_cons]
      omega
/-- Beyond Freeze each wild card that goes gives a place back. -/
theorem aDa : ∀ (t : List aJ) {l : aI}, Wd l → (∀ x ∈ t, l.Field.Freeze < x.Hour) → (t.foldl cB l).more + ((t.foldl cB l).wilds.length : Int) = l.more + (l.wilds.length : Int) ∧ (t.foldl cB l).wilds.Sublist l.wilds
  | [], _, _, _ => ⟨rfl, .refl _⟩
  | x :: t, l, hw, h => by
    have hx := h x (by simp)
    have ih := aDa t (l := cB l x) (aGq hw) fun y hy => by rw [nE]; exact h y (by simp [hy])
    have hs := wK l x
    have ht := oZ l x
    rw [decide_eq_false (show ¬ x.Hour ≤ l.Field.Freeze by omega), decide_eq_true hx] at ht
    simp only [Bool.false_and, Bool.and_false, cond_false, Bool.and_true] at ht
    rw [List.foldl_cons]
    have k : (cB l x).more + ((cB l x).wilds.length : Int) = l.more + (l.wilds.length : Int) ∧ (cB l x).wilds.Sublist l.wilds := by
      rw [hs.1, hs.2, ht.1, ht.2.1]
      cases h4 : decide (x.Kind = 4) with
      | false => simp
      | true =>
        simp only [cond_true, Bool.true_and]
        refine ⟨?_, List.filter_sublist⟩
        cases hp : (pl l x.Player).wild with
        | true =>
          have := aJc hw.nd ((hw.fl _).2 hp)
          simp only [cond_true]
          omega
        | false =>
          have : x.Player ∉ l.wilds := fun hm => by rw [(hw.fl _).1 hm] at hp; cases hp
          rw [List.filter_eq_self.2 fun m hm => by simp; rintro rfl; exact this hm]
          rfl
    exact ⟨ih.1.trans k.1, ih.2.trans k.2⟩
end Go.Am

end
section
namespace Go.Am

/-- Who has a wild card has not quit. -/
def WQ (l : aI) : Prop := ∀ n, (pl l n).wild = true → (pl l n).quit = false
theorem aMe {l : aI} {x : aJ} (h : WQ l) : WQ (cB l x) := by
  intro n
  rw [tI]
  by_cases e : n = x.Player
  · subst e
    rw [decide_eq_true rfl, cond_true, (oZ l x).2.2]
    intro hw
    cases hq : (upP l x).quit with
    | false => rfl
    | true =>
      rcases (aHe l x).1 hq with h2 | h4
      · cases hc : decide (x.Kind = 3) && (((decide (x.Hour ≤ l.Field.Freeze) && !(pl l x.Player).wild) && !(pl l x.Player).quit) && decide ((l.wilds.length : Int) < l.Field.Wilds)) with
        | true => rw [h2] at hc; simp at hc
        | false =>
          rw [hc, cond_false] at hw
          cases h4 : decide (x.Kind = 4) with
          | true => rw [h4] at hw; cases hw
          | false =>
            rw [h4, cond_false] at hw
            rw [h _ hw] at h2; cases h2
      · rw [decide_eq_false (show ¬ x.Kind = 3 by omega), decide_eq_true h4] at hw
        cases hw
  · rw [decide_eq_false e, cond_false]; exact h n
theorem aGo : ∀ (t : List aJ) {l : aI}, WQ l → WQ (t.foldl cB l)
  | [], _, h => h
  | _ :: t, _, h => aGo t (aMe h)
theorem aMd (f : aV) : WQ (dG f) := fun n h => by simp [pl, dG, aH, zP] at h
theorem aNc (l : aI) (x : aJ) : (upP l x).signed = true ↔ (pl l x.Player).signed = true ∨ x.Kind = 5 := by
  unfold upP
  simp only
  by_cases h5 : x.Kind = 5
  · simp [h5]
  · simp only [h5, decide_false, cond_false, or_false]
    cases decide (x.Kind = 1) || decide (x.Kind = 2) with
    | true => simp only [cond_true]; cases decide (x.Hour ≤ l.Field.Close) && !(pl l x.Player).entered <;> exact Iff.rfl
    | false =>
      simp only [cond_false]
      cases decide (x.Kind = 3) with
      | true => simp only [cond_true]; cases ((decide (x.Hour ≤ l.Field.Freeze) && !(pl l x.Player).wild) && !(pl l x.Player).quit) && decide ((l.wilds.length : Int) < l.Field.Wilds) <;> exact Iff.rfl
      | false => simp only [cond_false]; cases decide (x.Kind = 4) <;> exact Iff.rfl
theorem aKc (l : aI) (x : aJ) (n : Int) : (pl (cB l x) n).signed = true ↔ (pl l n).signed = true ∨ (x.Kind = 5 ∧ x.Player = n) := by
  rw [tI]
  by_cases h : n = x.Player
  · subst h; rw [decide_eq_true rfl, cond_true, aNc]; simp
  · rw [decide_eq_false h, cond_false]
    exact ⟨.inl, fun hh => hh.elim id fun hh => absurd hh.2.symm h⟩
theorem aDg : ∀ (t : List aJ) (l : aI) (n : Int), (pl (t.foldl cB l) n).signed = true ↔ (pl l n).signed = true ∨ ∃ x ∈ t, x.Kind = 5 ∧ x.Player = n
  | [], _, _ => by simp
  | x :: t, l, n => by
    rw [List.foldl_cons, aDg t, aKc]
    simp only [List.mem_cons, exists_eq_or_imp, or_assoc]
theorem aGj (l : aI) (x : aJ) : (cB l x).frozen = (l.frozen || decide (l.Field.Freeze < x.Hour)) := by
  have e : ∀ l1 : aI, (bif (bQ l1 x).frozen then kT (bQ l1 x) else bQ l1 x).frozen = l1.frozen := fun l1 => by
    rw [← (kB l1 x).2.1]
    cases h : (bQ l1 x).frozen
    · exact h
    · exact h
  unfold cB
  simp only
  rw [e]
  cases decide (l.Field.Freeze < x.Hour) with
  | false => simp
  | true =>
    rw [cond_true, Bool.or_true]
    unfold dQ
    cases h : l.frozen
    · rfl
    · exact h
theorem yW : ∀ (t : List aJ) (l : aI), (t.foldl cB l).frozen = (l.frozen || t.any fun x => decide (l.Field.Freeze < x.Hour))
  | [], l => by simp
  | x :: t, l => by
    rw [List.foldl_cons, yW t, aGj, nE, List.any_cons, Bool.or_assoc]
/-- No one more can have a place. -/
def FL (l : aI) : Prop := l.frozen = true → plc l ≤ ((bO l).length : Int) ∨ (fP l).find? (lH l (bO l)) = none
theorem aCk (l : aI) (first : List Int) : ∀ (k : Nat) (late : List Int), plc l - ((first ++ late).length : Int) ≤ k →
    plc l ≤ ((first ++ iQ l first k late).length : Int) ∨ (fP l).find? (lH l (first ++ iQ l first k late)) = none
  | 0, late, h => .inl (by rw [iQ]; omega)
  | k + 1, late, h => by
    rw [iQ]
    cases hp : decide (((first ++ late).length : Int) < plc l) with
    | false =>
      rw [cond_false]
      rw [decide_eq_false_iff_not] at hp
      exact .inl (by omega)
    | true =>
      rw [cond_true]
      cases hm : (fP l).find? (lH l (first ++ late)) with
      | none => exact .inr hm
      | some n =>
        refine aCk l first k (late ++ [n]) ?_
        rw [← List.append_assoc, List.length_append]
        simp only [List.length_singleton]
        omega
theorem aMa {f : aV} {l : aI} {x : aJ} {i : Nat} (h : fE f l i) (hi : i < 60) (hx : gL x = true) : FL (cB l x) := by
  have h1 : fE f (bif decide (l.Field.Freeze < x.Hour) then dQ l else l) i := by
    cases decide (l.Field.Freeze < x.Hour)
    · exact h
    · exact mE h
  have h2 := qE h1 hi hx
  unfold cB
  simp only
  generalize bQ (bif decide (l.Field.Freeze < x.Hour) then dQ l else l) x = l2 at h2
  cases hz : l2.frozen with
  | false => rw [cond_false]; intro hh; rw [hz] at hh; cases hh
  | true =>
    rw [cond_true]
    intro _
    have e : bO (kT l2) = (l2.first.filter fun n => isE l2.players n) ++ iQ l2 (l2.first.filter fun n => isE l2.players n) 100 (l2.late.filter fun n => isE l2.players n) := by
      unfold bO
      rw [show (kT l2).frozen = true from hz, cond_true]
      rfl
    rw [e]
    have hp := uA h2.wf
    exact aCk l2 _ 100 _ (by omega)
theorem aGk {f : aV} : ∀ (t : List aJ) {l : aI} {i : Nat}, fE f l i → i + t.length ≤ 60 → (∀ x ∈ t, gL x = true) → FL l → FL (t.foldl cB l)
  | [], _, _, _, _, _, h => h
  | x :: t, l, i, hg, hl, ht, _ => by
    simp only [List.length_cons] at hl
    exact aGk t (mS hg (by omega) (ht x (by simp))) (by omega) (fun y hy => ht y (by simp [hy])) (aMa hg (by omega) (ht x (by simp)))
theorem aHd {f : aV} : ∀ (t : List aJ) {l : aI} {i : Nat}, fE f l i → i + t.length ≤ 60 → (∀ x ∈ t, gL x = true) → MS l → Pk l (bO l) → Pk (t.foldl cB l) (bO (t.foldl cB l))
  | [], _, _, _, _, _, _, h => h
  | x :: t, l, i, hg, hl, ht, hm, hp => by
    simp only [List.length_cons] at hl
    exact aHd t (mS hg (by omega) (ht x (by simp))) (by omega) (fun y hy => ht y (by simp [hy])) (aGl l x) (aNe hg (by omega) (ht x (by simp)) hm hp)
/-- What holds of the list at an hour. -/
structure AF (f : aV) (l : List aJ) (hour : Int) (L : aI) : Prop where
  good : ∃ j, j ≤ 60 ∧ fE f L j
  ms : MS L
  pk : Pk L (bO L)
  wd : Wd L
  wh : WH L
  wq : WQ L
  quit : ∀ n, (pl L n).quit = true ↔ ∃ x ∈ l, x.Kind = 4 ∧ x.Player = n ∧ x.Hour ≤ hour
  sign : ∀ n, (pl L n).signed = true ↔ ∃ x ∈ l, x.Kind = 5 ∧ x.Player = n ∧ x.Hour ≤ hour
  fz : hour ≤ f.Freeze → L.frozen = false
  fl : (∃ x ∈ l, f.Freeze < x.Hour ∧ x.Hour ≤ hour) → plc L ≤ ((bO L).length : Int) ∨ (fP L).find? (lH L (bO L)) = none
theorem aHv {L : aI} {hour : Int} (h : L.frozen = true) : mD hour L = L := by
  unfold mD dQ
  rw [h]
  cases decide (L.Field.Freeze < hour) <;> rfl
theorem aft {f : aV} {l : List aJ} (h : VL f l) (hour : Int) : AF f l hour (aU f l hour) := by
  have hb : ∀ x ∈ l, bN x := fun x hx => vU (h.nt x hx)
  have hT := nF l
  have hlen := h.len
  have hs := lV hb h.id
  have hbT : ∀ x ∈ cX l, bN x := fun x hx => hb x ((eN x).1 hx)
  have ok : ∀ x ∈ cX l, gL x = true := fun x hx => h.nt x ((eN x).1 hx)
  have hgood := qI h hour
  unfold aU at hgood ⊢
  rw [nC hour _ _ hs hbT] at hgood ⊢
  have mem : ∀ x, x ∈ ((cX l).filter fun x => decide (x.Hour ≤ hour)) ↔ x ∈ l ∧ x.Hour ≤ hour := fun x => by
    rw [List.mem_filter, eN, decide_eq_true_eq]
  have hl : ((cX l).filter fun x => decide (x.Hour ≤ hour)).length ≤ 60 := by
    have := List.length_filter_le (fun x : aJ => decide (x.Hour ≤ hour)) (cX l)
    omega
  have ok2 : ∀ x ∈ ((cX l).filter fun x => decide (x.Hour ≤ hour)), gL x = true := fun x hx => h.nt x ((mem x).1 hx).1
  generalize ((cX l).filter fun x => decide (x.Hour ≤ hour)) = M at hgood mem hl ok2 ⊢
  have g := xG M (iX h.fd) (by omega) ok2
  have m := yE M (aBi f)
  have p0 : Pk (dG f) (bO (dG f)) := aCy (iX h.fd).wf
  have p := aHd M (iX h.fd) (by omega) ok2 (aBi f) p0
  have wd := aBk M (aGp h.fd)
  have wh := yF M (aGm f)
  have wq := aGo M (aMd f)
  have q := xT M (dG f)
  have sg := aDg M (dG f)
  have fr := yW M (dG f)
  have fl := aGk M (iX h.fd) (by omega) ok2 (fun hh => by cases hh)
  have fd : (M.foldl cB (dG f)).Field = f := g.fd
  generalize M.foldl cB (dG f) = L at hgood g m p wd wh wq q sg fr fl fd ⊢
  have ee := rF g hour
  have ep : ∀ n, pl (mD hour L) n = pl L n := fun n => by unfold pl; rw [ee.2.2]
  have efd : (mD hour L).Field = L.Field ∧ (mD hour L).more = L.more := by
    unfold mD
    cases decide (L.Field.Freeze < hour) with
    | false => exact ⟨rfl, rfl⟩
    | true => exact ⟨(eX L).2.1, (eX L).2.2.2⟩
  have i0 : ∀ n, (pl (dG f) n).quit = false := fun n => rfl
  have i1 : ∀ n, (pl (dG f) n).signed = false := fun n => rfl
  refine ⟨hgood, ?_, ?_, aDv wd ee.2.2 ee.2.1 efd.1, zE wh ee.2.2 ee.2.1, fun n => by rw [ep]; exact wq n, fun n => ?_, fun n => ?_, fun hz => ?_, fun hx => ?_⟩
  · intro n hn
    rw [ee.1] at hn
    rw [ee.2.2]; exact m n hn
  · rw [ee.1]
    refine ⟨p.nd, ?_, ?_⟩
    · unfold plc; rw [efd.1, efd.2]; exact p.len
    · rw [zR (l := L) fun n _ => by rw [ep], efd.1]; exact p.gd
  · rw [ep, q n, i0]
    constructor
    · rintro (hh | ⟨x, hx, h4, hp⟩)
      · cases hh
      · exact ⟨x, ((mem x).1 hx).1, h4, hp, ((mem x).1 hx).2⟩
    · rintro ⟨x, hx, h4, hp, hh⟩
      exact .inr ⟨x, (mem x).2 ⟨hx, hh⟩, h4, hp⟩
  · rw [ep, sg n, i1]
    constructor
    · rintro (hh | ⟨x, hx, h4, hp⟩)
      · cases hh
      · exact ⟨x, ((mem x).1 hx).1, h4, hp, ((mem x).1 hx).2⟩
    · rintro ⟨x, hx, h4, hp, hh⟩
      exact .inr ⟨x, (mem x).2 ⟨hx, hh⟩, h4, hp⟩
  · unfold mD
    rw [fd, decide_eq_false (by omega), cond_false, fr]
    rw [Bool.or_eq_false_iff]
    refine ⟨rfl, ?_⟩
    rw [List.any_eq_false]
    intro x hx
    have := ((mem x).1 hx).2
    show ¬ decide (f.Freeze < x.Hour) = true
    rw [decide_eq_true_eq]; omega
  · obtain ⟨x, hx, h1, h2⟩ := hx
    have hfr : L.frozen = true := by
      rw [fr, Bool.or_eq_true]
      exact .inr (List.any_eq_true.2 ⟨x, (mem x).2 ⟨hx, h2⟩, by show decide (f.Freeze < x.Hour) = true; rw [decide_eq_true_eq]; exact h1⟩)
    rw [aHv hfr]
    exact fl hfr
end Go.Am

end
section
namespace Go.Am

theorem xY : ∀ {ys xs : List Int}, ys.Sublist xs → xs.Nodup → (xs.filter fun n => !decide (n ∈ ys)).length + ys.length = xs.length
  | _, _, .slnil, _ => rfl
  | ys, a :: xs, .cons _ h, hn => by
    have h1 := List.nodup_cons.1 hn
    have ih := xY h h1.2
    have ha : a ∉ ys := fun hm => h1.1 (h.subset hm)
    rw [List.filter_cons_of_pos (by simpa using ha), List.length_cons, List.length_cons]
    omega
  | a :: ys, _ :: xs, .cons_cons _ h, hn => by
    have h1 := List.nodup_cons.1 hn
    have ih := xY h h1.2
    rw [List.filter_cons_of_neg (by simp)]
    have e : (xs.filter fun n => !decide (n ∈ a :: ys)) = xs.filter fun n => !decide (n ∈ ys) := List.filter_congr fun n hx => by
      have : n ≠ a := fun e => h1.1 (e ▸ hx)
      simp [this]
    rw [e, List.length_cons, List.length_cons]
    omega
theorem aEd {f : aV} {l : aI} (hour : Int) : (mD hour l).more = l.more := by
  unfold mD
  cases decide (l.Field.Freeze < hour) with
  | false => rfl
  | true => exact (eX l).2.2.2
/-- Each wild card that was given back after Freeze is a place more. -/
theorem aMh {f : aV} {l : List aJ} (h : VL f l) (hour : Int) : (hour ≤ f.Freeze → (aU f l hour).more = 0) ∧
    (f.Freeze < hour → (aU f l hour).more = (((aU f l f.Freeze).wilds.filter fun n => !decide (n ∈ (aU f l hour).wilds)).length : Int)) := by
  have hb : ∀ x ∈ l, bN x := fun x hx => vU (h.nt x hx)
  have hT := nF l
  have hlen := h.len
  have hs := lV hb h.id
  have hbT : ∀ x ∈ cX l, bN x := fun x hx => hb x ((eN x).1 hx)
  have good : ∀ k, ∃ j, j ≤ 60 ∧ fE f (pE k (dG f) (cX l)) j := fun k => qA k (cX l) (dG f) 0 (iX h.fd) (by omega) fun x hx => h.nt x ((eN x).1 hx)
  obtain ⟨_, _, ga⟩ := good f.Freeze
  obtain ⟨_, _, gb⟩ := good hour
  have up : ∀ t : List aJ, (∀ x ∈ t, x.Hour ≤ f.Freeze) → (t.foldl cB (dG f)).more = 0 := fun t ht => aHa t ht
  constructor
  · intro hz
    unfold aU
    rw [aEd (f := f), nC hour _ _ hs hbT]
    exact up _ fun x hx => by have := (List.mem_filter.1 hx).2; simp only [decide_eq_true_eq] at this; omega
  · intro hz
    unfold aU
    rw [aEd (f := f), (rF ga f.Freeze).2.1, (rF gb hour).2.1, nC hour _ _ hs hbT, nC f.Freeze _ _ hs hbT, wA hs hbT (show f.Freeze ≤ hour by omega), List.foldl_append]
    have m1 := up ((cX l).filter fun x => decide (x.Hour ≤ f.Freeze)) fun x hx => by have := (List.mem_filter.1 hx).2; simpa using this
    have w1 := aBk ((cX l).filter fun x => decide (x.Hour ≤ f.Freeze)) (aGp h.fd)
    have f1 : (((cX l).filter fun x => decide (x.Hour ≤ f.Freeze)).foldl cB (dG f)).Field = f := by
      have : ∀ (t : List aJ) (l : aI), (t.foldl cB l).Field = l.Field := fun t => by
        induction t with
        | nil => intro l; rfl
        | cons x t ih => intro l; rw [List.foldl_cons, ih, nE]
      exact this _ _
    generalize ((cX l).filter fun x => decide (x.Hour ≤ f.Freeze)).foldl cB (dG f) = L at m1 w1 f1 ⊢
    have md := aDa ((cX l).filter fun x => decide (f.Freeze < x.Hour) && decide (x.Hour ≤ hour)) w1 fun x hx => by
      have := (List.mem_filter.1 hx).2
      simp only [Bool.and_eq_true, decide_eq_true_eq] at this
      rw [f1]; exact this.1
    have := xY md.2 w1.nd
    omega
theorem zL {a : List Int} (hn : a.Nodup) {i : Nat} (hi : i < a.length) : gE (fun x => decide (a[i] = x)) a = (i : Int) := by
  have e : a.findIdx (fun x => decide (a[i] = x)) = i := by
    rw [List.findIdx_eq hi]
    refine ⟨by simp, fun j hj => decide_eq_false fun e => ?_⟩
    have := (List.nodup_iff_pairwise_ne.1 hn)
    exact (List.pairwise_iff_getElem.1 this j i (by omega) hi hj) e.symm
  unfold gE
  rw [e, if_pos hi]
theorem zM {a : List Int} {p : Int} (h : p ∉ a) : decide (0 ≤ gE (fun x => decide (p = x)) a) = false := by
  rw [aJd, List.any_eq_false]
  intro x hx e
  rw [decide_eq_true_eq] at e
  exact h (e ▸ hx)
/-- Which row, and which place, a number of the three rows together is. -/
def yC (A B i : Int) : Int × Int := if A + B ≤ i then (3, i + 1 - A - B) else if A ≤ i then (2, i + 1 - A) else (1, i + 1)
theorem aKe {a b c : List Int} (hn : (a ++ b ++ c).Nodup) {i : Nat} (hi : i < (a ++ b ++ c).length) : oS a b c (a ++ b ++ c)[i] = yC (a.length : Int) (b.length : Int) (i : Int) := by
  have n1 := List.nodup_append.1 hn
  have n2 := List.nodup_append.1 n1.1
  unfold oS yC
  by_cases h1 : i < a.length
  · have e : (a ++ b ++ c)[i] = a[i] := by rw [List.getElem_append_left (by rw [List.length_append]; omega), List.getElem_append_left h1]
    rw [e, zL n2.1 h1, decide_eq_true (by omega), cond_true, if_neg (by omega), if_neg (by omega)]
  · by_cases h2 : i < (a ++ b).length
    · rw [List.length_append] at h2
      have hb : i - a.length < b.length := by omega
      have e : (a ++ b ++ c)[i] = b[i - a.length] := by rw [List.getElem_append_left (by rw [List.length_append]; omega), List.getElem_append_right (by omega)]
      have hno : b[i - a.length] ∉ a := fun hm => n2.2.2 _ hm _ (List.getElem_mem hb) rfl
      rw [e, zM hno, cond_false, zL n2.2.1 hb, decide_eq_true (by omega), cond_true, if_neg (by omega), if_pos (by omega)]
      simp only [Prod.mk.injEq, true_and]
      omega
    · have hc : i - (a ++ b).length < c.length := by rw [List.length_append] at hi; omega
      have e : (a ++ b ++ c)[i] = c[i - (a ++ b).length] := List.getElem_append_right (by omega)
      have hno : c[i - (a ++ b).length] ∉ a ++ b := fun hm => n1.2.2 _ hm _ (List.getElem_mem hc) rfl
      rw [List.mem_append, not_or] at hno
      rw [e, zM hno.1, cond_false, zM hno.2, cond_false, zL n1.2.1 hc, decide_eq_true (by omega), cond_true]
      rw [List.length_append] at h2 ⊢
      rw [if_pos (by omega)]
      simp only [Prod.mk.injEq, true_and]
      omega
/-- Nobody is in two of the rows, or twice in one. -/
theorem aCc {f : aV} {l : List aJ} {hour : Int} {L : aI} (h : AF f l hour L) : (bO L ++ L.wilds ++ gV L).Nodup := by
  obtain ⟨_, _, g⟩ := h.good
  have hw : ∀ n ∈ L.wilds, isE L.players n = false := fun n hn => by
    rw [tX, (h.wh n).1 hn]; simp
  refine List.nodup_append.2 ⟨List.nodup_append.2 ⟨h.pk.nd, h.wd.nd, fun a ha b hb e => ?_⟩, (aAd g.wf).filter _, fun a ha b hb e => ?_⟩
  · subst e
    have := h.ms a ha
    rw [hw a hb] at this; cases this
  · subst e
    unfold gV at hb
    have hb2 := List.mem_filter.1 hb
    rcases List.mem_append.1 ha with h1 | h1
    · have := hb2.2; simp [h1] at this
    · have := oG.1 hb2.1
      rw [hw a h1] at this; cases this
end Go.Am

end
