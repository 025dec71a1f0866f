/- Plain laws, one behind the other. -/
import Derived.Test.YtfdappeickbpeaaGreatEntryStaysLaw
section
namespace Go.Am

/-- A notice by which a player enters. -/
def pV (f : aS) (hour p : Int) (x : aJ) : Bool := decide (x.Player = p) && (decide (x.Kind = 1) || decide (x.Kind = 2)) && decide (x.Hour ≤ hour) && decide (x.Hour ≤ f.Close)
def tM (x y : aJ) : Bool := decide (x.Hour < y.Hour) || (decide (x.Hour = y.Hour) && decide (x.Id < y.Id))
def nB (f : aS) (hour p : Int) (y : aJ) (l : List aJ) : aJ := l.foldl (fun y x => bif pV f hour p x && tM x y then x else y) y
def aDu (x : aJ) : Bool × Bool × Int := (decide (x.Hour ≤ 9999), decide (x.Kind = 2), x.Rank)
theorem aHh (f : aS) (l : List aJ) (hour p : Int) (hl : l.length ≤ 60) : dX f l hour p = some (aDu (nB f hour p (aJ.mk 0 10000 0 0 0) l)) := by
  have key := lO (S := aJ) (fun k i y => cM l hour p f k i y) l.length (fun i y => some (aDu (nB f hour p y (l.drop i)))) (fun _ _ => True) (fun k i y hi _ ih => ?_) (fun k y _ => ?_) BIG (aJ.mk 0 10000 0 0 0) (gD (by omega)) trivial
  · unfold dX
    rw [key]; rfl
  · simp only [cM, show decide ((i : Int) < (l.length : Int)) = true by simpa using hi, cond_true, eY hi, Option.bind_some, dQ (show i < 9223372036854775807 by omega)]
    have e : ((bif decide (l[i].Player = p) then ((bif decide (l[i].Kind = 1) then (some true) else (some (decide (l[i].Kind = 2)))).bind fun b5 => some b5) else (some false)).bind fun b6 => (bif b6 then (some (decide (l[i].Hour ≤ hour))) else (some false)).bind fun b7 => (bif b7 then (some (decide (l[i].Hour ≤ f.Close))) else (some false)).bind fun b8 => (bif b8 then ((bif decide (l[i].Hour < y.Hour) then (some true) else ((bif decide (l[i].Hour = y.Hour) then (some (decide (l[i].Id < y.Id))) else (some false)).bind fun b9 => some b9)).bind fun b10 => some b10) else (some false))) = some (pV f hour p l[i] && tM l[i] y) := by
      unfold pV tM
      cases decide (l[i].Player = p) <;> cases decide (l[i].Kind = 1) <;> cases decide (l[i].Kind = 2) <;> cases decide (l[i].Hour ≤ hour) <;> cases decide (l[i].Hour ≤ f.Close) <;> cases decide (l[i].Hour < y.Hour) <;> cases decide (l[i].Hour = y.Hour) <;> cases decide (l[i].Id < y.Id) <;> rfl
    rw [List.drop_eq_getElem_cons hi]
    show _ = some (aDu (nB f hour p (bif pV f hour p l[i] && tM l[i] y then l[i] else y) (l.drop (i + 1))))
    rw [← ih _ trivial]
    have e2 := congrArg (fun o : Option Bool => o.bind fun b11 => bif b11 then cM l hour p f k ((i + 1 : Nat) : Int) l[i] else cM l hour p f k ((i + 1 : Nat) : Int) y) e
    simp only [Option.bind_some] at e2
    have e3 : (bif pV f hour p l[i] && tM l[i] y then cM l hour p f k ((i + 1 : Nat) : Int) l[i] else cM l hour p f k ((i + 1 : Nat) : Int) y) = cM l hour p f k ((i + 1 : Nat) : Int) (bif pV f hour p l[i] && tM l[i] y then l[i] else y) := by
      cases pV f hour p l[i] && tM l[i] y <;> rfl
    rw [← e3, ← e2]
    cases decide (l[i].Player = p) <;> cases decide (l[i].Kind = 1) <;> cases decide (l[i].Kind = 2) <;> cases decide (l[i].Hour ≤ hour) <;> cases decide (l[i].Hour ≤ f.Close) <;> cases decide (l[i].Hour < y.Hour) <;> cases decide (l[i].Hour = y.Hour) <;> cases decide (l[i].Id < y.Id) <;> rfl
  · simp [cM, mB, aDu, nB]
end Go.Am

end
section
namespace Go.Am

theorem aKg {x y : aJ} (hx : bN x) (hy : 0 ≤ y.Id ∧ y.Id ≤ 999) : tM x y = true ↔ eI x < eI y := by
  unfold bN at hx
  unfold tM eI
  simp only [Bool.or_eq_true, Bool.and_eq_true, decide_eq_true_eq]
  omega
/-- The least one. -/
theorem uR (f : aS) (hour p : Int) : ∀ (l : List aJ) (y : aJ), (∀ x ∈ l, bN x) → (0 ≤ y.Id ∧ y.Id ≤ 999) →
    (nB f hour p y l = y ∨ (nB f hour p y l ∈ l ∧ pV f hour p (nB f hour p y l) = true)) ∧ eI (nB f hour p y l) ≤ eI y ∧ ∀ x ∈ l, pV f hour p x = true → eI (nB f hour p y l) ≤ eI x
  | [], y, _, _ => ⟨.inl rfl, Int.le_refl _, fun x hx => by simp at hx⟩
  | z :: l, y, hb, hy => by
    have hz := hb z (by simp)
    have hk := aKg hz hy
    have e : nB f hour p y (z :: l) = nB f hour p (bif pV f hour p z && tM z y then z else y) l := rfl
    cases hc : pV f hour p z && tM z y with
    | true =>
      rw [hc, cond_true] at e
      rw [Bool.and_eq_true, hk] at hc
      have ih := uR f hour p l z (fun x hx => hb x (by simp [hx])) (by unfold bN at hz; omega)
      rw [← e] at ih
      refine ⟨.inr ?_, by omega, fun x hx hm => ?_⟩
      · rcases ih.1 with h | h
        · rw [h]; exact ⟨by simp, hc.1⟩
        · exact ⟨by simp [h.1], h.2⟩
      · rcases List.mem_cons.1 hx with h | h
        · rw [h]; exact ih.2.1
        · exact ih.2.2 x h hm
    | false =>
      rw [hc, cond_false] at e
      have ih := uR f hour p l y (fun x hx => hb x (by simp [hx])) hy
      rw [← e] at ih
      refine ⟨ih.1.imp id fun h => ⟨by simp [h.1], h.2⟩, ih.2.1, fun x hx hm => ?_⟩
      rcases List.mem_cons.1 hx with h | h
      · subst h
        rw [hm, Bool.true_and] at hc
        have : ¬ eI x < eI y := fun hlt => by rw [hk.2 hlt] at hc; cases hc
        omega
      · exact ih.2.2 x h hm
end Go.Am

end
section
namespace Go.Am

theorem aJt {l : aI} {x : aJ} (h : (pl l x.Player).entered = true) : (upP l x).entered = true ∧ (upP l x).guard = (pl l x.Player).guard ∧ (upP l x).rank = (pl l x.Player).rank := by
  unfold upP
  simp only [h, Bool.not_true, Bool.and_false, cond_false]
  cases decide (x.Kind = 1) || decide (x.Kind = 2) with
  | true => first | exact ⟨h, rfl, rfl⟩ | exact ⟨rfl, rfl, rfl⟩
  | false =>
    simp only [cond_false]
    cases decide (x.Kind = 3) with
    | true => simp only [cond_true]; cases ((decide (x.Hour ≤ l.Field.Freeze) && !(pl l x.Player).wild) && !(pl l x.Player).quit) && decide ((l.wilds.length : Int) < l.Field.Wilds) <;> first | exact ⟨h, rfl, rfl⟩ | exact ⟨rfl, rfl, rfl⟩
    | false =>
      simp only [cond_false]
      cases decide (x.Kind = 4) with
      | true => first | exact ⟨h, rfl, rfl⟩ | exact ⟨rfl, rfl, rfl⟩
      | false => simp only [cond_false]; cases decide (x.Kind = 5) <;> first | exact ⟨h, rfl, rfl⟩ | exact ⟨rfl, rfl, rfl⟩
/-- A notice by which a player enters, of whatever hour. -/
def uN (f : aS) (p : Int) (x : aJ) : Bool := decide (x.Player = p) && (decide (x.Kind = 1) || decide (x.Kind = 2)) && decide (x.Hour ≤ f.Close)
theorem aNq {l : aI} {x : aJ} (h : (pl l x.Player).entered = false) : ((upP l x).entered = true ↔ uN l.Field x.Player x = true) ∧ (uN l.Field x.Player x = true → (upP l x).guard = decide (x.Kind = 2) ∧ (upP l x).rank = x.Rank) := by
  unfold upP uN
  simp only [h, Bool.not_false, Bool.and_true, decide_true, Bool.true_and]
  cases decide (x.Kind = 1) || decide (x.Kind = 2) with
  | true =>
    simp only [cond_true, Bool.true_and]
    cases decide (x.Hour ≤ l.Field.Close) with
    | true => simp
    | false => simp [h]
  | false =>
    simp only [cond_false, Bool.false_and]
    refine ⟨?_, fun hh => by cases hh⟩
    cases decide (x.Kind = 3) with
    | true => simp only [cond_true]; cases ((decide (x.Hour ≤ l.Field.Freeze) && !(pl l x.Player).wild) && !(pl l x.Player).quit) && decide ((l.wilds.length : Int) < l.Field.Wilds) <;> simp [h]
    | false =>
      simp only [cond_false]
      cases decide (x.Kind = 4) with
      | true => simp [h]
      | false => simp only [cond_false]; cases decide (x.Kind = 5) <;> simp [h]
theorem vM (l : aI) (x : aJ) (n : Int) : pl (bX l x) n = bif decide (n = x.Player) then upP l x else pl l n := by
  have e : pl (bX l x) n = pl (bE l x) n := by unfold pl; rw [oE]
  rw [e, lP]
theorem sR (l : aI) (x : aJ) : (bX l x).Field = l.Field := by
  have e : ∀ l1 : aI, (bif (bE l1 x).frozen then kO (bE l1 x) else bE l1 x).Field = l1.Field := fun l1 => by
    cases (bE l1 x).frozen <;> exact (jN l1 x).1
  unfold bX
  simp only
  rw [e]
  cases decide (l.Field.Freeze < x.Hour) with
  | false => rfl
  | true => exact (fJ l).2.1
theorem aBz : ∀ (t : List aJ) {l : aI} {n : Int}, (pl l n).entered = true → (pl (t.foldl bX l) n).entered = true ∧ (pl (t.foldl bX l) n).guard = (pl l n).guard ∧ (pl (t.foldl bX l) n).rank = (pl l n).rank
  | [], _, _, h => ⟨h, rfl, rfl⟩
  | x :: t, l, n, h => by
    have hs : (pl (bX l x) n).entered = true ∧ (pl (bX l x) n).guard = (pl l n).guard ∧ (pl (bX l x) n).rank = (pl l n).rank := by
      rw [vM]
      by_cases e : n = x.Player
      · subst e; rw [decide_eq_true rfl, cond_true]; exact aJt h
      · rw [decide_eq_false e, cond_false]; exact ⟨h, rfl, rfl⟩
    have ih := aBz t hs.1
    rw [List.foldl_cons]
    exact ⟨ih.1, ih.2.1.trans hs.2.1, ih.2.2.trans hs.2.2⟩
/-- The first of them says it. -/
theorem zB (n : Int) : ∀ (t : List aJ) {l : aI}, (pl l n).entered = false → match t.find? (uN l.Field n) with
    | none => (pl (t.foldl bX l) n).entered = false
    | some x => (pl (t.foldl bX l) n).entered = true ∧ (pl (t.foldl bX l) n).guard = decide (x.Kind = 2) ∧ (pl (t.foldl bX l) n).rank = x.Rank
  | [], _, h => h
  | x :: t, l, h => by
    rw [List.foldl_cons, List.find?_cons]
    by_cases e : n = x.Player
    · subst e
      have hu := aNq h
      have hp := vM l x x.Player
      rw [decide_eq_true rfl, cond_true] at hp
      cases hc : uN l.Field x.Player x with
      | true =>
        have k := aBz t (l := bX l x) (n := x.Player) (by rw [hp]; exact hu.1.2 hc)
        rw [hp] at k
        exact ⟨k.1, k.2.1.trans (hu.2 hc).1, k.2.2.trans (hu.2 hc).2⟩
      | false =>
        have ih := zB x.Player t (l := bX l x) (by
          rw [hp]
          cases hq : (upP l x).entered with
          | false => rfl
          | true => rw [hu.1.1 hq] at hc; cases hc)
        rw [sR] at ih
        exact ih
    · have hp := vM l x n
      rw [decide_eq_false e, cond_false] at hp
      have hc : uN l.Field n x = false := by
        unfold uN
        rw [decide_eq_false fun h => e h.symm]; rfl
      rw [hc]
      have ih := zB n t (l := bX l x) (by rw [hp]; exact h)
      rw [sR] at ih
      exact ih
end Go.Am

end
section
namespace Go.Am

theorem aFp {t : List aJ} (hs : t.Pairwise fun x y => eI x < eI y) {p : aJ → Bool} {x : aJ} (h : t.find? p = some x) : x ∈ t ∧ p x = true ∧ ∀ y ∈ t, p y = true → eI x ≤ eI y := by
  refine ⟨List.mem_of_find?_eq_some h, List.find?_some h, ?_⟩
  induction t with
  | nil => simp at h
  | cons z t ih =>
    have h1 := List.pairwise_cons.1 hs
    rw [List.find?_cons] at h
    cases hp : p z with
    | true =>
      rw [hp] at h
      have e : z = x := by simpa using h
      subst e
      intro y hy _
      rcases List.mem_cons.1 hy with e | hy
      · rw [e]; exact Int.le_refl _
      · exact Int.le_of_lt (h1.1 y hy)
    | false =>
      rw [hp] at h
      intro y hy hpy
      rcases List.mem_cons.1 hy with e | hy
      · rw [e, hp] at hpy; cases hpy
      · exact ih h1.2 h y hy hpy
theorem aMo (f : aS) (n : Int) : (pl (dN f) n).entered = false := rfl
theorem aNn {f : aS} {l : aI} {i : Nat} (h : fA f l i) (hour n : Int) : pl (mN hour l) n = pl l n := by
  unfold pl; rw [(vT h hour).2.2]
/-- Whether, how and with which rank a player entered. -/
theorem vU {f : aS} {l : List aJ} (h : VL f l) (hour p : Int) : ∃ g r, dX f l hour p = some ((pl (bA f l hour) p).entered, g, r) ∧ ((pl (bA f l hour) p).entered = true → g = (pl (bA f l hour) p).guard ∧ r = (pl (bA f l hour) p).rank) ∧ ((pl (bA f l hour) p).entered = false → g = false ∧ r = 0) := by
  have hb : ∀ x ∈ l, bN x := fun x hx => zR (h.nt x hx)
  have hT := qN l
  have hlen := h.len
  have hs := pH hb h.id
  have hbT : ∀ x ∈ dH l, bN x := fun x hx => hb x ((gW x).1 hx)
  obtain ⟨_, _, ga⟩ := tU hour (dH l) (dN f) 0 (jO h.fd) (by omega) fun x hx => h.nt x ((gW x).1 hx)
  have sp := uR f hour p l (aJ.mk 0 10000 0 0 0) hb ⟨by decide, by decide⟩
  rw [aHh f l hour p (by omega)]
  generalize nB f hour p (aJ.mk 0 10000 0 0 0) l = F at sp
  unfold bA
  rw [aNn ga, tT hour _ _ hs hbT]
  have fd := zB p ((dH l).filter fun x => decide (x.Hour ≤ hour)) (aMo f p)
  have mem : ∀ x, x ∈ ((dH l).filter fun x => decide (x.Hour ≤ hour)) ↔ x ∈ l ∧ x.Hour ≤ hour := fun x => by
    rw [List.mem_filter, gW, decide_eq_true_eq]
  have emc : ∀ x, pV f hour p x = true ↔ uN f p x = true ∧ x.Hour ≤ hour := fun x => by
    unfold pV uN
    simp only [Bool.and_eq_true, decide_eq_true_eq]
    constructor
    · rintro ⟨⟨⟨a, b⟩, c⟩, d⟩; exact ⟨⟨⟨a, b⟩, d⟩, c⟩
    · rintro ⟨⟨⟨a, b⟩, d⟩, c⟩; exact ⟨⟨⟨a, b⟩, c⟩, d⟩
  cases hf : ((dH l).filter fun x => decide (x.Hour ≤ hour)).find? (uN (dN f).Field p) with
  | none =>
    rw [hf] at fd
    have e : F = aJ.mk 0 10000 0 0 0 := by
      rcases sp.1 with e | ⟨hm, he⟩
      · exact e
      · have := List.find?_eq_none.1 hf F ((mem F).2 ⟨hm, ((emc F).1 he).2⟩)
        exact absurd ((emc F).1 he).1 this
    subst e
    refine ⟨false, 0, ?_, fun hh => ?_, fun _ => ⟨rfl, rfl⟩⟩
    · rw [fd]; rfl
    · rw [fd] at hh; cases hh
  | some x =>
    rw [hf] at fd
    have fs := aFp (hs.filter _) hf
    have hx := (mem x).1 fs.1
    have hxm : pV f hour p x = true := (emc x).2 ⟨fs.2.1, hx.2⟩
    have k1 := sp.2.2 x hx.1 hxm
    have bx := hb x hx.1
    have e : F = x := by
      rcases sp.1 with e | ⟨hm, he⟩
      · subst e
        unfold bN at bx
        unfold eI at k1
        simp only at k1
        omega
      · have k2 := fs.2.2 F ((mem F).2 ⟨hm, ((emc F).1 he).2⟩) ((emc F).1 he).1
        have bF := hb F hm
        refine h.id F hm x hx.1 ?_
        unfold bN at bx bF
        unfold eI at k1 k2
        omega
    subst e
    refine ⟨decide (F.Kind = 2), F.Rank, ?_, fun _ => ⟨fd.2.1.symm, fd.2.2.symm⟩, fun hh => ?_⟩
    · rw [fd.1]
      unfold aDu
      unfold bN at bx
      rw [decide_eq_true (by omega)]
    · rw [fd.1] at hh; cases hh
end Go.Am

end
section
namespace Go.Am

/-- What holds of who is in. -/
structure Pk (l : aI) (xs : List Int) : Prop where
  nd : xs.Nodup
  len : (xs.length : Int) ≤ plc l
  gd : ((gd l xs : Nat) : Int) ≤ l.Field.Guards
theorem aBl (l : aI) : ∀ (t acc : List Int), Pk l acc → (acc ++ t).Nodup → Pk l (kF l acc t)
  | [], acc, h, _ => h
  | n :: t, acc, h, hn => by
    rw [nY]
    cases hc : psn l acc n with
    | true =>
      rw [cond_true]
      have c := vJ.1 hc
      refine aBl l t _ ⟨?_, ?_, ?_⟩ (by rw [List.append_assoc]; exact hn)
      · have := List.nodup_append.1 hn
        refine List.nodup_append.2 ⟨this.1, by simp, fun a ha b hb => ?_⟩
        rw [List.mem_singleton.1 hb]
        exact this.2.2 a ha n (by simp)
      · rw [List.length_append]; simp; omega
      · rw [tN]
        have := h.gd
        cases hg : (pl l n).guard with
        | true => have := c.2 hg; simp; omega
        | false => simp; exact h.gd
    | false =>
      rw [cond_false]
      refine aBl l t acc h ?_
      exact hn.sublist (List.Sublist.append (List.Sublist.refl _) (List.sublist_cons_self n t))
theorem aNj {l : aI} (h : WF l) : 0 ≤ l.Field.Guards := by
  have hf := h.fd
  unfold oO at hf
  simp only [Bool.and_eq_true, vO] at hf
  omega
theorem aCs {l : aI} (h : WF l) : Pk l (kA l) := by
  have hp := vI h
  exact aBl l _ _ ⟨by simp, by simp; omega, by have := aNj h; simpa [gd] using this⟩ (by simpa using aHg h)
theorem aIs (l : aI) (p : Int → Bool) (xs : List Int) : gd l (xs.filter p) ≤ gd l xs :=
  (List.filter_sublist.filter _).length_le
theorem aEa {l : aI} (first : List Int) : ∀ (k : Nat) (late : List Int), Pk l (first ++ late) → Pk l (first ++ iF l first k late)
  | 0, _, h => h
  | k + 1, late, h => by
    rw [iF]
    cases hp : decide (((first ++ late).length : Int) < plc l) with
    | false => exact h
    | true =>
      rw [cond_true]
      split
      · exact h
      · rename_i m hm
        have hm2 := List.find?_some hm
        unfold kK at hm2
        simp only [Bool.and_eq_true, Bool.not_eq_true', decide_eq_false_iff_not, Bool.or_eq_true, decide_eq_true_eq] at hm2 hp
        refine aEa first k _ ⟨?_, ?_, ?_⟩
        · rw [← List.append_assoc]
          refine List.nodup_append.2 ⟨h.nd, by simp, fun a ha b hb => ?_⟩
          rw [List.mem_singleton.1 hb]
          intro e
          exact hm2.1.2 (e ▸ ha)
        · rw [← List.append_assoc, List.length_append]; simp; simp at hp; omega
        · rw [← List.append_assoc, tN]
          have := h.gd
          cases hg : (pl l m).guard with
          | true =>
            have h2 := hm2.2
            rw [hg] at h2
            simp at h2
            simp only [if_true]
            omega
          | false => simp only [Bool.false_eq_true, if_false, Nat.add_zero]; exact this
end Go.Am

end
section
namespace Go.Am

theorem zG {l l2 : aI} {xs : List Int} (h : ∀ n ∈ xs, (pl l2 n).guard = (pl l n).guard) : gd l2 xs = gd l xs := by
  unfold gd
  rw [List.filter_congr h]
theorem aJq {l : aI} {x : aJ} {n : Int} (h : (pl l n).entered = true) : (pl (bE l x) n).guard = (pl l n).guard := by
  rw [lP]
  by_cases e : n = x.Player
  · subst e; rw [decide_eq_true rfl, cond_true]; exact (aJt h).2.1
  · rw [decide_eq_false e, cond_false]
theorem aBi {l : aI} {n : Int} (h : isE l.players n = true) : (pl l n).entered = true := by
  rw [xH] at h
  simp only [Bool.and_eq_true] at h
  exact h.1.1
theorem aMs {f : aS} {l : aI} {x : aJ} {i : Nat} (h : fA f l i) (hi : i < 60) (hx : gH x = true) (hm : MS l) (hp : Pk l (bR l)) : Pk (bX l x) (bR (bX l x)) := by
  obtain ⟨l1, h1, hm1, hp1, e1⟩ : ∃ l1, fA f l1 i ∧ MS l1 ∧ Pk l1 (bR l1) ∧ (bif decide (l.Field.Freeze < x.Hour) then dI l else l) = l1 := by
    refine ⟨_, ?_, ?_, ?_, rfl⟩ <;> cases decide (l.Field.Freeze < x.Hour)
    · exact h
    · exact lW h
    · exact hm
    · intro n hn
      rw [cond_true] at hn ⊢
      rw [rK h] at hn
      rw [(fJ l).1]; exact hm n hn
    · exact hp
    · rw [cond_true, rK h]
      have e := fJ l
      refine ⟨hp.nd, ?_, ?_⟩
      · unfold plc; rw [e.2.1, e.2.2.2]; exact hp.len
      · rw [zG (l := l) fun n _ => by unfold pl; rw [e.1], e.2.1]; exact hp.gd
  unfold bX
  rw [e1]
  have h2 := pR h1 hi hx
  have ht := jN l1 x
  have hr := (xW l1 x).1.1
  simp only
  cases hz : (bE l1 x).frozen with
  | false =>
    rw [cond_false]
    unfold bR
    rw [hz, cond_false]
    exact aCs h2.wf
  | true =>
    rw [cond_true]
    have hz1 : l1.frozen = true := by rw [← ht.2.1]; exact hz
    unfold bR at hp1
    rw [hz1, cond_true] at hp1
    have hmm : ∀ n ∈ l1.first ++ l1.late, (pl l1 n).entered = true := fun n hn => by
      refine aBi (hm1 n ?_)
      unfold bR
      rw [hz1, cond_true]; exact hn
    have hF : Pk (bE l1 x) ((l1.first ++ l1.late).filter fun n => isE (bE l1 x).players n) := by
      refine ⟨hp1.nd.sublist List.filter_sublist, ?_, ?_⟩
      · have a := List.length_filter_le (fun n => isE (bE l1 x).players n) (l1.first ++ l1.late)
        have b := hp1.len
        unfold plc at b ⊢
        rw [ht.1]
        omega
      · have a := aIs (bE l1 x) (fun n => isE (bE l1 x).players n) (l1.first ++ l1.late)
        have b := zG (l := l1) (l2 := bE l1 x) (xs := l1.first ++ l1.late) fun n hn => aJq (hmm n hn)
        have c := hp1.gd
        rw [ht.1]
        omega
    rw [List.filter_append] at hF
    have k := aEa ((bE l1 x).first.filter fun n => isE (bE l1 x).players n) 100 ((bE l1 x).late.filter fun n => isE (bE l1 x).players n) (by rw [ht.2.2.1, ht.2.2.2]; exact hF)
    have e : bR (kO (bE l1 x)) = ((bE l1 x).first.filter fun n => isE (bE l1 x).players n) ++ iF (bE l1 x) ((bE l1 x).first.filter fun n => isE (bE l1 x).players n) 100 ((bE l1 x).late.filter fun n => isE (bE l1 x).players n) := by
      unfold bR
      rw [show (kO (bE l1 x)).frozen = true from hz, cond_true]
      rfl
    rw [e]
    exact ⟨k.nd, k.len, k.gd⟩
end Go.Am

end
section
namespace Go.Am

structure Wd (l : aI) : Prop where
  nd : l.wilds.Nodup
  len : (l.wilds.length : Int) ≤ l.Field.Wilds
  fl : ∀ n, n ∈ l.wilds ↔ (pl l n).wild = true
theorem aDm {l l2 : aI} (h : Wd l) (hp : l2.players = l.players) (hw : l2.wilds = l.wilds) (hf : l2.Field = l.Field) : Wd l2 :=
  ⟨by rw [hw]; exact h.nd, by rw [hw, hf]; exact h.len, fun n => by rw [hw, h.fl n]; unfold pl; rw [hp]⟩
theorem aLt {f : aS} (h : oO f = true) : Wd (dN f) := by
  refine ⟨by simp [dN], ?_, fun n => ⟨fun h => by simp [dN] at h, fun h => by simp [pl, dN, aF, zP] at h⟩⟩
  unfold oO at h
  simp only [Bool.and_eq_true, vO] at h
  show (([] : List Int).length : Int) ≤ f.Wilds
  simp; omega
/-- What a notice does to the wild cards. -/
theorem sS (l : aI) (x : aJ) : (bE l x).wilds = (bif decide (x.Kind = 3) && (((decide (x.Hour ≤ l.Field.Freeze) && !(pl l x.Player).wild) && !(pl l x.Player).quit) && decide ((l.wilds.length : Int) < l.Field.Wilds)) then l.wilds ++ [x.Player] else bif decide (x.Kind = 4) then l.wilds.filter fun m => !decide (m = x.Player) else l.wilds) ∧
    (bE l x).more = (bif decide (x.Kind = 4) && ((pl l x.Player).wild && decide (l.Field.Freeze < x.Hour)) then l.more + 1 else l.more) ∧
    (upP l x).wild = (bif decide (x.Kind = 3) && (((decide (x.Hour ≤ l.Field.Freeze) && !(pl l x.Player).wild) && !(pl l x.Player).quit) && decide ((l.wilds.length : Int) < l.Field.Wilds)) then true else bif decide (x.Kind = 4) then false else (pl l x.Player).wild) := by
  unfold bE upP
  simp only
  by_cases h1 : x.Kind = 1 ∨ x.Kind = 2
  · have e : (decide (x.Kind = 1) || decide (x.Kind = 2)) = true := by simpa using h1
    have e3 : decide (x.Kind = 3) = false := decide_eq_false (by omega)
    have e4 : decide (x.Kind = 4) = false := decide_eq_false (by omega)
    rw [e, e3, e4]
    simp only [cond_true, cond_false, Bool.false_and]
    cases decide (x.Hour ≤ l.Field.Close) && !(pl l x.Player).entered <;> simp
  · have e : (decide (x.Kind = 1) || decide (x.Kind = 2)) = false := by
      rw [Bool.eq_false_iff]; simpa using h1
    rw [e]
    simp only [cond_false]
    by_cases h3 : x.Kind = 3
    · have e4 : decide (x.Kind = 4) = false := decide_eq_false (by omega)
      rw [e4, decide_eq_true h3]
      simp only [cond_true, cond_false, Bool.false_and, Bool.true_and]
      cases ((decide (x.Hour ≤ l.Field.Freeze) && !(pl l x.Player).wild) && !(pl l x.Player).quit) && decide ((l.wilds.length : Int) < l.Field.Wilds) <;> exact ⟨rfl, rfl, rfl⟩
    · rw [decide_eq_false h3]
      simp only [cond_false, Bool.false_and]
      cases decide (x.Kind = 4) with
      | true => simp only [cond_true, Bool.true_and]; simp
      | false => simp only [cond_false, Bool.false_and]; cases decide (x.Kind = 5) <;> exact ⟨rfl, rfl, rfl⟩
theorem aLv {l : aI} {x : aJ} (h : Wd l) : Wd (bE l x) := by
  have hw := sS l x
  cases hc : decide (x.Kind = 3) && (((decide (x.Hour ≤ l.Field.Freeze) && !(pl l x.Player).wild) && !(pl l x.Player).quit) && decide ((l.wilds.length : Int) < l.Field.Wilds)) with
  | true =>
    rw [hc] at hw
    simp only [cond_true] at hw
    simp only [Bool.and_eq_true, Bool.not_eq_true', decide_eq_true_eq] at hc
    have hnw : x.Player ∉ l.wilds := fun hm => by rw [(h.fl _).1 hm] at hc; exact absurd hc.2.1.1.2 (by simp)
    refine ⟨?_, ?_, fun n => ?_⟩
    · rw [hw.1]
      refine List.nodup_append.2 ⟨h.nd, by simp, fun a ha b hb => ?_⟩
      rw [List.mem_singleton.1 hb]
      intro e
      exact hnw (e ▸ ha)
    · rw [hw.1, (jN l x).1, List.length_append]
      simp
      omega
    · rw [hw.1, lP, List.mem_append, List.mem_singleton]
      by_cases e : n = x.Player
      · subst e; rw [decide_eq_true rfl, cond_true, hw.2.2]; simp
      · rw [decide_eq_false e, cond_false, ← h.fl n]; simp [e]
  | false =>
    rw [hc] at hw
    simp only [cond_false] at hw
    cases h4 : decide (x.Kind = 4) with
    | true =>
      rw [h4] at hw
      simp only [cond_true] at hw
      refine ⟨?_, ?_, fun n => ?_⟩
      · rw [hw.1]; exact h.nd.sublist List.filter_sublist
      · rw [hw.1, (jN l x).1]
        have := List.length_filter_le (fun m => !decide (m = x.Player)) l.wilds
        have := h.len
        omega
      · rw [hw.1, lP, List.mem_filter]
        by_cases e : n = x.Player
        · subst e; rw [decide_eq_true rfl, cond_true, hw.2.2]; simp
        · rw [decide_eq_false e, cond_false, ← h.fl n]; simp
    | false =>
      rw [h4] at hw
      simp only [cond_false] at hw
      refine ⟨by rw [hw.1]; exact h.nd, by rw [hw.1, (jN l x).1]; exact h.len, fun n => ?_⟩
      rw [hw.1, lP]
      by_cases e : n = x.Player
      · subst e; rw [decide_eq_true rfl, cond_true, hw.2.2]; exact h.fl _
      · rw [decide_eq_false e, cond_false]; exact h.fl n
theorem aIb (l : aI) (x : aJ) : (bX l x).wilds = (bE l x).wilds ∧ (bX l x).more = (bE l x).more := by
  have e : ∀ l1 : aI, (bif (bE l1 x).frozen then kO (bE l1 x) else bE l1 x).wilds = (bE l1 x).wilds ∧ (bif (bE l1 x).frozen then kO (bE l1 x) else bE l1 x).more = (bE l1 x).more := fun l1 => by
    cases (bE l1 x).frozen <;> exact ⟨rfl, rfl⟩
  unfold bX
  simp only
  rw [(e _).1, (e _).2]
  cases decide (l.Field.Freeze < x.Hour) with
  | false => exact ⟨rfl, rfl⟩
  | true =>
    rw [cond_true]
    have hf := fJ l
    have a := sS (dI l) x
    have b := sS l x
    have ep : ∀ n, pl (dI l) n = pl l n := fun n => by unfold pl; rw [hf.1]
    rw [ep, hf.2.1, hf.2.2.1, hf.2.2.2] at a
    exact ⟨a.1.trans b.1.symm, a.2.1.trans b.2.1.symm⟩
theorem aLu {l : aI} {x : aJ} (h : Wd l) : Wd (bX l x) :=
  aDm (aLv (x := x) h) (oE l x) (aIb l x).1 ((sR l x).trans (jN l x).1.symm)
theorem aGg : ∀ (t : List aJ) {l : aI}, Wd l → Wd (t.foldl bX l)
  | [], _, h => h
  | _ :: t, _, h => aGg t (aLu h)
end Go.Am

end
section
namespace Go.Am

/-- Who has a wild card has not quit. -/
def WQ (l : aI) : Prop := ∀ n, (pl l n).wild = true → (pl l n).quit = false
theorem aLs {l : aI} {x : aJ} (h : WQ l) : WQ (bX l x) := by
  intro n
  rw [vM]
  by_cases e : n = x.Player
  · subst e
    rw [decide_eq_true rfl, cond_true, (sS l x).2.2]
    intro hw
    cases hq : (upP l x).quit with
    | false => rfl
    | true =>
      rcases (aGt l x).1 hq with h2 | h4
      · cases hc : decide (x.Kind = 3) && (((decide (x.Hour ≤ l.Field.Freeze) && !(pl l x.Player).wild) && !(pl l x.Player).quit) && decide ((l.wilds.length : Int) < l.Field.Wilds)) with
        | true => rw [h2] at hc; simp at hc
        | false =>
          rw [hc, cond_false] at hw
          cases h4 : decide (x.Kind = 4) with
          | true => rw [h4] at hw; cases hw
          | false =>
            rw [h4, cond_false] at hw
            rw [h _ hw] at h2; cases h2
      · rw [decide_eq_false (show ¬ x.Kind = 3 by omega), decide_eq_true h4] at hw
        cases hw
  · rw [decide_eq_false e, cond_false]; exact h n
theorem aGf : ∀ (t : List aJ) {l : aI}, WQ l → WQ (t.foldl bX l)
  | [], _, h => h
  | _ :: t, _, h => aGf t (aLs h)
theorem aLr (f : aS) : WQ (dN f) := fun n h => by simp [pl, dN, aF, zP] at h
theorem aMq (l : aI) (x : aJ) : (upP l x).signed = true ↔ (pl l x.Player).signed = true ∨ x.Kind = 5 := by
  unfold upP
  simp only
  by_cases h5 : x.Kind = 5
  · simp [h5]
  · simp only [h5, decide_false, cond_false, or_false]
    cases decide (x.Kind = 1) || decide (x.Kind = 2) with
    | true => simp only [cond_true]; cases decide (x.Hour ≤ l.Field.Close) && !(pl l x.Player).entered <;> exact Iff.rfl
    | false =>
      simp only [cond_false]
      cases decide (x.Kind = 3) with
      | true => simp only [cond_true]; cases ((decide (x.Hour ≤ l.Field.Freeze) && !(pl l x.Player).wild) && !(pl l x.Player).quit) && decide ((l.wilds.length : Int) < l.Field.Wilds) <;> exact Iff.rfl
      | false => simp only [cond_false]; cases decide (x.Kind = 4) <;> exact Iff.rfl
theorem aJl (l : aI) (x : aJ) (n : Int) : (pl (bX l x) n).signed = true ↔ (pl l n).signed = true ∨ (x.Kind = 5 ∧ x.Player = n) := by
  rw [vM]
  by_cases h : n = x.Player
  · subst h; rw [decide_eq_true rfl, cond_true, aMq]; simp
  · rw [decide_eq_false h, cond_false]
    exact ⟨.inl, fun hh => hh.elim id fun hh => absurd hh.2.symm h⟩
theorem aCx : ∀ (t : List aJ) (l : aI) (n : Int), (pl (t.foldl bX l) n).signed = true ↔ (pl l n).signed = true ∨ ∃ x ∈ t, x.Kind = 5 ∧ x.Player = n
  | [], _, _ => by simp
  | x :: t, l, n => by
    rw [List.foldl_cons, aCx t, aJl]
    simp only [List.mem_cons, exists_eq_or_imp, or_assoc]
theorem aFz (l : aI) (x : aJ) : (bX l x).frozen = (l.frozen || decide (l.Field.Freeze < x.Hour)) := by
  have e : ∀ l1 : aI, (bif (bE l1 x).frozen then kO (bE l1 x) else bE l1 x).frozen = l1.frozen := fun l1 => by
    rw [← (jN l1 x).2.1]
    cases h : (bE l1 x).frozen
    · exact h
    · exact h
  unfold bX
  simp only
  rw [e]
  cases decide (l.Field.Freeze < x.Hour) with
  | false => simp
  | true =>
    rw [cond_true, Bool.or_true]
    unfold dI
    cases h : l.frozen
    · rfl
    · exact h
theorem yQ : ∀ (t : List aJ) (l : aI), (t.foldl bX l).frozen = (l.frozen || t.any fun x => decide (l.Field.Freeze < x.Hour))
  | [], l => by simp
  | x :: t, l => by
    rw [List.foldl_cons, yQ t, aFz, sR, List.any_cons, Bool.or_assoc]
/-- No one more can have a place. -/
def FL (l : aI) : Prop := l.frozen = true → plc l ≤ ((bR l).length : Int) ∨ (fH l).find? (kK l (bR l)) = none
theorem aCe (l : aI) (first : List Int) : ∀ (k : Nat) (late : List Int), plc l - ((first ++ late).length : Int) ≤ k →
    plc l ≤ ((first ++ iF l first k late).length : Int) ∨ (fH l).find? (kK l (first ++ iF l first k late)) = none
  | 0, late, h => .inl (by rw [iF]; omega)
  | k + 1, late, h => by
    rw [iF]
    cases hp : decide (((first ++ late).length : Int) < plc l) with
    | false =>
      rw [cond_false]
      rw [decide_eq_false_iff_not] at hp
      exact .inl (by omega)
    | true =>
      rw [cond_true]
      cases hm : (fH l).find? (kK l (first ++ late)) with
      | none => exact .inr hm
      | some n =>
        refine aCe l first k (late ++ [n]) ?_
        rw [← List.append_assoc, List.length_append]
        simp only [List.length_singleton]
        omega
theorem aLo {f : aS} {l : aI} {x : aJ} {i : Nat} (h : fA f l i) (hi : i < 60) (hx : gH x = true) : FL (bX l x) := by
  have h1 : fA f (bif decide (l.Field.Freeze < x.Hour) then dI l else l) i := by
    cases decide (l.Field.Freeze < x.Hour)
    · exact h
    · exact lW h
  have h2 := pR h1 hi hx
  unfold bX
  simp only
  generalize bE (bif decide (l.Field.Freeze < x.Hour) then dI l else l) x = l2 at h2
  cases hz : l2.frozen with
  | false => rw [cond_false]; intro hh; rw [hz] at hh; cases hh
  | true =>
    rw [cond_true]
    intro _
    have e : bR (kO l2) = (l2.first.filter fun n => isE l2.players n) ++ iF l2 (l2.first.filter fun n => isE l2.players n) 100 (l2.late.filter fun n => isE l2.players n) := by
      unfold bR
      rw [show (kO l2).frozen = true from hz, cond_true]
      rfl
    rw [e]
    have hp := vI h2.wf
    exact aCe l2 _ 100 _ (by omega)
theorem aGa {f : aS} : ∀ (t : List aJ) {l : aI} {i : Nat}, fA f l i → i + t.length ≤ 60 → (∀ x ∈ t, gH x = true) → FL l → FL (t.foldl bX l)
  | [], _, _, _, _, _, h => h
  | x :: t, l, i, hg, hl, ht, _ => by
    simp only [List.length_cons] at hl
    exact aGa t (mK hg (by omega) (ht x (by simp))) (by omega) (fun y hy => ht y (by simp [hy])) (aLo hg (by omega) (ht x (by simp)))
theorem aGs {f : aS} : ∀ (t : List aJ) {l : aI} {i : Nat}, fA f l i → i + t.length ≤ 60 → (∀ x ∈ t, gH x = true) → MS l → Pk l (bR l) → Pk (t.foldl bX l) (bR (t.foldl bX l))
  | [], _, _, _, _, _, _, h => h
  | x :: t, l, i, hg, hl, ht, hm, hp => by
    simp only [List.length_cons] at hl
    exact aGs t (mK hg (by omega) (ht x (by simp))) (by omega) (fun y hy => ht y (by simp [hy])) (aGc l x) (aMs hg (by omega) (ht x (by simp)) hm hp)
/-- What holds of the list at an hour. -/
structure AF (f : aS) (l : List aJ) (hour : Int) (L : aI) : Prop where
  good : ∃ j, j ≤ 60 ∧ fA f L j
  ms : MS L
  pk : Pk L (bR L)
  wd : Wd L
  wh : WH L
  wq : WQ L
  quit : ∀ n, (pl L n).quit = true ↔ ∃ x ∈ l, x.Kind = 4 ∧ x.Player = n ∧ x.Hour ≤ hour
  sign : ∀ n, (pl L n).signed = true ↔ ∃ x ∈ l, x.Kind = 5 ∧ x.Player = n ∧ x.Hour ≤ hour
  fz : hour ≤ f.Freeze → L.frozen = false
  fl : (∃ x ∈ l, f.Freeze < x.Hour ∧ x.Hour ≤ hour) → plc L ≤ ((bR L).length : Int) ∨ (fH L).find? (kK L (bR L)) = none
theorem aHk {L : aI} {hour : Int} (h : L.frozen = true) : mN hour L = L := by
  unfold mN dI
  rw [h]
  cases decide (L.Field.Freeze < hour) <;> rfl
theorem aft {f : aS} {l : List aJ} (h : VL f l) (hour : Int) : AF f l hour (bA f l hour) := by
  have hb : ∀ x ∈ l, bN x := fun x hx => zR (h.nt x hx)
  have hT := qN l
  have hlen := h.len
  have hs := pH hb h.id
  have hbT : ∀ x ∈ dH l, bN x := fun x hx => hb x ((gW x).1 hx)
  have ok : ∀ x ∈ dH l, gH x = true := fun x hx => h.nt x ((gW x).1 hx)
  have hgood := sI h hour
  unfold bA at hgood ⊢
  rw [tT hour _ _ hs hbT] at hgood ⊢
  have mem : ∀ x, x ∈ ((dH l).filter fun x => decide (x.Hour ≤ hour)) ↔ x ∈ l ∧ x.Hour ≤ hour := fun x => by
    rw [List.mem_filter, gW, decide_eq_true_eq]
  have hl : ((dH l).filter fun x => decide (x.Hour ≤ hour)).length ≤ 60 := by
    have := List.length_filter_le (fun x : aJ => decide (x.Hour ≤ hour)) (dH l)
    omega
  have ok2 : ∀ x ∈ ((dH l).filter fun x => decide (x.Hour ≤ hour)), gH x = true := fun x hx => h.nt x ((mem x).1 hx).1
  generalize ((dH l).filter fun x => decide (x.Hour ≤ hour)) = M at hgood mem hl ok2 ⊢
  have g := xC M (jO h.fd) (by omega) ok2
  have m := yA M (aAz f)
  have p0 : Pk (dN f) (bR (dN f)) := aCs (jO h.fd).wf
  have p := aGs M (jO h.fd) (by omega) ok2 (aAz f) p0
  have wd := aGg M (aLt h.fd)
  have wh := yB M (aGd f)
  have wq := aGf M (aLr f)
  have q := xR M (dN f)
  have sg := aCx M (dN f)
  have fr := yQ M (dN f)
  have fl := aGa M (jO h.fd) (by omega) ok2 (fun hh => by cases hh)
  have fd : (M.foldl bX (dN f)).Field = f := g.fd
  generalize M.foldl bX (dN f) = L at hgood g m p wd wh wq q sg fr fl fd ⊢
  have ee := vT g hour
  have ep : ∀ n, pl (mN hour L) n = pl L n := fun n => by unfold pl; rw [ee.2.2]
  have efd : (mN hour L).Field = L.Field ∧ (mN hour L).more = L.more := by
    unfold mN
    cases decide (L.Field.Freeze < hour) with
    | false => exact ⟨rfl, rfl⟩
    | true => exact ⟨(fJ L).2.1, (fJ L).2.2.2⟩
  have i0 : ∀ n, (pl (dN f) n).quit = false := fun n => rfl
  have i1 : ∀ n, (pl (dN f) n).signed = false := fun n => rfl
  refine ⟨hgood, ?_, ?_, aDm wd ee.2.2 ee.2.1 efd.1, yY wh ee.2.2 ee.2.1, fun n => by rw [ep]; exact wq n, fun n => ?_, fun n => ?_, fun hz => ?_, fun hx => ?_⟩
  · intro n hn
    rw [ee.1] at hn
    rw [ee.2.2]; exact m n hn
  · rw [ee.1]
    refine ⟨p.nd, ?_, ?_⟩
    · unfold plc; rw [efd.1, efd.2]; exact p.len
    · rw [zG (l := L) fun n _ => by rw [ep], efd.1]; exact p.gd
  · rw [ep, q n, i0]
    constructor
    · rintro (hh | ⟨x, hx, h4, hp⟩)
      · cases hh
      · exact ⟨x, ((mem x).1 hx).1, h4, hp, ((mem x).1 hx).2⟩
    · rintro ⟨x, hx, h4, hp, hh⟩
      exact .inr ⟨x, (mem x).2 ⟨hx, hh⟩, h4, hp⟩
  · rw [ep, sg n, i1]
    constructor
    · rintro (hh | ⟨x, hx, h4, hp⟩)
      · cases hh
      · exact ⟨x, ((mem x).1 hx).1, h4, hp, ((mem x).1 hx).2⟩
    · rintro ⟨x, hx, h4, hp, hh⟩
      exact .inr ⟨x, (mem x).2 ⟨hx, hh⟩, h4, hp⟩
  · unfold mN
    rw [fd, decide_eq_false (by omega), cond_false, fr]
    rw [Bool.or_eq_false_iff]
    refine ⟨rfl, ?_⟩
    rw [List.any_eq_false]
    intro x hx
    have := ((mem x).1 hx).2
    show ¬ decide (f.Freeze < x.Hour) = true
    rw [decide_eq_true_eq]; omega
  · obtain ⟨x, hx, h1, h2⟩ := hx
    have hfr : L.frozen = true := by
      rw [fr, Bool.or_eq_true]
      exact .inr (List.any_eq_true.2 ⟨x, (mem x).2 ⟨hx, h2⟩, by show decide (f.Freeze < x.Hour) = true; rw [decide_eq_true_eq]; exact h1⟩)
    rw [aHk hfr]
    exact fl hfr
end Go.Am

end
section
namespace Go.Am

end Go.Am

end
