/- Entry, plainly: a notice is taken. -/
import Derived.Test.YtfdappeickbpeaaGreatEnPlain5
namespace Go.Am

theorem aGp (l : aK) (n : Int) : aE n (aA.mk false false 0 0 false false false false) l.players = pl l n := rfl
def fP (l : aK) (x : aJ) : aK :=
  let p := pl l x.Player
  bif decide (x.Kind = 1) || decide (x.Kind = 2) then
    bif decide (x.Hour ≤ l.Field.Close) && !p.entered then
      aK.mk l.Field (bX x.Player (aA.mk true (decide (x.Kind = 2)) x.Rank (l.entered + 1) p.quit p.signed p.wild p.had) l.players) l.wilds l.frozen l.first l.late l.more (l.entered + 1)
    else aK.mk l.Field (bX x.Player p l.players) l.wilds l.frozen l.first l.late l.more l.entered
  else bif decide (x.Kind = 3) then
    bif ((decide (x.Hour ≤ l.Field.Freeze) && !p.wild) && !p.quit) && decide ((l.wilds.length : Int) < l.Field.Wilds) then
      aK.mk l.Field (bX x.Player (aA.mk p.entered p.guard p.rank p.turn p.quit p.signed true true) l.players) (l.wilds ++ [x.Player]) l.frozen l.first l.late l.more l.entered
    else aK.mk l.Field (bX x.Player p l.players) l.wilds l.frozen l.first l.late l.more l.entered
  else bif decide (x.Kind = 4) then
    aK.mk l.Field (bX x.Player (aA.mk p.entered p.guard p.rank p.turn true p.signed false p.had) l.players) (l.wilds.filter fun m => !decide (m = x.Player)) l.frozen l.first l.late
      (bif p.wild && decide (l.Field.Freeze < x.Hour) then l.more + 1 else l.more) l.entered
  else bif decide (x.Kind = 5) then
    aK.mk l.Field (bX x.Player (aA.mk p.entered p.guard p.rank p.turn p.quit true p.wild p.had) l.players) l.wilds l.frozen l.first l.late l.more l.entered
  else aK.mk l.Field (bX x.Player p l.players) l.wilds l.frozen l.first l.late l.more l.entered
theorem aJm (l : aK) (x : aJ) (he : 0 ≤ l.entered ∧ l.entered ≤ 60) (hm : 0 ≤ l.more ∧ l.more ≤ 60) (hw : l.wilds.length ≤ 1000) : iC l x = some (fP l x) := by
  have hd : bY l.wilds (fun y => dS y x) = some (l.wilds.filter fun m => !decide (m = x.Player)) := yC l.wilds _ (fun m => decide (m = x.Player)) (fun m _ => rfl) (by omega)
  have ha : app 8 l.wilds [x.Player] = some (l.wilds ++ [x.Player]) := nD (by simp; omega)
  have w1 : w64 (l.entered + 1) = l.entered + 1 := gV (by omega) (by omega)
  have w2 : w64 (l.more + 1) = l.more + 1 := gV (by omega) (by omega)
  unfold iC fP
  simp only [aGp, sC, Option.bind_some, hd, ha, w1, w2]
  by_cases h1 : x.Kind = 1
  · simp only [h1, decide_true, cond_true, Bool.true_or]
    cases decide (x.Hour ≤ l.Field.Close) && !(pl l x.Player).entered <;> rfl
  · by_cases h2 : x.Kind = 2
    · simp only [h2, decide_true, cond_true, Bool.or_true, show decide ((2 : Int) = 1) = false from rfl, cond_false]
      cases decide (x.Hour ≤ l.Field.Close) && !(pl l x.Player).entered <;> rfl
    · have e1 : decide (x.Kind = 1) = false := decide_eq_false h1
      have e2 : decide (x.Kind = 2) = false := decide_eq_false h2
      simp only [e1, e2, cond_false, Bool.or_self]
      cases decide (x.Kind = 3) with
      | true =>
        simp only [cond_true]
        cases ((decide (x.Hour ≤ l.Field.Freeze) && !(pl l x.Player).wild) && !(pl l x.Player).quit) && decide ((l.wilds.length : Int) < l.Field.Wilds) <;> rfl
      | false =>
        simp only [cond_false]
        cases decide (x.Kind = 4) with
        | true =>
          simp only [cond_true]
          cases (pl l x.Player).wild && decide (l.Field.Freeze < x.Hour) <;> rfl
        | false =>
          simp only [cond_false]
          cases decide (x.Kind = 5) <;> rfl

theorem vY {α β : Type} [DecidableEq α] (a : α) (v : β) : ∀ m : List (α × β), (bX a v m).map Prod.fst = if a ∈ m.map Prod.fst then m.map Prod.fst else m.map Prod.fst ++ [a]
  | [] => rfl
  | (b, u) :: m => by
    simp only [bX]
    by_cases h : a = b
    · subst h; simp
    · simp only [h, decide_false, cond_false, List.map_cons, vY a v m, List.mem_cons, false_or]
      split <;> simp
theorem aFe {α β : Type} [DecidableEq α] {a : α} {v : β} {m : List (α × β)} (h : (m.map Prod.fst).Nodup) : ((bX a v m).map Prod.fst).Nodup := by
  rw [vY]
  split
  · exact h
  · rename_i hn
    rw [List.nodup_append]
    exact ⟨h, by simp, fun x hx y hy => by simp at hy; subst hy; exact fun e => hn (e ▸ hx)⟩
theorem aHv {α β : Type} [DecidableEq α] (a : α) (v : β) (m : List (α × β)) : (bX a v m).length ≤ m.length + 1 := by
  have := congrArg List.length (vY a v m)
  rw [List.length_map] at this
  rw [this]
  split <;> simp
/-- The counts, after so many notices. -/
structure Cn (l : aK) (i : Nat) : Prop where
  pls : l.players.length ≤ i
  ent : l.entered ≤ i
  mr : l.more ≤ i
  wl : l.wilds.length ≤ i
/-- What a notice does to what is known of players. -/
def upP (l : aK) (x : aJ) : aA :=
  let p := pl l x.Player
  bif decide (x.Kind = 1) || decide (x.Kind = 2) then
    bif decide (x.Hour ≤ l.Field.Close) && !p.entered then aA.mk true (decide (x.Kind = 2)) x.Rank (l.entered + 1) p.quit p.signed p.wild p.had else p
  else bif decide (x.Kind = 3) then
    bif ((decide (x.Hour ≤ l.Field.Freeze) && !p.wild) && !p.quit) && decide ((l.wilds.length : Int) < l.Field.Wilds) then aA.mk p.entered p.guard p.rank p.turn p.quit p.signed true true else p
  else bif decide (x.Kind = 4) then aA.mk p.entered p.guard p.rank p.turn true p.signed false p.had
  else bif decide (x.Kind = 5) then aA.mk p.entered p.guard p.rank p.turn p.quit true p.wild p.had
  else p
theorem sV (l : aK) (x : aJ) : (fP l x).players = bX x.Player (upP l x) l.players := by
  unfold fP upP
  cases decide (x.Kind = 1) || decide (x.Kind = 2) with
  | true => simp only [cond_true]; cases decide (x.Hour ≤ l.Field.Close) && !(pl l x.Player).entered <;> rfl
  | false =>
    simp only [cond_false]
    cases decide (x.Kind = 3) with
    | true => simp only [cond_true]; cases ((decide (x.Hour ≤ l.Field.Freeze) && !(pl l x.Player).wild) && !(pl l x.Player).quit) && decide ((l.wilds.length : Int) < l.Field.Wilds) <;> rfl
    | false =>
      simp only [cond_false]
      cases decide (x.Kind = 4) with
      | true => rfl
      | false => simp only [cond_false]; cases decide (x.Kind = 5) <;> rfl
theorem wS (l : aK) (x : aJ) (n : Int) : pl (fP l x) n = bif decide (n = x.Player) then upP l x else pl l n := by
  unfold pl
  rw [sV, vX]
theorem zI (l : aK) (x : aJ) : (fP l x).Field = l.Field ∧ (fP l x).frozen = l.frozen ∧ (fP l x).first = l.first ∧ (fP l x).late = l.late := by
  unfold fP
  cases decide (x.Kind = 1) || decide (x.Kind = 2) with
  | true => simp only [cond_true]; cases decide (x.Hour ≤ l.Field.Close) && !(pl l x.Player).entered <;> exact ⟨rfl, rfl, rfl, rfl⟩
  | false =>
    simp only [cond_false]
    cases decide (x.Kind = 3) with
    | true => simp only [cond_true]; cases ((decide (x.Hour ≤ l.Field.Freeze) && !(pl l x.Player).wild) && !(pl l x.Player).quit) && decide ((l.wilds.length : Int) < l.Field.Wilds) <;> exact ⟨rfl, rfl, rfl, rfl⟩
    | false =>
      simp only [cond_false]
      cases decide (x.Kind = 4) with
      | true => exact ⟨rfl, rfl, rfl, rfl⟩
      | false => simp only [cond_false]; cases decide (x.Kind = 5) <;> exact ⟨rfl, rfl, rfl, rfl⟩
/-- Whether a notice enters its player. -/
def nW (l : aK) (x : aJ) : Bool := (decide (x.Kind = 1) || decide (x.Kind = 2)) && (decide (x.Hour ≤ l.Field.Close) && !(pl l x.Player).entered)
theorem aDj (l : aK) (x : aJ) : (fP l x).entered = (bif nW l x then l.entered + 1 else l.entered) ∧
    (nW l x = true → (upP l x).entered = true ∧ (upP l x).turn = l.entered + 1 ∧ (upP l x).rank = x.Rank ∧ (pl l x.Player).entered = false) ∧
    (nW l x = false → (upP l x).entered = (pl l x.Player).entered ∧ (upP l x).turn = (pl l x.Player).turn ∧ (upP l x).rank = (pl l x.Player).rank) := by
  unfold fP upP nW
  cases decide (x.Kind = 1) || decide (x.Kind = 2) with
  | true =>
    simp only [cond_true, Bool.true_and]
    cases h : decide (x.Hour ≤ l.Field.Close) && !(pl l x.Player).entered with
    | true =>
      simp only [Bool.and_eq_true, Bool.not_eq_true'] at h
      exact ⟨rfl, fun _ => ⟨rfl, rfl, rfl, h.2⟩, fun h => by cases h⟩
    | false => exact ⟨rfl, (fun h => by cases h), fun _ => ⟨rfl, rfl, rfl⟩⟩
  | false =>
    simp only [cond_false, Bool.false_and]
    cases decide (x.Kind = 3) with
    | true => simp only [cond_true]; cases ((decide (x.Hour ≤ l.Field.Freeze) && !(pl l x.Player).wild) && !(pl l x.Player).quit) && decide ((l.wilds.length : Int) < l.Field.Wilds) <;> exact ⟨rfl, (fun h => by cases h), fun _ => ⟨rfl, rfl, rfl⟩⟩
    | false =>
      simp only [cond_false]
      cases decide (x.Kind = 4) with
      | true => exact ⟨rfl, (fun h => by cases h), fun _ => ⟨rfl, rfl, rfl⟩⟩
      | false => simp only [cond_false]; cases decide (x.Kind = 5) <;> exact ⟨rfl, (fun h => by cases h), fun _ => ⟨rfl, rfl, rfl⟩⟩
theorem aHa (l : aK) (x : aJ) : (l.more ≤ (fP l x).more ∧ (fP l x).more ≤ l.more + 1) ∧ (fP l x).wilds.length ≤ l.wilds.length + 1 := by
  have hf : (l.wilds.filter fun m => !decide (m = x.Player)).length ≤ l.wilds.length := List.length_filter_le _ _
  unfold fP
  cases decide (x.Kind = 1) || decide (x.Kind = 2) with
  | true => simp only [cond_true]; cases decide (x.Hour ≤ l.Field.Close) && !(pl l x.Player).entered <;> simp <;> omega
  | false =>
    simp only [cond_false]
    cases decide (x.Kind = 3) with
    | true => simp only [cond_true]; cases ((decide (x.Hour ≤ l.Field.Freeze) && !(pl l x.Player).wild) && !(pl l x.Player).quit) && decide ((l.wilds.length : Int) < l.Field.Wilds) <;> simp <;> omega
    | false =>
      simp only [cond_false]
      cases decide (x.Kind = 4) with
      | true => simp only [cond_true]; cases (pl l x.Player).wild && decide (l.Field.Freeze < x.Hour) <;> simp only [cond_true, cond_false] <;> omega
      | false => simp only [cond_false]; cases decide (x.Kind = 5) <;> simp <;> omega
theorem aJn {l : aK} {x : aJ} {i : Nat} (h : WF l) (hc : Cn l i) (hi : i < 60) (hx : kV x = true) : WF (fP l x) ∧ Cn (fP l x) (i + 1) := by
  obtain ⟨hF, _, _, _⟩ := zI l x
  obtain ⟨t1, t2, t3⟩ := aDj l x
  obtain ⟨m1, m2⟩ := aHa l x
  have hent := h.ent
  have hmr := h.mr
  obtain ⟨c1, c2, c3, c4⟩ := hc
  have hpl : (fP l x).players.length ≤ i + 1 := by rw [sV]; have := aHv x.Player (upP l x) l.players; omega
  have hE : 0 ≤ (fP l x).entered ∧ (fP l x).entered ≤ (i : Int) + 1 ∧ l.entered ≤ (fP l x).entered := by rw [t1]; cases nW l x <;> simp only [cond_true, cond_false] <;> omega
  have hrank : nW l x = true → 0 ≤ x.Rank ∧ x.Rank ≤ 9999 := fun he => by
    unfold nW at he
    simp only [Bool.and_eq_true, Bool.or_eq_true, decide_eq_true_eq] at he
    unfold kV at hx
    simp only [Bool.and_eq_true] at hx
    rcases he.1 with h1 | h1
    · have := hx.2
      rw [h1] at this
      simpa [wi] using this
    · have := hx.2
      rw [h1] at this
      simp only [show decide ((2 : Int) = 1) = false from rfl, cond_false, decide_true, cond_true, zK] at this
      omega
  refine ⟨⟨by rw [hF]; exact h.fd, by rw [sV]; exact aFe h.keys, by omega, ⟨hE.1, by omega⟩, ⟨by omega, by omega⟩, fun n hn => ?_, fun n m hn hm he => ?_⟩, ⟨hpl, by omega, by omega, by omega⟩⟩
  · rw [wS] at hn ⊢
    by_cases hnx : n = x.Player
    · subst hnx
      simp only [decide_true, cond_true] at hn ⊢
      cases he : nW l x with
      | true =>
        obtain ⟨_, e2, e3, _⟩ := t2 he
        have := hrank he
        rw [t1, he, e2, e3]
        simp only [cond_true]
        omega
      | false =>
        obtain ⟨e1, e2, e3⟩ := t3 he
        rw [e1] at hn
        have := h.turn _ hn
        rw [e2, e3]
        omega
    · simp only [hnx, decide_false, cond_false] at hn ⊢
      have := h.turn _ hn
      omega
  · rw [wS] at hn hm
    rw [wS, wS] at he
    by_cases hnx : n = x.Player <;> by_cases hmx : m = x.Player
    · rw [hnx, hmx]
    · subst hnx
      simp only [decide_true, cond_true, hmx, decide_false, cond_false] at hn hm he
      cases hen : nW l x with
      | true =>
        have := h.turn _ hm
        have := (t2 hen).2.1
        omega
      | false =>
        obtain ⟨e1, e2, _⟩ := t3 hen
        rw [e1] at hn
        rw [e2] at he
        exact h.inj _ _ hn hm he
    · subst hmx
      simp only [decide_true, cond_true, hnx, decide_false, cond_false] at hn hm he
      cases hen : nW l x with
      | true =>
        have := h.turn _ hn
        have := (t2 hen).2.1
        omega
      | false =>
        obtain ⟨e1, e2, _⟩ := t3 hen
        rw [e1] at hm
        rw [e2] at he
        exact h.inj _ _ hn hm he
    · simp only [hnx, hmx, decide_false, cond_false] at hn hm he
      exact h.inj _ _ hn hm he
end Go.Am
