/- Plain laws, one behind the other. -/
import Derived.Test.YtaocljlhapoieaaRkPlain13
import Derived.Test.YtaocljlhapoieaaRkSh
import Derived.KernelRfl
section
namespace Go.Am

/-- Sizes that any statement looks at. -/
def Bd (l : aL) : Prop := l.Reports.length ≤ 1000 ∧ l.Bans.length ≤ 1000 ∧ l.Frozen.length ≤ 1000
def sD (l : aL) (p w : Int) : Bool := inB p 0 (l.Players - 1) && inB w 0 400
/-- The error of a question. -/
def oW (l : aL) (p w : Int) : Int := bif decide (jN l = 0) then (bif sD l p w then 0 else 1) else jN l
theorem GL.bd {l : aL} {z : List aD} (h : GL l z) : Bd l := by have := kJ h.led; unfold Bd; omega
theorem GL.players {l : aL} {z : List aD} (h : GL l z) : 1 ≤ l.Players ∧ l.Players ≤ 16 := (kJ h.led).1
theorem aId {l : aL} {p w : Int} (h : oW l p w = 0) : jN l = 0 ∧ sD l p w = true := by
  unfold oW at h
  by_cases hc : jN l = 0
  · rw [decide_eq_true hc, cond_true] at h
    refine ⟨hc, ?_⟩
    cases hb : sD l p w with
    | true => rfl
    | false => rw [hb] at h; simp at h
  · rw [decide_eq_false hc, cond_false] at h
    exact absurd h hc
theorem aKm {l : aL} {z : List aD} (h : GL l z) {p w : Int} (hp : 0 ≤ p ∧ p < l.Players) (hw : 0 ≤ w ∧ w ≤ 400) : oW l p w = 0 := by
  unfold oW sD inB
  rw [decide_eq_true (aDt h), cond_true, decide_eq_true hp.1, decide_eq_true (show p ≤ l.Players - 1 by omega), decide_eq_true hw.1, decide_eq_true hw.2]; rfl
theorem yB {l : aL} {p w : Int} (h : sD l p w = true) : (0 ≤ p ∧ p < l.Players) ∧ (0 ≤ w ∧ w ≤ 400) := by
  unfold sD inB at h
  simp only [Bool.and_eq_true, decide_eq_true_eq] at h
  omega
theorem aHv {l : aL} {z : List aD} (h : GL l z) : qL l = some (some (dH l z), 0) := by
  obtain ⟨h1, h2, h3⟩ := h.bd
  unfold qL
  rw [aHu l (by omega) (by omega) (by omega), Option.bind_some, aDt h, h.once]; rfl
theorem aKz {l : aL} (hb : Bd l) (h : jN l ≠ 0) : qL l = some (none, jN l) := by
  obtain ⟨h1, h2, h3⟩ := hb
  unfold qL
  rw [aHu l (by omega) (by omega) (by omega), Option.bind_some, decide_eq_false h]; rfl
theorem aLj {l : aL} {z : List aD} (h : GL l z) {p w : Int} (ha : sD l p w = true) : pE l p w = some (some (dH l z), 0) := by
  have hP := h.players
  unfold pE
  rw [aHv h, Option.bind_some]
  have e1 : w64 (l.Players - 1) = l.Players - 1 := cS (by omega) (by omega)
  have e2 : (!(decide (0 ≤ p) && decide (p ≤ l.Players - 1)) || !(decide (0 ≤ w) && decide (w ≤ 400))) = false := by
    have := yB ha
    rw [Bool.or_eq_false_iff]
    simp; omega
  simp only [uY, e1, sA, Option.bind_some, eO, e2, cond_false]
  rfl
theorem aLk {l : aL} (hb : Bd l) {p w : Int} (h : oW l p w ≠ 0) : pE l p w = some (none, oW l p w) := by
  unfold pE
  by_cases hc : jN l = 0
  · obtain ⟨z, hz⟩ := aGp hc
    have hP := hz.players
    have ha : sD l p w = false := by
      rw [Bool.eq_false_iff]; intro hn
      apply h; unfold oW; rw [hc, hn]; rfl
    rw [aHv hz, Option.bind_some]
    have e1 : w64 (l.Players - 1) = l.Players - 1 := cS (by omega) (by omega)
    have e2 : (!(decide (0 ≤ p) && decide (p ≤ l.Players - 1)) || !(decide (0 ≤ w) && decide (w ≤ 400))) = true := by
      have : (decide (0 ≤ p) && decide (p ≤ l.Players - 1) && (decide (0 ≤ w) && decide (w ≤ 400))) = false := ha
      revert this
      cases (decide (0 ≤ p) && decide (p ≤ l.Players - 1)) <;> cases (decide (0 ≤ w) && decide (w ≤ 400)) <;> simp
    have e3 : oW l p w = 1 := by unfold oW; rw [hc, ha]; rfl
    simp only [uY, e1, sA, Option.bind_some, eO, e2, cond_true, e3]
    rfl
  · have e3 : oW l p w = jN l := by unfold oW; rw [decide_eq_false hc]; rfl
    rw [aKz hb hc, Option.bind_some, e3]
    simp only [uY, decide_eq_false hc, Bool.not_false, cond_true]
theorem aKp {l : aL} (hb : Bd l) (p w : Int) : lA l p w = some (oW l p w) := by
  obtain ⟨h1, h2, h3⟩ := hb
  unfold lA oW
  rw [aBe l (by omega) (by omega) (by omega), Option.bind_some]
  by_cases hc : jN l = 0
  · obtain ⟨z, hz⟩ := aGp hc
    have hP := hz.players
    have e1 : w64 (l.Players - 1) = l.Players - 1 := cS (by omega) (by omega)
    rw [hc]
    simp only [e1, sX, Option.bind_some, eO, decide_true, Bool.not_true, cond_false, cond_true]
    unfold sD inB
    cases (decide (0 ≤ p) && decide (p ≤ l.Players - 1)) <;> cases (decide (0 ≤ w) && decide (w ≤ 400)) <;> rfl
  · rw [decide_eq_false hc]; rfl

theorem aFt {l : aL} (hb : Bd l) : jU l = some l := by
  obtain ⟨h1, h2, h3⟩ := hb
  unfold jU
  rw [gU (by simp; omega), Option.bind_some, gU (by simp; omega), Option.bind_some, gU (by simp; omega), Option.bind_some]
  simp
/-- What is too far for a statement. -/
theorem aHn {l : aL} (h : gV l = some false) : (l.Reports.length ≤ 60 ∧ l.Bans.length ≤ 20 ∧ l.Frozen.length ≤ 20) ∧ (jN l = 0 → l.Players ≤ 5 ∧ l.Reports.length ≤ 10 ∧ ∀ r ∈ l.Reports, r.Week ≤ 150) := by
  unfold gV at h
  rw [eO, Option.bind_some, eO, Option.bind_some] at h
  cases hf : (decide (60 < (l.Reports.length : Int)) || decide (20 < (l.Bans.length : Int)) || decide (20 < (l.Frozen.length : Int))) with
  | true => rw [hf] at h; simp at h
  | false =>
    simp only [Bool.or_eq_false_iff, decide_eq_false_iff_not] at hf
    refine ⟨by omega, fun hc => ?_⟩
    have hf' : (decide (60 < (l.Reports.length : Int)) || decide (20 < (l.Bans.length : Int)) || decide (20 < (l.Frozen.length : Int))) = false := by simp only [Bool.or_eq_false_iff, decide_eq_false_iff_not]; omega
    rw [hf', cond_false, aBe l (by omega) (by omega) (by omega), Option.bind_some, hc] at h
    simp only [decide_true, Bool.not_true, cond_false] at h
    have main := mJ (fun k i => fW l k i) l.Reports.length (fun i => !(fun r : aD => decide (150 < r.Week)) (l.Reports.getD i default)) (some true) (kP l) (fun k i hi => by
      have hlt : decide ((i : Int) < (l.Reports.length : Int)) = true := decide_eq_true (by omega)
      have ei : l.Reports.getD i default = l.Reports[i] := by simp [List.getD, List.getElem?_eq_getElem hi]
      simp only [fW, hlt, cond_true, dE hi, Option.bind_some, cI (show i < 9223372036854775807 by omega), ei]
      cases decide (150 < l.Reports[i].Week) <;> rfl) (fun k => by
      have hlt : decide ((l.Reports.length : Int) < (l.Reports.length : Int)) = false := decide_eq_false (by omega)
      simp only [fW, hlt, cond_false]) BIG (cY (by omega))
    rw [main, aCp l.Reports (fun r : aD => decide (150 < r.Week))] at h
    cases hw : l.Reports.any fun r => decide (150 < r.Week) with
    | true => rw [hw] at h; simp at h
    | false =>
      rw [hw] at h
      unfold kP at h
      simp only [Bool.not_false, cond_true, eO, Option.bind_some, Option.some.injEq, Bool.or_eq_false_iff, decide_eq_false_iff_not] at h
      refine ⟨by omega, by omega, fun r hr => ?_⟩
      have := List.any_eq_false.1 hw r hr
      simp only [decide_eq_true_eq] at this
      omega
theorem aIg (l : aL) (hb : l.Reports.length ≤ 140737488355328 ∧ l.Bans.length ≤ 140737488355328 ∧ l.Frozen.length ≤ 140737488355328) : ∃ b, gV l = some b := by
  unfold gV
  rw [eO, Option.bind_some, eO, Option.bind_some]
  cases hf : (decide (60 < (l.Reports.length : Int)) || decide (20 < (l.Bans.length : Int)) || decide (20 < (l.Frozen.length : Int))) with
  | true => exact ⟨true, rfl⟩
  | false =>
    simp only [Bool.or_eq_false_iff, decide_eq_false_iff_not] at hf
    rw [cond_false, aBe l (by omega) (by omega) (by omega), Option.bind_some]
    cases (!decide (jN l = 0)) with
    | true => exact ⟨false, rfl⟩
    | false =>
      rw [cond_false]
      have main := mJ (fun k i => fW l k i) l.Reports.length (fun i => !(fun r : aD => decide (150 < r.Week)) (l.Reports.getD i default)) (some true) (kP l) (fun k i hi => by
        have hlt : decide ((i : Int) < (l.Reports.length : Int)) = true := decide_eq_true (by omega)
        have ei : l.Reports.getD i default = l.Reports[i] := by simp [List.getD, List.getElem?_eq_getElem hi]
        simp only [fW, hlt, cond_true, dE hi, Option.bind_some, cI (show i < 9223372036854775807 by omega), ei]
        cases decide (150 < l.Reports[i].Week) <;> rfl) (fun k => by
        have hlt : decide ((l.Reports.length : Int) < (l.Reports.length : Int)) = false := decide_eq_false (by omega)
        simp only [fW, hlt, cond_false]) BIG (cY (by omega))
      rw [main]
      unfold kP
      rw [eO, Option.bind_some]
      cases (List.range l.Reports.length).all fun i => !(fun r : aD => decide (150 < r.Week)) (l.Reports.getD i default)
      · exact ⟨_, rfl⟩
      · exact ⟨_, rfl⟩
theorem aJw (w : Int) : nS w = some (decide (250 < w) && decide (w ≤ 400)) := by unfold nS; rw [gI, Option.bind_some]
end Go.Am

end
section
namespace Go.Am

end Go.Am

end
section
namespace Go.Am

section del
end del

end Go.Am

end
section
namespace Go.Am

theorem aFp {α : Type} {R : α → α → Prop} [DecidableRel R] (hirr : ∀ x, ¬ R x x) (hasym : ∀ x y, R x y → ¬ R y x) {s : List α} (hs : s.Pairwise R) {i : Nat} (hi : i < s.length) : (s.filter fun q => decide (R q s[i])).length = i := by
  have es : s = s.take i ++ s[i] :: s.drop (i + 1) := by rw [← List.drop_eq_getElem_cons hi, List.take_append_drop]
  have h1 := List.pairwise_append.1 (es ▸ hs)
  have a1 : (s.take i).filter (fun q => decide (R q s[i])) = s.take i := List.filter_eq_self.2 fun q hq => decide_eq_true (h1.2.2 q hq _ List.mem_cons_self)
  have a2 : (s[i] :: s.drop (i + 1)).filter (fun q => decide (R q s[i])) = [] := List.filter_eq_nil_iff.2 fun q hq => by
    rw [decide_eq_true_eq]
    rcases List.mem_cons.1 hq with rfl | hq
    · exact hirr _
    · exact hasym _ _ ((List.pairwise_cons.1 h1.2.1).1 q hq)
  have a3 : s.filter (fun q => decide (R q s[i])) = s.take i := by
    conv => lhs; arg 2; rw [es]
    rw [List.filter_append, a1, a2, List.append_nil]
  rw [a3, List.length_take]; omega
theorem aHt {out : List Int} (hn : out.Nodup) {i : Nat} (hi : i < out.length) : pJ out out[i] = i + 1 := by
  have : out.findIdx (fun x => decide (out[i] = x)) = i := by
    rw [List.findIdx_eq hi]
    refine ⟨by simp, fun j hj => ?_⟩
    rw [decide_eq_false_iff_not]
    exact fun he => absurd he.symm (List.pairwise_iff_getElem.1 hn j i (by omega) hi hj)
  unfold pJ oZ
  rw [this, if_pos hi]
theorem IsList.nodup {l : aL} {z : List aD} {w : Int} {out : List Int} (h : IsList l z w out) : out.Nodup := h.st.imp fun {a b} hb he => by subst he; exact zJ _ _ _ _ hb
theorem aFy {a b : List Int} (ha : a.Nodup) (hb : b.Nodup) (h : ∀ x ∈ a, x ∈ b) : a.length ≤ b.length := by
  have hp : a.Perm (b.filter fun x => decide (x ∈ a)) := (List.perm_ext_iff_of_nodup ha (hb.sublist List.filter_sublist)).2 fun x => by
    rw [List.mem_filter, decide_eq_true_eq]
    exact ⟨fun hx => ⟨h x hx, hx⟩, fun hx => hx.2⟩
  rw [hp.length_eq]
  exact List.length_filter_le _ _
/-- A place is one more than the number of those before. -/
theorem IsList.place {l : aL} {z : List aD} {w : Int} {out : List Int} (h : IsList l z w out) {p : Int} (hp : p ∈ out) : pJ out p = (out.filter fun q => decide (bef l z w q p)).length + 1 := by
  obtain ⟨i, hi, rfl⟩ := List.getElem_of_mem hp
  rw [aHt h.nodup hi, aFp (zJ l z w) (aDq l z w) h.st hi]
end Go.Am

end
section
namespace Go.Am

def mT (r : aD) : aD := ⟨0, r.Player, r.Week, r.Points, r.Must⟩
/-- Equal rows of reports but for the Ids, which stand in the same order. -/
structure Iso (a b : List aD) : Prop where
  same : a.map mT = b.map mT
  sa : a.Pairwise fun x y => x.Id < y.Id
  sb : b.Pairwise fun x y => x.Id < y.Id
theorem Iso.len {a b : List aD} (h : Iso a b) : a.length = b.length := by have := congrArg List.length h.same; simpa using this
theorem Iso.at {a b : List aD} (h : Iso a b) {i : Nat} (hi : i < a.length) : mT a[i] = mT (b[i]'(by rw [← h.len]; exact hi)) := by
  have h1 : (a.map mT)[i]'(by simpa using hi) = (b.map mT)[i]'(by simp; rw [← h.len]; exact hi) := by simp only [h.same]
  simpa using h1
theorem Iso.filter {a b : List aD} (h : Iso a b) {p : aD → Bool} (hp : ∀ r, p r = p (mT r)) : Iso (a.filter p) (b.filter p) := by
  refine ⟨?_, h.sa.sublist List.filter_sublist, h.sb.sublist List.filter_sublist⟩
  have e : ∀ l : List aD, (l.filter p).map mT = (l.map mT).filter p := fun l => by
    rw [List.filter_map]
    congr 1
    exact List.filter_congr fun r _ => hp r
  rw [e, e, h.same]
theorem aCc (l : List aD) : kN (l.map mT) = kN l := by
  induction l with
  | nil => rfl
  | cons r l ih => rw [List.map_cons, kN, kN, ih]; rfl
theorem Iso.sum {a b : List aD} (h : Iso a b) : kN a = kN b := by rw [← aCc a, ← aCc b, h.same]
theorem aHw (l : List aD) : (List.range l.length).map (fun i => l.getD i default) = l := by
  refine List.ext_getElem (by simp) fun i h1 h2 => ?_
  simp [List.getD, List.getElem?_eq_getElem h2]
theorem sF (l : List aD) (p : aD → Bool) : l.filter p = ((List.range l.length).filter fun i => p (l.getD i default)).map fun i => l.getD i default := by
  conv => lhs; rw [← aHw l]
  rw [List.filter_map]; rfl
theorem Iso.getD {a b : List aD} (h : Iso a b) {i : Nat} (hi : i < a.length) : mT (a.getD i default) = mT (b.getD i default) := by
  have := h.at hi
  have hb : i < b.length := by rw [← h.len]; exact hi
  simpa [List.getD, List.getElem?_eq_getElem hi, List.getElem?_eq_getElem hb] using this
theorem Iso.order {a b : List aD} (h : Iso a b) {i j : Nat} (hi : i < a.length) (hj : j < a.length) : decide ((a.getD j default).Id < (a.getD i default).Id) = decide ((b.getD j default).Id < (b.getD i default).Id) := by
  have key : ∀ (c : List aD), c.Pairwise (fun x y => x.Id < y.Id) → i < c.length → j < c.length → ((c.getD j default).Id < (c.getD i default).Id ↔ j < i) := by
    intro c hc hi hj
    simp only [List.getD, List.getElem?_eq_getElem hi, List.getElem?_eq_getElem hj, Option.getD_some]
    have g := List.pairwise_iff_getElem.1 hc
    constructor
    · intro hlt
      rcases Nat.lt_trichotomy j i with h | h | h
      · exact h
      · subst h; omega
      · have := g i j hi hj h; omega
    · exact fun hlt => g j i hj hi hlt
  rw [decide_eq_decide, key a h.sa hi hj, key b h.sb (by rw [← h.len]; exact hi) (by rw [← h.len]; exact hj)]
theorem wF {x y : aD} (h : mT x = mT y) : x.Player = y.Player ∧ x.Week = y.Week ∧ x.Points = y.Points ∧ x.Must = y.Must := by
  unfold mT at h
  injection h with _ h1 h2 h3 h4
  exact ⟨h1, h2, h3, h4⟩
theorem Iso.musts {a b : List aD} (h : Iso a b) : eL a = eL b := (h.filter (p := fun r => r.Must) fun _ => rfl).len
theorem Iso.better {a b : List aD} (h : Iso a b) {i : Nat} (hi : i < a.length) : kO a (a.getD i default) = kO b (b.getD i default) := by
  unfold kO
  rw [sF a, sF b, List.length_map, List.length_map, ← h.len]
  congr 1
  refine List.filter_congr fun j hj => ?_
  have hj' := List.mem_range.1 hj
  obtain ⟨_, _, h1, h2⟩ := wF (h.getD hi)
  obtain ⟨_, _, h3, h4⟩ := wF (h.getD hj')
  rw [h.order hi hj', h1, h3, h4]
theorem Iso.taken {a b : List aD} (h : Iso a b) (C : Int) : Iso (oE C a) (oE C b) := by
  refine ⟨?_, h.sa.sublist List.filter_sublist, h.sb.sublist List.filter_sublist⟩
  unfold oE
  rw [sF a, sF b, List.map_map, List.map_map, ← h.len, h.musts]
  have e : (List.range a.length).filter (fun i => (a.getD i default).Must || decide ((kO a (a.getD i default) : Int) < C - eL b)) = (List.range a.length).filter (fun i => (b.getD i default).Must || decide ((kO b (b.getD i default) : Int) < C - eL b)) := List.filter_congr fun i hi => by
    have hi' := List.mem_range.1 hi
    rw [h.better hi', (wF (h.getD hi')).2.2.2]
  rw [e]
  refine List.map_congr_left fun i hi => ?_
  exact h.getD (List.mem_range.1 (List.mem_filter.1 hi).1)
theorem Iso.count {a b : List aD} (h : Iso a b) (l : aL) (p w : Int) : Iso (eP l a p w) (eP l b p w) := h.filter fun _ => rfl
theorem Iso.pts {a b : List aD} (h : Iso a b) (l : aL) (p w : Int) : xD l a p w = xD l b p w := ((h.count l p w).taken l.Counts).sum
theorem Iso.line {a b : List aD} (h : Iso a b) (l : aL) (w p : Int) : nV l a w p = nV l b w p := by
  have hc := h.count l p w
  unfold nV kB
  rw [h.pts, hc.len, (hc.filter (p := fun r => r.Must) fun _ => rfl).sum]
theorem Iso.listed {a b : List aD} (h : Iso a b) (l : aL) (w p : Int) : kR l a w p = kR l b w p := by
  unfold kR
  rw [(h.count l p w).len]
theorem Iso.isList {a b : List aD} (h : Iso a b) {l : aL} {w : Int} {out : List Int} (ho : IsList l a w out) : IsList l b w out := by
  refine ⟨ho.st.imp fun {x y} hxy => ?_, fun p => by rw [ho.mem, h.listed]⟩
  unfold bef at hxy ⊢
  rwa [h.line, h.line] at hxy
end Go.Am

end
section
namespace Go.Am

section ban
variable {l : aL} {z : List aD} (ban : bA) (w : Int)
end ban

/-- A ledger with one more report. -/
def aLo (l : aL) (r : aD) : aL := ⟨l.Players, l.Counts, l.Reports ++ [r], l.Bans, l.Frozen⟩
section add
variable {l : aL} {z : List aD} {r : aD} (w : Int)
end add
end Go.Am

end
section
namespace Go.Am

/-- A ledger that a statement looks at. -/
structure Near (l : aL) : Prop where
  bd : Bd l
  pl : jN l = 0 → l.Players ≤ 5
theorem aJy {l : aL} (hb : l.Reports.length ≤ maxLen ∧ l.Bans.length ≤ maxLen ∧ l.Frozen.length ≤ maxLen) : gV l = some true ∨ gV l = some false ∧ Near l ∧ (jN l = 0 → l.Reports.length ≤ 10 ∧ ∀ r ∈ l.Reports, r.Week ≤ 150) := by
  unfold maxLen at hb
  have hff : (∃ b, gV l = some b) := by
    by_cases h : l.Reports.length ≤ 140737488355328 ∧ l.Bans.length ≤ 140737488355328 ∧ l.Frozen.length ≤ 140737488355328
    · exact aIg l h
    · unfold gV
      rw [eO, Option.bind_some, eO, Option.bind_some]
      have : (decide (60 < (l.Reports.length : Int)) || decide (20 < (l.Bans.length : Int)) || decide (20 < (l.Frozen.length : Int))) = true := by simp only [Bool.or_eq_true, decide_eq_true_eq]; omega
      rw [this]; exact ⟨true, rfl⟩
  obtain ⟨b, hf⟩ := hff
  cases b with
  | true => exact .inl hf
  | false =>
    obtain ⟨h1, h2⟩ := aHn hf
    exact .inr ⟨hf, ⟨by unfold Bd; omega, fun hc => (h2 hc).1⟩, fun hc => (h2 hc).2⟩
theorem Near.gl {l : aL} (h : Near l) {p w : Int} (ha : oW l p w = 0) : ∃ z, GL l z ∧ sD l p w = true ∧ l.Players ≤ 12 := by
  obtain ⟨h1, h2⟩ := aId ha
  obtain ⟨z, hz⟩ := aGp h1
  exact ⟨z, hz, h2, by have := h.pl h1; omega⟩
end Go.Am

end
section
namespace Go.Am

theorem aFa {rs z : List aD} (hb : rs.length ≤ 1000000) (hz : z.Pairwise fun x y => x.Id < y.Id) (hm : ∀ x, x ∈ z ↔ x ∈ rs) : iI rs = some z := by
  obtain ⟨z', d1, d2, d3, d4, _⟩ := xO rs hb
  have hz' : z'.Pairwise fun x y => x.Id < y.Id := by
    refine List.pairwise_iff_getElem.2 fun i j hi hj hij => ?_
    have a1 := List.pairwise_iff_getElem.1 d2 i j hi hj hij
    have a2 := List.pairwise_iff_getElem.1 d3 i j hi hj hij
    rcases Int.lt_or_eq_of_le a1 with h | h
    · exact h
    · exact absurd (aCb hz _ ((hm _).2 ((d4 _).1 (List.getElem_mem hi))) _ ((hm _).2 ((d4 _).1 (List.getElem_mem hj))) h) a2
  rw [d1, uC (key := fun x : aD => x.Id) hz' hz fun x => (d4 x).trans (hm x).symm]
section del
end del
end Go.Am

end
section
namespace Go.Am

/-- Who gets which prize, in every course. -/
def kC : List Int → List Int → List (List (Int × Int))
  | [], _ => [[]]
  | q :: qs, free => bif free.isEmpty then [[]] else free.flatMap fun p => (kC qs (free.filter fun x => !decide (x = p))).map fun c => (p, q) :: c
def qZ (w id : Int) (c : Int × Int) : aD := ⟨id, c.1, w, c.2, false⟩
def lP (w : Int) : List aD → List (Int × Int) → List aD
  | z, [] => z
  | z, c :: t => lP w (z ++ [qZ w (100 + (z.length : Nat)) c]) t
/-- What a course looks at. -/
structure OkR (P : Int) (z : List aD) : Prop where
  st : z.Pairwise fun x y => x.Id < y.Id
  reps : ∀ x ∈ z, rX P x = true
  ids : ∀ x ∈ z, x.Id < 100 + (z.length : Nat)
def OkC (P : Int) (c : Int × Int) : Prop := (0 ≤ c.1 ∧ c.1 < P) ∧ (0 ≤ c.2 ∧ c.2 ≤ 2000)
theorem OkR.add {P w : Int} {z : List aD} (h : OkR P z) {c : Int × Int} (hc : OkC P c) (hw : 0 ≤ w ∧ w ≤ 400) (hl : z.length ≤ 1000) : OkR P (z ++ [qZ w (100 + (z.length : Nat)) c]) := by
  unfold OkC at hc
  refine ⟨List.pairwise_append.2 ⟨h.st, List.pairwise_singleton _ _, fun x hx y hy => ?_⟩, fun x hx => ?_, fun x hx => ?_⟩
  · rw [List.mem_singleton] at hy; subst hy; exact h.ids x hx
  · rcases List.mem_append.1 hx with hx | hx
    · exact h.reps x hx
    · rw [List.mem_singleton] at hx; subst hx
      unfold rX inB qZ
      simp only [Bool.and_eq_true, decide_eq_true_eq]
      omega
  · rw [List.length_append, List.length_singleton]
    rcases List.mem_append.1 hx with hx | hx
    · have := h.ids x hx; omega
    · rw [List.mem_singleton] at hx; subst hx
      show 100 + (z.length : Int) < _
      omega
theorem zY {P w : Int} (hw : 0 ≤ w ∧ w ≤ 400) : ∀ (c : List (Int × Int)) (z : List aD), OkR P z → (∀ x ∈ c, OkC P x) → z.length + c.length ≤ 1000 → OkR P (lP w z c) ∧ (lP w z c).length = z.length + c.length ∧ (lP w z c).map mT = z.map mT ++ c.map (qZ w 0)
  | [], z, h, _, _ => ⟨h, rfl, by simp [lP]⟩
  | x :: c, z, h, hc, hl => by
    rw [List.length_cons] at hl
    have h1 := h.add (hc x List.mem_cons_self) hw (by omega)
    obtain ⟨a1, a2, a3⟩ := zY hw c _ h1 (fun y hy => hc y (List.mem_cons_of_mem _ hy)) (by rw [List.length_append, List.length_singleton]; omega)
    refine ⟨a1, ?_, ?_⟩
    · rw [lP, a2, List.length_append, List.length_singleton, List.length_cons]; omega
    · rw [lP, a3, List.map_append, List.map_cons, List.append_assoc]; rfl
theorem aEb {l : List Int} (hn : l.Nodup) {i : Nat} (hi : i < l.length) : l.take i ++ l.drop (i + 1) = l.filter fun x => !decide (x = l[i]) := by
  have es : l = l.take i ++ l[i] :: l.drop (i + 1) := by rw [← List.drop_eq_getElem_cons hi, List.take_append_drop]
  have h1 := List.pairwise_append.1 (es ▸ hn : (l.take i ++ l[i] :: l.drop (i + 1)).Nodup)
  have h2 := List.pairwise_cons.1 h1.2.1
  have a1 : (l.take i).filter (fun x => !decide (x = l[i])) = l.take i := List.filter_eq_self.2 fun x hx => by
    have := h1.2.2 x hx l[i] List.mem_cons_self
    simp [this]
  have a2 : (l[i] :: l.drop (i + 1)).filter (fun x => !decide (x = l[i])) = l.drop (i + 1) := by
    rw [List.filter_cons_of_neg (by simp)]
    refine List.filter_eq_self.2 fun x hx => ?_
    have := h2.1 x hx
    simp [Ne.symm this]
  conv => rhs; arg 2; rw [es]
  rw [List.filter_append, a1, a2]
theorem aHk (a b : List Int) (ha : a.length ≤ 100000) (hb : b.length ≤ 100000) : kV [a, b] = some (a ++ b) := by
  have e1 : ∀ k s, gF [a, b] 2 (k + 3) 0 s = (app 8 s a).bind fun x => (app 8 x b).bind fun y => some y := by
    intro k s
    have w1 : w64 (0 + 1) = 1 := rfl
    have w2 : w64 (1 + 1) = 2 := rfl
    have i0 : idx [a, b] 0 = some a := rfl
    have i1 : idx [a, b] 1 = some b := rfl
    have c0 : decide ((0 : Int) < 2) = true := rfl
    have c1 : decide ((1 : Int) < 2) = true := rfl
    have c2 : decide ((2 : Int) < 2) = false := rfl
    rw [gF, c0, cond_true, i0, Option.bind_some, w1]
    refine congrArg _ (funext fun x => ?_)
    rw [gF, c1, cond_true, i1, Option.bind_some, w2]
    refine congrArg _ (funext fun y => ?_)
    rw [gF, c2, cond_false]; rfl
  have hB : BIG = (18446744073709551616 - 3) + 3 := rfl
  have hL : (([a, b] : List (List Int)).length : Int) = 2 := rfl
  have g1 : w64 (0 + (a.length : Int)) = a.length := by rw [cS (by omega) (by omega)]; omega
  have g2 : w64 ((a.length : Int) + (b.length : Int)) = ((a.length + b.length : Nat) : Int) := by rw [cS (by omega) (by omega)]; omega
  have hgrow : oB ((a.length + b.length : Nat) : Int) = some [] := by
    unfold oB
    have w0 : w64 (0 - 0) = 0 := rfl
    rw [decide_eq_false (by omega), cond_false, w0, Int.sub_zero, cS (by omega) (by omega)]
    by_cases h0 : (0 : Int) < ((a.length + b.length : Nat) : Int)
    · have c1 : decide (((a.length + b.length : Nat) : Int) * ((8 : Nat) : Int) ≤ 140737488355328) = true := decide_eq_true (by omega)
      rw [decide_eq_true h0, cond_true, c1]; rfl
    · rw [decide_eq_false h0, cond_false]
  unfold kV
  rw [hB, hL]
  have w1 : w64 (0 + 1) = 1 := rfl
  have w2 : w64 (1 + 1) = 2 := rfl
  have i0 : idx [a, b] 0 = some a := rfl
  have i1 : idx [a, b] 1 = some b := rfl
  have c0 : decide ((0 : Int) < 2) = true := rfl
  have c1 : decide ((1 : Int) < 2) = true := rfl
  have c2 : decide ((2 : Int) < 2) = false := rfl
  rw [hZ, c0, cond_true, i0, Option.bind_some, g1, decide_eq_false (by omega), cond_false, w1, hZ, c1, cond_true, i1, Option.bind_some, g2, decide_eq_false (by omega), cond_false, w2, hZ, c2, cond_false]
  unfold pH
  rw [hgrow, Option.bind_some, hB, hL, e1, gU (by simp; omega), Option.bind_some, List.nil_append, gU (by omega), Option.bind_some]

/-- What is seen after a course. -/
def zA (n : Int) (s : Bool × Int × Int) : Bool × Int × Int := (s.1 || decide (n = 0), min s.2.1 n, max s.2.2 n)
def qI (l : aL) (z : List aD) (p w : Int) : Int := pJ (nL l z w) p
theorem wM {α β S : Type} (f : S → β → S) (g : α → List β) : ∀ (L : List α) (s : S), (L.flatMap g).foldl f s = L.foldl (fun s x => (g x).foldl f s) s
  | [], _ => rfl
  | x :: L, s => by rw [List.flatMap_cons, List.foldl_append, List.foldl_cons, wM f g L]
theorem xA {α β S : Type} (f : S → β → S) (g : α → β) : ∀ (L : List α) (s : S), (L.map g).foldl f s = L.foldl (fun s x => f s (g x)) s
  | [], _ => rfl
  | x :: L, s => by rw [List.map_cons, List.foldl_cons, List.foldl_cons, xA f g L]
theorem aIn {l : aL} (hr : sL l = true) (hP : l.Players ≤ 12) {pl w : Int} (hw : 0 ≤ w ∧ w ≤ 400) : ∀ (qs : List Int) (kr : Nat) (free : List Int) (z : List aD) (s : Bool × Int × Int), qs.length < kr → OkR l.Players z → (∀ p ∈ free, 0 ≤ p ∧ p < l.Players) → (∀ q ∈ qs, 0 ≤ q ∧ q ≤ 2000) → free.Nodup → z.length + qs.length ≤ 900 → qs.length ≤ 1000 →
    eK kr (dH l z) pl w s.1 s.2.1 s.2.2 w qs free = some (dH l z, (kC qs free).foldl (fun s c => zA (qI l (lP w z c) pl w) s) s) := by
  have leaf : ∀ (z : List aD) (s : Bool × Int × Int), OkR l.Players z → z.length ≤ 1000 → qJ (dH l z) pl w s.1 s.2.1 s.2.2 = some (zA (qI l z pl w) s) := by
    intro z s hz hl
    unfold qJ
    rw [aKb hr hz.reps hz.st hl hw.1 (by omega) hP, Option.bind_some, eO, Option.bind_some]; rfl
  intro qs
  induction qs with
  | nil =>
    intro kr free z s hk hz hf hq hn hl hl2
    obtain ⟨kr, rfl⟩ : ∃ q, kr = q + 1 := ⟨kr - 1, by omega⟩
    have c0 : decide ((([] : List Int).length : Int) = 0) = true := rfl
    rw [eK, c0, cond_true, Option.bind_some, cond_true, leaf z s hz (by omega), Option.bind_some]; rfl
  | cons q qs ih =>
    intro kr free z s hk hz hf hq hn hl hl2
    rw [List.length_cons] at hk hl hl2
    obtain ⟨kr, rfl⟩ : ∃ q, kr = q + 1 := ⟨kr - 1, by omega⟩
    have c0 : decide (((q :: qs).length : Int) = 0) = false := decide_eq_false (by simp; omega)
    rw [eK, c0, cond_false, Option.bind_some]
    match free, hf, hn with
    | [], _, _ =>
      have c1 : decide ((([] : List Int).length : Int) = 0) = true := rfl
      rw [c1, cond_true, leaf z s hz (by omega), Option.bind_some]; rfl
    | p0 :: ft, hf, hn =>
      obtain ⟨free, hfe⟩ : ∃ free, free = p0 :: ft := ⟨_, rfl⟩
      have c1 : decide (((p0 :: ft).length : Int) = 0) = false := decide_eq_false (by simp; omega)
      have hfl : free.length ≤ 12 := by
        have hPp := (mS hr).1
        have hnr : ((List.range l.Players.toNat).map fun n : Nat => (n : Int)).Nodup := List.Pairwise.map _ (fun a b h => by omega) (List.nodup_range (n := l.Players.toNat))
        have := aFy (hfe ▸ hn) hnr fun x hx => by
          have := hf x (hfe ▸ hx)
          exact List.mem_map.2 ⟨x.toNat, List.mem_range.2 (by omega), by omega⟩
        rw [List.length_map, List.length_range] at this
        omega
      have hpaths : kC (q :: qs) free = free.flatMap fun p => (kC qs (free.filter fun x => !decide (x = p))).map fun c => (p, q) :: c := by rw [hfe]; rfl
      rw [c1, cond_false, ← hfe, hpaths, wM]
      have hf' : ∀ p ∈ free, 0 ≤ p ∧ p < l.Players := hfe ▸ hf
      have hn' : free.Nodup := hfe ▸ hn
      have step : ∀ p ∈ free, ∀ s : Bool × Int × Int, eK kr (dH l (z ++ [qZ w (100 + (z.length : Nat)) (p, q)])) pl w s.1 s.2.1 s.2.2 w qs (free.filter fun x => !decide (x = p)) = some (dH l (z ++ [qZ w (100 + (z.length : Nat)) (p, q)]), ((kC qs (free.filter fun x => !decide (x = p))).map fun c => (p, q) :: c).foldl (fun s c => zA (qI l (lP w z c) pl w) s) s) := by
        intro p hp s
        have hzn := hz.add (w := w) (c := (p, q)) ⟨hf' p hp, hq q List.mem_cons_self⟩ hw (by omega)
        have := ih kr (free.filter fun x => !decide (x = p)) (z ++ [qZ w (100 + (z.length : Nat)) (p, q)]) s (by omega) hzn (fun x hx => hf' x (List.mem_filter.1 hx).1) (fun x hx => hq x (List.mem_cons_of_mem _ hx)) (hn'.sublist List.filter_sublist) (by rw [List.length_append, List.length_singleton]; omega) (by omega)
        rw [this, xA]; rfl
      have main := aFz (S := List aD × Bool × Int × Int) (fun k i s => hY (eK kr) w (q :: qs) free (z.length : Nat) free (free.length : Int) pl w k i (dH l s.1) s.2.1 s.2.2.1 s.2.2.2) free.length
        (fun i s => some (dH l z, (free.drop i).foldl (fun s p => ((kC qs (free.filter fun x => !decide (x = p))).map fun c => (p, q) :: c).foldl (fun s c => zA (qI l (lP w z c) pl w) s) s) s.2))
        (fun _ s => s.1.take z.length = z ∧ z.length ≤ s.1.length) ?_ ?_ BIG (z, s) (cY (by omega)) ⟨List.take_length, Nat.le_refl _⟩
      · exact main
      · intro k i s hi hI hnext
        have hlt : decide ((i : Int) < (free.length : Int)) = true := decide_eq_true (by omega)
        have hp : free[i] ∈ free := List.getElem_mem hi
        have hsub : sub (dH l s.1).Ledger.Reports 0 ((z.length : Nat) : Int) = some z := by
          show sub s.1 0 ((z.length : Nat) : Int) = some z
          rw [sB hI.2, hI.1]
        have hsub2 : sub (q :: qs) 1 ((q :: qs).length : Int) = some qs := by
          have := tH (xs := q :: qs) (i := 1) (by simp)
          simpa using this
        have w1 : w64 (100 + ((z.length : Nat) : Int)) = 100 + ((z.length : Nat) : Int) := cS (by omega) (by omega)
        have hcat : kV [free.take i, free.drop (i + 1)] = some (free.filter fun x => !decide (x = free[i])) := by
          rw [aHk _ _ (by simp; omega) (by simp; omega), aEb hn' hi]
        simp only [hY, hlt, cond_true, dE hi, Option.bind_some, hsub, aEf, gU (show (z.length + [aD.mk (100 + ((z.length : Nat) : Int)) free[i] w q false].length) * 40 ≤ 140737488355328 by simp; omega), hsub2, sB (Nat.le_of_lt hi), cI (show i < 9223372036854775807 by omega), tH (show i + 1 ≤ free.length by omega), hcat, w1]
        have hst := step free[i] hp s.2
        have hst' : eK kr (cB.mk (aL.mk (dH l s.1).Ledger.Players (dH l s.1).Ledger.Counts (z ++ [aD.mk (100 + ((z.length : Nat) : Int)) free[i] w q false]) (dH l s.1).Ledger.Bans (dH l s.1).Ledger.Frozen)) pl w s.2.1 s.2.2.1 s.2.2.2 w qs (free.filter fun x => !decide (x = free[i])) = _ := hst
        rw [hst', Option.bind_some]
        have := hnext (z ++ [qZ w (100 + (z.length : Nat)) (free[i], q)], ((kC qs (free.filter fun x => !decide (x = free[i]))).map fun c => (free[i], q) :: c).foldl (fun s c => zA (qI l (lP w z c) pl w) s) s.2) ⟨by simp, by simp⟩
        refine Eq.trans this ?_
        rw [List.drop_eq_getElem_cons hi, List.foldl_cons]
      · intro k s hI
        have hlt : decide ((free.length : Int) < (free.length : Int)) = false := decide_eq_false (by omega)
        have hsub : sub (dH l s.1).Ledger.Reports 0 ((z.length : Nat) : Int) = some z := by
          show sub s.1 0 ((z.length : Nat) : Int) = some z
          rw [sB hI.2, hI.1]
        simp only [hY, hlt, cond_false, pF, hsub, Option.bind_some, List.drop_length, List.foldl_nil]; rfl
end Go.Am

end
section
namespace Go.Am
theorem aFq : lF = some true := by kernel_rfl
end Go.Am

end
