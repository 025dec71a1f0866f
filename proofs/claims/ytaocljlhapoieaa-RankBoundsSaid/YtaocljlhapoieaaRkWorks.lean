/- Plain laws, one behind the other. -/
import Derived.Test.YtaocljlhapoieaaRkPlain13
import Derived.Test.YtaocljlhapoieaaRkSh
import Derived.KernelRfl
section
namespace Go.Am

/-- Sizes that any statement looks at. -/
def Bd (l : aM) : Prop := l.Reports.length ≤ 1000 ∧ l.Bans.length ≤ 1000 ∧ l.Frozen.length ≤ 1000
def tK (l : aM) (p w : Int) : Bool := inB p 0 (l.Players - 1) && inB w 0 400
/-- The error of a question. -/
def aHj (l : aM) (p w : Int) : Int := bif decide (lE l = 0) then (bif tK l p w then 0 else 1) else lE l
theorem GL.bd {l : aM} {z : List aB} (h : GL l z) : Bd l := by have := jG h.led; unfold Bd; omega
theorem GL.players {l : aM} {z : List aB} (h : GL l z) : 1 ≤ l.Players ∧ l.Players ≤ 16 := (jG h.led).1
theorem aHk {l : aM} {p w : Int} (h : aHj l p w = 0) : lE l = 0 ∧ tK l p w = true := by
  unfold aHj at h
  by_cases hc : lE l = 0
  · rw [decide_eq_true hc, cond_true] at h
    refine ⟨hc, ?_⟩
    cases hb : tK l p w with
    | true => rfl
    | false => rw [hb] at h; simp at h
  · rw [decide_eq_false hc, cond_false] at h
    exact absurd h hc
theorem xQ {l : aM} {p w : Int} (h : tK l p w = true) : (0 ≤ p ∧ p < l.Players) ∧ (0 ≤ w ∧ w ≤ 400) := by
  unfold tK inB at h
  simp only [Bool.and_eq_true, decide_eq_true_eq] at h
  omega
theorem aKb {l : aM} {z : List aB} (h : GL l z) : tC l = some (some (dF l z), 0) := by
  obtain ⟨h1, h2, h3⟩ := h.bd
  unfold tC
  rw [aJy l (by omega) (by omega) (by omega), Option.bind_some, aHl h, h.once]; rfl
theorem aIg {l : aM} {z : List aB} (h : GL l z) {p w : Int} (ha : tK l p w = true) : pG l p w = some (some (dF l z), 0) := by
  have hP := h.players
  unfold pG
  rw [aKb h, Option.bind_some]
  have e1 : w64 (l.Players - 1) = l.Players - 1 := cS (by omega) (by omega)
  have e2 : (!(decide (0 ≤ p) && decide (p ≤ l.Players - 1)) || !(decide (0 ≤ w) && decide (w ≤ 400))) = false := by
    have := xQ ha
    rw [Bool.or_eq_false_iff]
    simp; omega
  simp only [vW, e1, sM, Option.bind_some, eO, e2, cond_false]
  rfl
def tA (n : Int) : Int × Int := bif decide (n = 0) then (0, 3) else (n, 0)
theorem aAy {l : aM} {z : List aB} (h : GL l z) (hP : l.Players ≤ 12) {p w : Int} (ha : tK l p w = true) : pT l p w = some (tA (mM (jT l z w) p)) := by
  have hw := (xQ ha).2
  unfold pT tA
  rw [aIg h ha, Option.bind_some]
  simp only [vW, decide_true, Bool.not_true, cond_false, aFk h.rest h.reps h.st (Nat.le_trans h.len (by omega)) hw.1 (by omega) hP, Option.bind_some]
  cases decide (mM (jT l z w) p = 0) <;> rfl
theorem aFa {l : aM} (hb : Bd l) : jB l = some l := by
  obtain ⟨h1, h2, h3⟩ := hb
  unfold jB
  rw [hJ (by simp; omega), Option.bind_some, hJ (by simp; omega), Option.bind_some, hJ (by simp; omega), Option.bind_some]
  simp
/-- What is too far for a statement. -/
theorem aGu {l : aM} (h : iO l = some false) : (l.Reports.length ≤ 60 ∧ l.Bans.length ≤ 20 ∧ l.Frozen.length ≤ 20) ∧ (lE l = 0 → l.Players ≤ 5 ∧ l.Reports.length ≤ 10 ∧ ∀ r ∈ l.Reports, r.Week ≤ 150) := by
  unfold iO at h
  rw [eO, Option.bind_some, eO, Option.bind_some] at h
  cases hf : (decide (60 < (l.Reports.length : Int)) || decide (20 < (l.Bans.length : Int)) || decide (20 < (l.Frozen.length : Int))) with
  | true => rw [hf] at h; simp at h
  | false =>
    simp only [Bool.or_eq_false_iff, decide_eq_false_iff_not] at hf
    refine ⟨by omega, fun hc => ?_⟩
    have hf' : (decide (60 < (l.Reports.length : Int)) || decide (20 < (l.Bans.length : Int)) || decide (20 < (l.Frozen.length : Int))) = false := by simp only [Bool.or_eq_false_iff, decide_eq_false_iff_not]; omega
    rw [hf', cond_false, aAn l (by omega) (by omega) (by omega), Option.bind_some, hc] at h
    simp only [decide_true, Bool.not_true, cond_false] at h
    have main := lW (fun k i => fN l k i) l.Reports.length (fun i => !(fun r : aB => decide (150 < r.Week)) (l.Reports.getD i default)) (some true) (kA l) (fun k i hi => by
      have hlt : decide ((i : Int) < (l.Reports.length : Int)) = true := decide_eq_true (by omega)
      have ei : l.Reports.getD i default = l.Reports[i] := by simp [List.getD, List.getElem?_eq_getElem hi]
      simp only [fN, hlt, cond_true, dD hi, Option.bind_some, cF (show i < 9223372036854775807 by omega), ei]
      cases decide (150 < l.Reports[i].Week) <;> rfl) (fun k => by
      have hlt : decide ((l.Reports.length : Int) < (l.Reports.length : Int)) = false := decide_eq_false (by omega)
      simp only [fN, hlt, cond_false]) BIG (cY (by omega))
    rw [main, aBv l.Reports (fun r : aB => decide (150 < r.Week))] at h
    cases hw : l.Reports.any fun r => decide (150 < r.Week) with
    | true => rw [hw] at h; simp at h
    | false =>
      rw [hw] at h
      unfold kA at h
      simp only [Bool.not_false, cond_true, eO, Option.bind_some, Option.some.injEq, Bool.or_eq_false_iff, decide_eq_false_iff_not] at h
      refine ⟨by omega, by omega, fun r hr => ?_⟩
      have := List.any_eq_false.1 hw r hr
      simp only [decide_eq_true_eq] at this
      omega
theorem aHn (l : aM) (hb : l.Reports.length ≤ 140737488355328 ∧ l.Bans.length ≤ 140737488355328 ∧ l.Frozen.length ≤ 140737488355328) : ∃ b, iO l = some b := by
  unfold iO
  rw [eO, Option.bind_some, eO, Option.bind_some]
  cases hf : (decide (60 < (l.Reports.length : Int)) || decide (20 < (l.Bans.length : Int)) || decide (20 < (l.Frozen.length : Int))) with
  | true => exact ⟨true, rfl⟩
  | false =>
    simp only [Bool.or_eq_false_iff, decide_eq_false_iff_not] at hf
    rw [cond_false, aAn l (by omega) (by omega) (by omega), Option.bind_some]
    cases (!decide (lE l = 0)) with
    | true => exact ⟨false, rfl⟩
    | false =>
      rw [cond_false]
      have main := lW (fun k i => fN l k i) l.Reports.length (fun i => !(fun r : aB => decide (150 < r.Week)) (l.Reports.getD i default)) (some true) (kA l) (fun k i hi => by
        have hlt : decide ((i : Int) < (l.Reports.length : Int)) = true := decide_eq_true (by omega)
        have ei : l.Reports.getD i default = l.Reports[i] := by simp [List.getD, List.getElem?_eq_getElem hi]
        simp only [fN, hlt, cond_true, dD hi, Option.bind_some, cF (show i < 9223372036854775807 by omega), ei]
        cases decide (150 < l.Reports[i].Week) <;> rfl) (fun k => by
        have hlt : decide ((l.Reports.length : Int) < (l.Reports.length : Int)) = false := decide_eq_false (by omega)
        simp only [fN, hlt, cond_false]) BIG (cY (by omega))
      rw [main]
      unfold kA
      rw [eO, Option.bind_some]
      cases (List.range l.Reports.length).all fun i => !(fun r : aB => decide (150 < r.Week)) (l.Reports.getD i default)
      · exact ⟨_, rfl⟩
      · exact ⟨_, rfl⟩
end Go.Am

end
section
namespace Go.Am

end Go.Am

end
section
namespace Go.Am

section del
end del

end Go.Am

end
section
namespace Go.Am

theorem aEx {α : Type} {R : α → α → Prop} [DecidableRel R] (hirr : ∀ x, ¬ R x x) (hasym : ∀ x y, R x y → ¬ R y x) {s : List α} (hs : s.Pairwise R) {i : Nat} (hi : i < s.length) : (s.filter fun q => decide (R q s[i])).length = i := by
  have es : s = s.take i ++ s[i] :: s.drop (i + 1) := by rw [← List.drop_eq_getElem_cons hi, List.take_append_drop]
  have h1 := List.pairwise_append.1 (es ▸ hs)
  have a1 : (s.take i).filter (fun q => decide (R q s[i])) = s.take i := List.filter_eq_self.2 fun q hq => decide_eq_true (h1.2.2 q hq _ List.mem_cons_self)
  have a2 : (s[i] :: s.drop (i + 1)).filter (fun q => decide (R q s[i])) = [] := List.filter_eq_nil_iff.2 fun q hq => by
    rw [decide_eq_true_eq]
    rcases List.mem_cons.1 hq with rfl | hq
    · exact hirr _
    · exact hasym _ _ ((List.pairwise_cons.1 h1.2.1).1 q hq)
  have a3 : s.filter (fun q => decide (R q s[i])) = s.take i := by
    conv => lhs; arg 2; rw [es]
    rw [List.filter_append, a1, a2, List.append_nil]
  rw [a3, List.length_take]; omega
theorem aHb {out : List Int} (hn : out.Nodup) {i : Nat} (hi : i < out.length) : mM out out[i] = i + 1 := by
  have : out.findIdx (fun x => decide (out[i] = x)) = i := by
    rw [List.findIdx_eq hi]
    refine ⟨by simp, fun j hj => ?_⟩
    rw [decide_eq_false_iff_not]
    exact fun he => absurd he.symm (List.pairwise_iff_getElem.1 hn j i (by omega) hi hj)
  unfold mM oA
  rw [this, if_pos hi]
theorem IsList.nodup {l : aM} {z : List aB} {w : Int} {out : List Int} (h : IsList l z w out) : out.Nodup := h.st.imp fun {a b} hb he => by subst he; exact zA _ _ _ _ hb
theorem aFe {a b : List Int} (ha : a.Nodup) (hb : b.Nodup) (h : ∀ x ∈ a, x ∈ b) : a.length ≤ b.length := by
  have hp : a.Perm (b.filter fun x => decide (x ∈ a)) := (List.perm_ext_iff_of_nodup ha (hb.sublist List.filter_sublist)).2 fun x => by
    rw [List.mem_filter, decide_eq_true_eq]
    exact ⟨fun hx => ⟨h x hx, hx⟩, fun hx => hx.2⟩
  rw [hp.length_eq]
  exact List.length_filter_le _ _
/-- A place is one more than the number of those before. -/
theorem IsList.place {l : aM} {z : List aB} {w : Int} {out : List Int} (h : IsList l z w out) {p : Int} (hp : p ∈ out) : mM out p = (out.filter fun q => decide (bef l z w q p)).length + 1 := by
  obtain ⟨i, hi, rfl⟩ := List.getElem_of_mem hp
  rw [aHb h.nodup hi, aEx (zA l z w) (aCx l z w) h.st hi]
end Go.Am

end
section
namespace Go.Am

def mB (r : aB) : aB := ⟨0, r.Player, r.Week, r.Points, r.Must⟩
/-- Equal rows of reports but for the Ids, which stand in the same order. -/
structure Iso (a b : List aB) : Prop where
  same : a.map mB = b.map mB
  sa : a.Pairwise fun x y => x.Id < y.Id
  sb : b.Pairwise fun x y => x.Id < y.Id
theorem Iso.len {a b : List aB} (h : Iso a b) : a.length = b.length := by have := congrArg List.length h.same; simpa using this
theorem Iso.at {a b : List aB} (h : Iso a b) {i : Nat} (hi : i < a.length) : mB a[i] = mB (b[i]'(by rw [← h.len]; exact hi)) := by
  have h1 : (a.map mB)[i]'(by simpa using hi) = (b.map mB)[i]'(by simp; rw [← h.len]; exact hi) := by simp only [h.same]
  simpa using h1
theorem Iso.filter {a b : List aB} (h : Iso a b) {p : aB → Bool} (hp : ∀ r, p r = p (mB r)) : Iso (a.filter p) (b.filter p) := by
  refine ⟨?_, h.sa.sublist List.filter_sublist, h.sb.sublist List.filter_sublist⟩
  have e : ∀ l : List aB, (l.filter p).map mB = (l.map mB).filter p := fun l => by
    rw [List.filter_map]
    congr 1
    exact List.filter_congr fun r _ => hp r
  rw [e, e, h.same]
theorem aBi (l : List aB) : jX (l.map mB) = jX l := by
  induction l with
  | nil => rfl
  | cons r l ih => rw [List.map_cons, jX, jX, ih]; rfl
theorem Iso.sum {a b : List aB} (h : Iso a b) : jX a = jX b := by rw [← aBi a, ← aBi b, h.same]
theorem aHc (l : List aB) : (List.range l.length).map (fun i => l.getD i default) = l := by
  refine List.ext_getElem (by simp) fun i h1 h2 => ?_
  simp [List.getD, List.getElem?_eq_getElem h2]
theorem rM (l : List aB) (p : aB → Bool) : l.filter p = ((List.range l.length).filter fun i => p (l.getD i default)).map fun i => l.getD i default := by
  conv => lhs; rw [← aHc l]
  rw [List.filter_map]; rfl
theorem Iso.getD {a b : List aB} (h : Iso a b) {i : Nat} (hi : i < a.length) : mB (a.getD i default) = mB (b.getD i default) := by
  have := h.at hi
  have hb : i < b.length := by rw [← h.len]; exact hi
  simpa [List.getD, List.getElem?_eq_getElem hi, List.getElem?_eq_getElem hb] using this
theorem Iso.order {a b : List aB} (h : Iso a b) {i j : Nat} (hi : i < a.length) (hj : j < a.length) : decide ((a.getD j default).Id < (a.getD i default).Id) = decide ((b.getD j default).Id < (b.getD i default).Id) := by
  have key : ∀ (c : List aB), c.Pairwise (fun x y => x.Id < y.Id) → i < c.length → j < c.length → ((c.getD j default).Id < (c.getD i default).Id ↔ j < i) := by
    intro c hc hi hj
    simp only [List.getD, List.getElem?_eq_getElem hi, List.getElem?_eq_getElem hj, Option.getD_some]
    have g := List.pairwise_iff_getElem.1 hc
    constructor
    · intro hlt
      rcases Nat.lt_trichotomy j i with h | h | h
      · exact h
      · subst h; omega
      · have := g i j hi hj h; omega
    · exact fun hlt => g j i hj hi hlt
  rw [decide_eq_decide, key a h.sa hi hj, key b h.sb (by rw [← h.len]; exact hi) (by rw [← h.len]; exact hj)]
theorem wB {x y : aB} (h : mB x = mB y) : x.Player = y.Player ∧ x.Week = y.Week ∧ x.Points = y.Points ∧ x.Must = y.Must := by
  unfold mB at h
  injection h with _ h1 h2 h3 h4
  exact ⟨h1, h2, h3, h4⟩
theorem Iso.musts {a b : List aB} (h : Iso a b) : eE a = eE b := (h.filter (p := fun r => r.Must) fun _ => rfl).len
theorem Iso.better {a b : List aB} (h : Iso a b) {i : Nat} (hi : i < a.length) : jY a (a.getD i default) = jY b (b.getD i default) := by
  unfold jY
  rw [rM a, rM b, List.length_map, List.length_map, ← h.len]
  congr 1
  refine List.filter_congr fun j hj => ?_
  have hj' := List.mem_range.1 hj
  obtain ⟨_, _, h1, h2⟩ := wB (h.getD hi)
  obtain ⟨_, _, h3, h4⟩ := wB (h.getD hj')
  rw [h.order hi hj', h1, h3, h4]
theorem Iso.taken {a b : List aB} (h : Iso a b) (C : Int) : Iso (nF C a) (nF C b) := by
  refine ⟨?_, h.sa.sublist List.filter_sublist, h.sb.sublist List.filter_sublist⟩
  unfold nF
  rw [rM a, rM b, List.map_map, List.map_map, ← h.len, h.musts]
  have e : (List.range a.length).filter (fun i => (a.getD i default).Must || decide ((jY a (a.getD i default) : Int) < C - eE b)) = (List.range a.length).filter (fun i => (b.getD i default).Must || decide ((jY b (b.getD i default) : Int) < C - eE b)) := List.filter_congr fun i hi => by
    have hi' := List.mem_range.1 hi
    rw [h.better hi', (wB (h.getD hi')).2.2.2]
  rw [e]
  refine List.map_congr_left fun i hi => ?_
  exact h.getD (List.mem_range.1 (List.mem_filter.1 hi).1)
theorem Iso.count {a b : List aB} (h : Iso a b) (l : aM) (p w : Int) : Iso (eL l a p w) (eL l b p w) := h.filter fun _ => rfl
theorem Iso.pts {a b : List aB} (h : Iso a b) (l : aM) (p w : Int) : wW l a p w = wW l b p w := ((h.count l p w).taken l.Counts).sum
theorem Iso.line {a b : List aB} (h : Iso a b) (l : aM) (w p : Int) : mX l a w p = mX l b w p := by
  have hc := h.count l p w
  unfold mX jO
  rw [h.pts, hc.len, (hc.filter (p := fun r => r.Must) fun _ => rfl).sum]
theorem Iso.listed {a b : List aB} (h : Iso a b) (l : aM) (w p : Int) : kC l a w p = kC l b w p := by
  unfold kC
  rw [(h.count l p w).len]
theorem Iso.isList {a b : List aB} (h : Iso a b) {l : aM} {w : Int} {out : List Int} (ho : IsList l a w out) : IsList l b w out := by
  refine ⟨ho.st.imp fun {x y} hxy => ?_, fun p => by rw [ho.mem, h.listed]⟩
  unfold bef at hxy ⊢
  rwa [h.line, h.line] at hxy
end Go.Am

end
section
namespace Go.Am

section ban
variable {l : aM} {z : List aB} (ban : aX) (w : Int)
end ban

/-- A ledger with one more report. -/
def aKo (l : aM) (r : aB) : aM := ⟨l.Players, l.Counts, l.Reports ++ [r], l.Bans, l.Frozen⟩
section add
variable {l : aM} {z : List aB} {r : aB} (w : Int)
end add
end Go.Am

end
section
namespace Go.Am

/-- A ledger that a statement looks at. -/
structure Near (l : aM) : Prop where
  bd : Bd l
  pl : lE l = 0 → l.Players ≤ 5
theorem Near.gl {l : aM} (h : Near l) {p w : Int} (ha : aHj l p w = 0) : ∃ z, GL l z ∧ tK l p w = true ∧ l.Players ≤ 12 := by
  obtain ⟨h1, h2⟩ := aHk ha
  obtain ⟨z, hz⟩ := aFw h1
  exact ⟨z, hz, h2, by have := h.pl h1; omega⟩
end Go.Am

end
section
namespace Go.Am

theorem aEi {rs z : List aB} (hb : rs.length ≤ 1000000) (hz : z.Pairwise fun x y => x.Id < y.Id) (hm : ∀ x, x ∈ z ↔ x ∈ rs) : kM rs = some z := by
  obtain ⟨z', d1, d2, d3, d4, _⟩ := xF rs hb
  have hz' : z'.Pairwise fun x y => x.Id < y.Id := by
    refine List.pairwise_iff_getElem.2 fun i j hi hj hij => ?_
    have a1 := List.pairwise_iff_getElem.1 d2 i j hi hj hij
    have a2 := List.pairwise_iff_getElem.1 d3 i j hi hj hij
    rcases Int.lt_or_eq_of_le a1 with h | h
    · exact h
    · exact absurd (aBh hz _ ((hm _).2 ((d4 _).1 (List.getElem_mem hi))) _ ((hm _).2 ((d4 _).1 (List.getElem_mem hj))) h) a2
  rw [d1, qV (key := fun x : aB => x.Id) hz' hz fun x => (d4 x).trans (hm x).symm]
section del
end del
end Go.Am

end
section
namespace Go.Am

/-- Who gets which prize, in every course. -/
def lP : List Int → List Int → List (List (Int × Int))
  | [], _ => [[]]
  | q :: qs, free => bif free.isEmpty then [[]] else free.flatMap fun p => (lP qs (free.filter fun x => !decide (x = p))).map fun c => (p, q) :: c
def sI (w id : Int) (c : Int × Int) : aB := ⟨id, c.1, w, c.2, false⟩
def jN (w : Int) : List aB → List (Int × Int) → List aB
  | z, [] => z
  | z, c :: t => jN w (z ++ [sI w (100 + (z.length : Nat)) c]) t
/-- What a course looks at. -/
structure OkR (P : Int) (z : List aB) : Prop where
  st : z.Pairwise fun x y => x.Id < y.Id
  reps : ∀ x ∈ z, rF P x = true
  ids : ∀ x ∈ z, x.Id < 100 + (z.length : Nat)
def OkC (P : Int) (c : Int × Int) : Prop := (0 ≤ c.1 ∧ c.1 < P) ∧ (0 ≤ c.2 ∧ c.2 ≤ 2000)
theorem OkR.add {P w : Int} {z : List aB} (h : OkR P z) {c : Int × Int} (hc : OkC P c) (hw : 0 ≤ w ∧ w ≤ 400) (hl : z.length ≤ 1000) : OkR P (z ++ [sI w (100 + (z.length : Nat)) c]) := by
  unfold OkC at hc
  refine ⟨List.pairwise_append.2 ⟨h.st, List.pairwise_singleton _ _, fun x hx y hy => ?_⟩, fun x hx => ?_, fun x hx => ?_⟩
  · rw [List.mem_singleton] at hy; subst hy; exact h.ids x hx
  · rcases List.mem_append.1 hx with hx | hx
    · exact h.reps x hx
    · rw [List.mem_singleton] at hx; subst hx
      unfold rF inB sI
      simp only [Bool.and_eq_true, decide_eq_true_eq]
      omega
  · rw [List.length_append, List.length_singleton]
    rcases List.mem_append.1 hx with hx | hx
    · have := h.ids x hx; omega
    · rw [List.mem_singleton] at hx; subst hx
      show 100 + (z.length : Int) < _
      omega
theorem zK {P w : Int} (hw : 0 ≤ w ∧ w ≤ 400) : ∀ (c : List (Int × Int)) (z : List aB), OkR P z → (∀ x ∈ c, OkC P x) → z.length + c.length ≤ 1000 → OkR P (jN w z c) ∧ (jN w z c).length = z.length + c.length ∧ (jN w z c).map mB = z.map mB ++ c.map (sI w 0)
  | [], z, h, _, _ => ⟨h, rfl, by simp [jN]⟩
  | x :: c, z, h, hc, hl => by
    rw [List.length_cons] at hl
    have h1 := h.add (hc x List.mem_cons_self) hw (by omega)
    obtain ⟨a1, a2, a3⟩ := zK hw c _ h1 (fun y hy => hc y (List.mem_cons_of_mem _ hy)) (by rw [List.length_append, List.length_singleton]; omega)
    refine ⟨a1, ?_, ?_⟩
    · rw [jN, a2, List.length_append, List.length_singleton, List.length_cons]; omega
    · rw [jN, a3, List.map_append, List.map_cons, List.append_assoc]; rfl
theorem aDg {l : List Int} (hn : l.Nodup) {i : Nat} (hi : i < l.length) : l.take i ++ l.drop (i + 1) = l.filter fun x => !decide (x = l[i]) := by
  have es : l = l.take i ++ l[i] :: l.drop (i + 1) := by rw [← List.drop_eq_getElem_cons hi, List.take_append_drop]
  have h1 := List.pairwise_append.1 (es ▸ hn : (l.take i ++ l[i] :: l.drop (i + 1)).Nodup)
  have h2 := List.pairwise_cons.1 h1.2.1
  have a1 : (l.take i).filter (fun x => !decide (x = l[i])) = l.take i := List.filter_eq_self.2 fun x hx => by
    have := h1.2.2 x hx l[i] List.mem_cons_self
    simp [this]
  have a2 : (l[i] :: l.drop (i + 1)).filter (fun x => !decide (x = l[i])) = l.drop (i + 1) := by
    rw [List.filter_cons_of_neg (by simp)]
    refine List.filter_eq_self.2 fun x hx => ?_
    have := h2.1 x hx
    simp [Ne.symm this]
  conv => rhs; arg 2; rw [es]
  rw [List.filter_append, a1, a2]
theorem aGr (a b : List Int) (ha : a.length ≤ 100000) (hb : b.length ≤ 100000) : kG [a, b] = some (a ++ b) := by
  have e1 : ∀ k s, fV [a, b] 2 (k + 3) 0 s = (app 8 s a).bind fun x => (app 8 x b).bind fun y => some y := by
    intro k s
    have w1 : w64 (0 + 1) = 1 := rfl
    have w2 : w64 (1 + 1) = 2 := rfl
    have i0 : idx [a, b] 0 = some a := rfl
    have i1 : idx [a, b] 1 = some b := rfl
    have c0 : decide ((0 : Int) < 2) = true := rfl
    have c1 : decide ((1 : Int) < 2) = true := rfl
    have c2 : decide ((2 : Int) < 2) = false := rfl
    rw [fV, c0, cond_true, i0, Option.bind_some, w1]
    refine congrArg _ (funext fun x => ?_)
    rw [fV, c1, cond_true, i1, Option.bind_some, w2]
    refine congrArg _ (funext fun y => ?_)
    rw [fV, c2, cond_false]; rfl
  have hB : BIG = (18446744073709551616 - 3) + 3 := rfl
  have hL : (([a, b] : List (List Int)).length : Int) = 2 := rfl
  have g1 : w64 (0 + (a.length : Int)) = a.length := by rw [cS (by omega) (by omega)]; omega
  have g2 : w64 ((a.length : Int) + (b.length : Int)) = ((a.length + b.length : Nat) : Int) := by rw [cS (by omega) (by omega)]; omega
  have hgrow : nC ((a.length + b.length : Nat) : Int) = some [] := by
    unfold nC
    have w0 : w64 (0 - 0) = 0 := rfl
    rw [decide_eq_false (by omega), cond_false, w0, Int.sub_zero, cS (by omega) (by omega)]
    by_cases h0 : (0 : Int) < ((a.length + b.length : Nat) : Int)
    · have c1 : decide (((a.length + b.length : Nat) : Int) * ((8 : Nat) : Int) ≤ 140737488355328) = true := decide_eq_true (by omega)
      rw [decide_eq_true h0, cond_true, c1]; rfl
    · rw [decide_eq_false h0, cond_false]
  unfold kG
  rw [hB, hL]
  have w1 : w64 (0 + 1) = 1 := rfl
  have w2 : w64 (1 + 1) = 2 := rfl
  have i0 : idx [a, b] 0 = some a := rfl
  have i1 : idx [a, b] 1 = some b := rfl
  have c0 : decide ((0 : Int) < 2) = true := rfl
  have c1 : decide ((1 : Int) < 2) = true := rfl
  have c2 : decide ((2 : Int) < 2) = false := rfl
  rw [gP, c0, cond_true, i0, Option.bind_some, g1, decide_eq_false (by omega), cond_false, w1, gP, c1, cond_true, i1, Option.bind_some, g2, decide_eq_false (by omega), cond_false, w2, gP, c2, cond_false]
  unfold oH
  rw [hgrow, Option.bind_some, hB, hL, e1, hJ (by simp; omega), Option.bind_some, List.nil_append, hJ (by omega), Option.bind_some]

/-- What is seen after a course. -/
def yS (n : Int) (s : Bool × Int × Int) : Bool × Int × Int := (s.1 || decide (n = 0), min s.2.1 n, max s.2.2 n)
def nV (l : aM) (z : List aB) (p w : Int) : Int := mM (jT l z w) p
theorem wH {α β S : Type} (f : S → β → S) (g : α → List β) : ∀ (L : List α) (s : S), (L.flatMap g).foldl f s = L.foldl (fun s x => (g x).foldl f s) s
  | [], _ => rfl
  | x :: L, s => by rw [List.flatMap_cons, List.foldl_append, List.foldl_cons, wH f g L]
theorem wS {α β S : Type} (f : S → β → S) (g : α → β) : ∀ (L : List α) (s : S), (L.map g).foldl f s = L.foldl (fun s x => f s (g x)) s
  | [], _ => rfl
  | x :: L, s => by rw [List.map_cons, List.foldl_cons, List.foldl_cons, wS f g L]
theorem aHu {l : aM} (hr : sU l = true) (hP : l.Players ≤ 12) {pl w : Int} (hw : 0 ≤ w ∧ w ≤ 400) : ∀ (qs : List Int) (kr : Nat) (free : List Int) (z : List aB) (s : Bool × Int × Int), qs.length < kr → OkR l.Players z → (∀ p ∈ free, 0 ≤ p ∧ p < l.Players) → (∀ q ∈ qs, 0 ≤ q ∧ q ≤ 2000) → free.Nodup → z.length + qs.length ≤ 900 → qs.length ≤ 1000 →
    eD kr (dF l z) pl w s.1 s.2.1 s.2.2 w qs free = some (dF l z, (lP qs free).foldl (fun s c => yS (nV l (jN w z c) pl w) s) s) := by
  have leaf : ∀ (z : List aB) (s : Bool × Int × Int), OkR l.Players z → z.length ≤ 1000 → pF (dF l z) pl w s.1 s.2.1 s.2.2 = some (yS (nV l z pl w) s) := by
    intro z s hz hl
    unfold pF
    rw [aFk hr hz.reps hz.st hl hw.1 (by omega) hP, Option.bind_some, eO, Option.bind_some]; rfl
  intro qs
  induction qs with
  | nil =>
    intro kr free z s hk hz hf hq hn hl hl2
    obtain ⟨kr, rfl⟩ : ∃ q, kr = q + 1 := ⟨kr - 1, by omega⟩
    have c0 : decide ((([] : List Int).length : Int) = 0) = true := rfl
    rw [eD, c0, cond_true, Option.bind_some, cond_true, leaf z s hz (by omega), Option.bind_some]; rfl
  | cons q qs ih =>
    intro kr free z s hk hz hf hq hn hl hl2
    rw [List.length_cons] at hk hl hl2
    obtain ⟨kr, rfl⟩ : ∃ q, kr = q + 1 := ⟨kr - 1, by omega⟩
    have c0 : decide (((q :: qs).length : Int) = 0) = false := decide_eq_false (by simp; omega)
    rw [eD, c0, cond_false, Option.bind_some]
    match free, hf, hn with
    | [], _, _ =>
      have c1 : decide ((([] : List Int).length : Int) = 0) = true := rfl
      rw [c1, cond_true, leaf z s hz (by omega), Option.bind_some]; rfl
    | p0 :: ft, hf, hn =>
      obtain ⟨free, hfe⟩ : ∃ free, free = p0 :: ft := ⟨_, rfl⟩
      have c1 : decide (((p0 :: ft).length : Int) = 0) = false := decide_eq_false (by simp; omega)
      have hfl : free.length ≤ 12 := by
        have hPp := (nB hr).1
        have hnr : ((List.range l.Players.toNat).map fun n : Nat => (n : Int)).Nodup := List.Pairwise.map _ (fun a b h => by omega) (List.nodup_range (n := l.Players.toNat))
        have := aFe (hfe ▸ hn) hnr fun x hx => by
          have := hf x (hfe ▸ hx)
          exact List.mem_map.2 ⟨x.toNat, List.mem_range.2 (by omega), by omega⟩
        rw [List.length_map, List.length_range] at this
        omega
      have hpaths : lP (q :: qs) free = free.flatMap fun p => (lP qs (free.filter fun x => !decide (x = p))).map fun c => (p, q) :: c := by rw [hfe]; rfl
      rw [c1, cond_false, ← hfe, hpaths, wH]
      have hf' : ∀ p ∈ free, 0 ≤ p ∧ p < l.Players := hfe ▸ hf
      have hn' : free.Nodup := hfe ▸ hn
      have step : ∀ p ∈ free, ∀ s : Bool × Int × Int, eD kr (dF l (z ++ [sI w (100 + (z.length : Nat)) (p, q)])) pl w s.1 s.2.1 s.2.2 w qs (free.filter fun x => !decide (x = p)) = some (dF l (z ++ [sI w (100 + (z.length : Nat)) (p, q)]), ((lP qs (free.filter fun x => !decide (x = p))).map fun c => (p, q) :: c).foldl (fun s c => yS (nV l (jN w z c) pl w) s) s) := by
        intro p hp s
        have hzn := hz.add (w := w) (c := (p, q)) ⟨hf' p hp, hq q List.mem_cons_self⟩ hw (by omega)
        have := ih kr (free.filter fun x => !decide (x = p)) (z ++ [sI w (100 + (z.length : Nat)) (p, q)]) s (by omega) hzn (fun x hx => hf' x (List.mem_filter.1 hx).1) (fun x hx => hq x (List.mem_cons_of_mem _ hx)) (hn'.sublist List.filter_sublist) (by rw [List.length_append, List.length_singleton]; omega) (by omega)
        rw [this, wS]; rfl
      have main := aFf (S := List aB × Bool × Int × Int) (fun k i s => gO (eD kr) w (q :: qs) free (z.length : Nat) free (free.length : Int) pl w k i (dF l s.1) s.2.1 s.2.2.1 s.2.2.2) free.length
        (fun i s => some (dF l z, (free.drop i).foldl (fun s p => ((lP qs (free.filter fun x => !decide (x = p))).map fun c => (p, q) :: c).foldl (fun s c => yS (nV l (jN w z c) pl w) s) s) s.2))
        (fun _ s => s.1.take z.length = z ∧ z.length ≤ s.1.length) ?_ ?_ BIG (z, s) (cY (by omega)) ⟨List.take_length, Nat.le_refl _⟩
      · exact main
      · intro k i s hi hI hnext
        have hlt : decide ((i : Int) < (free.length : Int)) = true := decide_eq_true (by omega)
        have hp : free[i] ∈ free := List.getElem_mem hi
        have hsub : sub (dF l s.1).Ledger.Reports 0 ((z.length : Nat) : Int) = some z := by
          show sub s.1 0 ((z.length : Nat) : Int) = some z
          rw [rI hI.2, hI.1]
        have hsub2 : sub (q :: qs) 1 ((q :: qs).length : Int) = some qs := by
          have := uY (xs := q :: qs) (i := 1) (by simp)
          simpa using this
        have w1 : w64 (100 + ((z.length : Nat) : Int)) = 100 + ((z.length : Nat) : Int) := cS (by omega) (by omega)
        have hcat : kG [free.take i, free.drop (i + 1)] = some (free.filter fun x => !decide (x = free[i])) := by
          rw [aGr _ _ (by simp; omega) (by simp; omega), aDg hn' hi]
        simp only [gO, hlt, cond_true, dD hi, Option.bind_some, hsub, aHp, hJ (show (z.length + [aB.mk (100 + ((z.length : Nat) : Int)) free[i] w q false].length) * 40 ≤ 140737488355328 by simp; omega), hsub2, rI (Nat.le_of_lt hi), cF (show i < 9223372036854775807 by omega), uY (show i + 1 ≤ free.length by omega), hcat, w1]
        have hst := step free[i] hp s.2
        have hst' : eD kr (bW.mk (aM.mk (dF l s.1).Ledger.Players (dF l s.1).Ledger.Counts (z ++ [aB.mk (100 + ((z.length : Nat) : Int)) free[i] w q false]) (dF l s.1).Ledger.Bans (dF l s.1).Ledger.Frozen)) pl w s.2.1 s.2.2.1 s.2.2.2 w qs (free.filter fun x => !decide (x = free[i])) = _ := hst
        rw [hst', Option.bind_some]
        have := hnext (z ++ [sI w (100 + (z.length : Nat)) (free[i], q)], ((lP qs (free.filter fun x => !decide (x = free[i]))).map fun c => (free[i], q) :: c).foldl (fun s c => yS (nV l (jN w z c) pl w) s) s.2) ⟨by simp, by simp⟩
        refine Eq.trans this ?_
        rw [List.drop_eq_getElem_cons hi, List.foldl_cons]
      · intro k s hI
        have hlt : decide ((free.length : Int) < (free.length : Int)) = false := decide_eq_false (by omega)
        have hsub : sub (dF l s.1).Ledger.Reports 0 ((z.length : Nat) : Int) = some z := by
          show sub s.1 0 ((z.length : Nat) : Int) = some z
          rw [rI hI.2, hI.1]
        simp only [gO, hlt, cond_false, oF, hsub, Option.bind_some, List.drop_length, List.foldl_nil]; rfl
end Go.Am

end
section
namespace Go.Am
theorem wC : fI = some true := by kernel_rfl
end Go.Am

end
