/- Plain laws, one behind the other. -/
import Derived.Test.YtaocljlhapoieaaRkPlain13
import Derived.Test.YtaocljlhapoieaaRkSh
import Derived.KernelRfl
section
namespace Go.Am

/-- Sizes that any statement looks at. -/
def Bd (l : aH) : Prop := l.Reports.length ≤ 1000 ∧ l.Bans.length ≤ 1000 ∧ l.Frozen.length ≤ 1000
def tD (l : aH) (p w : Int) : Bool := inB p 0 (l.Players - 1) && inB w 0 400
/-- The error of a question. -/
def aHl (l : aH) (p w : Int) : Int := bif decide (fZ l = 0) then (bif tD l p w then 0 else 1) else fZ l
theorem GL.bd {l : aH} {z : List aB} (h : GL l z) : Bd l := by have := kP h.led; unfold Bd; omega
theorem GL.players {l : aH} {z : List aB} (h : GL l z) : 1 ≤ l.Players ∧ l.Players ≤ 16 := (kP h.led).1
theorem aHm {l : aH} {p w : Int} (h : aHl l p w = 0) : fZ l = 0 ∧ tD l p w = true := by
  unfold aHl at h
  by_cases hc : fZ l = 0
  · rw [decide_eq_true hc, cond_true] at h
    refine ⟨hc, ?_⟩
    cases hb : tD l p w with
    | true => rfl
    | false => rw [hb] at h; simp at h
  · rw [decide_eq_false hc, cond_false] at h
    exact absurd h hc
theorem aBw {l : aH} {p w : Int} (h : tD l p w = true) : (0 ≤ p ∧ p < l.Players) ∧ (0 ≤ w ∧ w ≤ 400) := by
  unfold tD inB at h
  simp only [Bool.and_eq_true, decide_eq_true_eq] at h
  omega
theorem aKg {l : aH} {z : List aB} (h : GL l z) : sV l = some (some (gP l z), 0) := by
  obtain ⟨h1, h2, h3⟩ := h.bd
  unfold sV
  rw [aDu l (by omega) (by omega) (by omega), Option.bind_some, aHn h, h.once]; rfl
theorem aIj {l : aH} {z : List aB} (h : GL l z) {p w : Int} (ha : tD l p w = true) : oX l p w = some (some (gP l z), 0) := by
  have hP := h.players
  unfold oX
  rw [aKg h, Option.bind_some]
  have e1 : w64 (l.Players - 1) = l.Players - 1 := bY (by omega) (by omega)
  have e2 : (!(decide (0 ≤ p) && decide (p ≤ l.Players - 1)) || !(decide (0 ≤ w) && decide (w ≤ 400))) = false := by
    have := aBw ha
    rw [Bool.or_eq_false_iff]
    simp; omega
  simp only [vW, e1, tZ, Option.bind_some, eL, e2, cond_false]
  rfl
/-- What the functions answer. -/
theorem aCk {l : aH} {z : List aB} (h : GL l z) (hP : l.Players ≤ 12) {w : Int} (hw : 0 ≤ w ∧ w ≤ 400) : kS l w = some (oQ l z w, 0) := by
  have hp := h.players
  unfold kS
  rw [aIj h (by unfold tD inB; simp; omega), Option.bind_some]
  simp only [vW, decide_true, Bool.not_true, cond_false, (h.list hw.1 (by omega) hP).1, Option.bind_some]
theorem zM {l : aH} {z : List aB} (h : GL l z) {p w : Int} (ha : tD l p w = true) : jE l p w = some (uO l z p w, 0) := by
  have hw := (aBw ha).2
  unfold jE
  rw [aIj h ha, Option.bind_some]
  simp only [vW, decide_true, Bool.not_true, cond_false, aJk h.rest h.reps h.st (Nat.le_trans h.len (by omega)) hw.1 (by omega), Option.bind_some]
theorem aFe {l : aH} (hb : Bd l) : iQ l = some l := by
  obtain ⟨h1, h2, h3⟩ := hb
  unfold iQ
  rw [fY (by simp; omega), Option.bind_some, fY (by simp; omega), Option.bind_some, fY (by simp; omega), Option.bind_some]
  simp
/-- What is too far for a statement. -/
theorem aGo {l : aH} (h : iD l = some false) : (l.Reports.length ≤ 60 ∧ l.Bans.length ≤ 20 ∧ l.Frozen.length ≤ 20) ∧ (fZ l = 0 → l.Players ≤ 5 ∧ l.Reports.length ≤ 10 ∧ ∀ r ∈ l.Reports, r.Week ≤ 150) := by
  unfold iD at h
  rw [eL, Option.bind_some, eL, Option.bind_some] at h
  cases hf : (decide (60 < (l.Reports.length : Int)) || decide (20 < (l.Bans.length : Int)) || decide (20 < (l.Frozen.length : Int))) with
  | true => rw [hf] at h; simp at h
  | false =>
    simp only [Bool.or_eq_false_iff, decide_eq_false_iff_not] at hf
    refine ⟨by omega, fun hc => ?_⟩
    have hf' : (decide (60 < (l.Reports.length : Int)) || decide (20 < (l.Bans.length : Int)) || decide (20 < (l.Frozen.length : Int))) = false := by simp only [Bool.or_eq_false_iff, decide_eq_false_iff_not]; omega
    rw [hf', cond_false, aDi l (by omega) (by omega) (by omega), Option.bind_some, hc] at h
    simp only [decide_true, Bool.not_true, cond_false] at h
    have main := kD (fun k i => eQ l k i) l.Reports.length (fun i => !(fun r : aB => decide (150 < r.Week)) (l.Reports.getD i default)) (some true) (jK l) (fun k i hi => by
      have hlt : decide ((i : Int) < (l.Reports.length : Int)) = true := decide_eq_true (by omega)
      have ei : l.Reports.getD i default = l.Reports[i] := by simp [List.getD, List.getElem?_eq_getElem hi]
      simp only [eQ, hlt, cond_true, cE hi, Option.bind_some, bI (show i < 9223372036854775807 by omega), ei]
      cases decide (150 < l.Reports[i].Week) <;> rfl) (fun k => by
      have hlt : decide ((l.Reports.length : Int) < (l.Reports.length : Int)) = false := decide_eq_false (by omega)
      simp only [eQ, hlt, cond_false]) BIG (cG (by omega))
    rw [main, aBu l.Reports (fun r : aB => decide (150 < r.Week))] at h
    cases hw : l.Reports.any fun r => decide (150 < r.Week) with
    | true => rw [hw] at h; simp at h
    | false =>
      rw [hw] at h
      unfold jK at h
      simp only [Bool.not_false, cond_true, eL, Option.bind_some, Option.some.injEq, Bool.or_eq_false_iff, decide_eq_false_iff_not] at h
      refine ⟨by omega, by omega, fun r hr => ?_⟩
      have := List.any_eq_false.1 hw r hr
      simp only [decide_eq_true_eq] at this
      omega
theorem aHp (l : aH) (hb : l.Reports.length ≤ 140737488355328 ∧ l.Bans.length ≤ 140737488355328 ∧ l.Frozen.length ≤ 140737488355328) : ∃ b, iD l = some b := by
  unfold iD
  rw [eL, Option.bind_some, eL, Option.bind_some]
  cases hf : (decide (60 < (l.Reports.length : Int)) || decide (20 < (l.Bans.length : Int)) || decide (20 < (l.Frozen.length : Int))) with
  | true => exact ⟨true, rfl⟩
  | false =>
    simp only [Bool.or_eq_false_iff, decide_eq_false_iff_not] at hf
    rw [cond_false, aDi l (by omega) (by omega) (by omega), Option.bind_some]
    cases (!decide (fZ l = 0)) with
    | true => exact ⟨false, rfl⟩
    | false =>
      rw [cond_false]
      have main := kD (fun k i => eQ l k i) l.Reports.length (fun i => !(fun r : aB => decide (150 < r.Week)) (l.Reports.getD i default)) (some true) (jK l) (fun k i hi => by
        have hlt : decide ((i : Int) < (l.Reports.length : Int)) = true := decide_eq_true (by omega)
        have ei : l.Reports.getD i default = l.Reports[i] := by simp [List.getD, List.getElem?_eq_getElem hi]
        simp only [eQ, hlt, cond_true, cE hi, Option.bind_some, bI (show i < 9223372036854775807 by omega), ei]
        cases decide (150 < l.Reports[i].Week) <;> rfl) (fun k => by
        have hlt : decide ((l.Reports.length : Int) < (l.Reports.length : Int)) = false := decide_eq_false (by omega)
        simp only [eQ, hlt, cond_false]) BIG (cG (by omega))
      rw [main]
      unfold jK
      rw [eL, Option.bind_some]
      cases (List.range l.Reports.length).all fun i => !(fun r : aB => decide (150 < r.Week)) (l.Reports.getD i default)
      · exact ⟨_, rfl⟩
      · exact ⟨_, rfl⟩
end Go.Am

end
section
namespace Go.Am

end Go.Am

end
section
namespace Go.Am

section del
end del

end Go.Am

end
section
namespace Go.Am

theorem aFb {α : Type} {R : α → α → Prop} [DecidableRel R] (hirr : ∀ x, ¬ R x x) (hasym : ∀ x y, R x y → ¬ R y x) {s : List α} (hs : s.Pairwise R) {i : Nat} (hi : i < s.length) : (s.filter fun q => decide (R q s[i])).length = i := by
  have es : s = s.take i ++ s[i] :: s.drop (i + 1) := by rw [← List.drop_eq_getElem_cons hi, List.take_append_drop]
  have h1 := List.pairwise_append.1 (es ▸ hs)
  have a1 : (s.take i).filter (fun q => decide (R q s[i])) = s.take i := List.filter_eq_self.2 fun q hq => decide_eq_true (h1.2.2 q hq _ List.mem_cons_self)
  have a2 : (s[i] :: s.drop (i + 1)).filter (fun q => decide (R q s[i])) = [] := List.filter_eq_nil_iff.2 fun q hq => by
    rw [decide_eq_true_eq]
    rcases List.mem_cons.1 hq with rfl | hq
    · exact hirr _
    · exact hasym _ _ ((List.pairwise_cons.1 h1.2.1).1 q hq)
  have a3 : s.filter (fun q => decide (R q s[i])) = s.take i := by
    conv => lhs; arg 2; rw [es]
    rw [List.filter_append, a1, a2, List.append_nil]
  rw [a3, List.length_take]; omega
theorem aHa {out : List Int} (hn : out.Nodup) {i : Nat} (hi : i < out.length) : wQ out out[i] = i + 1 := by
  have : out.findIdx (fun x => decide (out[i] = x)) = i := by
    rw [List.findIdx_eq hi]
    refine ⟨by simp, fun j hj => ?_⟩
    rw [decide_eq_false_iff_not]
    exact fun he => absurd he.symm (List.pairwise_iff_getElem.1 hn j i (by omega) hi hj)
  unfold wQ sM
  rw [this, if_pos hi]
theorem IsList.nodup {l : aH} {z : List aB} {w : Int} {out : List Int} (h : IsList l z w out) : out.Nodup := h.st.imp fun {a b} hb he => by subst he; exact yV _ _ _ _ hb
/-- A place is one more than the number of those before. -/
theorem IsList.place {l : aH} {z : List aB} {w : Int} {out : List Int} (h : IsList l z w out) {p : Int} (hp : p ∈ out) : wQ out p = (out.filter fun q => decide (bef l z w q p)).length + 1 := by
  obtain ⟨i, hi, rfl⟩ := List.getElem_of_mem hp
  rw [aHa h.nodup hi, aFb (yV l z w) (aDd l z w) h.st hi]
theorem aGq {l l' : aH} {z z' : List aB} (h : GL l z) (h' : GL l' z') (hm : ∀ x, x ∈ l.Reports ↔ x ∈ l'.Reports) : z = z' :=
  qN (key := fun x : aB => x.Id) h.st h'.st fun x => ((h.mem x).trans (hm x)).trans (h'.mem x).symm
end Go.Am

end
section
namespace Go.Am

section ban
variable {l : aH} {z : List aB} (ban : aJ) (w : Int)
end ban

section add
variable {l : aH} {z : List aB} {r : aB} (w : Int)
end add
end Go.Am

end
section
namespace Go.Am

theorem aAb {α β : Type} (f : α → β) : ∀ (t : List α) (s : List β), t.foldl (fun s r => s ++ [f r]) s = s ++ t.map f
  | [], s => by simp
  | x :: t, s => by rw [List.foldl_cons, aAb f t]; simp
theorem aEy (a b : List Int) (ha : a.length ≤ 1000000) : fL a b = some (decide (a = b)) := by
  unfold fL
  by_cases hl : a.length = b.length
  · rw [decide_eq_true (show (a.length : Int) = (b.length : Int) by omega), Bool.not_true, cond_false]
    have main := kD (fun k i => fD a b k i) a.length (fun i => decide (a.getD i 0 = b.getD i 0)) (some false) (some true) (fun k i hi => by
      have hlt : decide ((i : Int) < (a.length : Int)) = true := decide_eq_true (by omega)
      have e1 : a.getD i 0 = a[i] := by simp [List.getD, List.getElem?_eq_getElem hi]
      have e2 : b.getD i 0 = b[i] := by simp [List.getD, List.getElem?_eq_getElem (show i < b.length by omega)]
      simp only [fD, hlt, cond_true, cE hi, cE (show i < b.length by omega), Option.bind_some, e1, e2, bI (show i < 9223372036854775807 by omega)]
      cases decide (a[i] = b[i]) <;> rfl) (fun k => by
      have hlt : decide ((a.length : Int) < (a.length : Int)) = false := decide_eq_false (by omega)
      simp only [fD, hlt, cond_false, mU]) BIG (cG (by omega))
    refine Eq.trans main ?_
    have : (List.range a.length).all (fun i => decide (a.getD i 0 = b.getD i 0)) = decide (a = b) := by
      rw [Bool.eq_iff_iff, List.all_eq_true, decide_eq_true_eq]
      constructor
      · intro h
        refine List.ext_getElem hl fun i h1 h2 => ?_
        have := h i (List.mem_range.2 h1)
        simpa [List.getD, List.getElem?_eq_getElem h1, List.getElem?_eq_getElem h2] using this
      · rintro rfl i _; simp
    rw [this]
    cases decide (a = b) <;> rfl
  · rw [decide_eq_false (show ¬ (a.length : Int) = (b.length : Int) by omega), decide_eq_false (fun h => hl (by rw [h]))]; rfl
/-- A ledger that a statement looks at. -/
structure Near (l : aH) : Prop where
  bd : Bd l
  pl : fZ l = 0 → l.Players ≤ 5
theorem Near.gl {l : aH} (h : Near l) {p w : Int} (ha : aHl l p w = 0) : ∃ z, GL l z ∧ tD l p w = true ∧ l.Players ≤ 12 := by
  obtain ⟨h1, h2⟩ := aHm ha
  obtain ⟨z, hz⟩ := aAn h1
  exact ⟨z, hz, h2, by have := h.pl h1; omega⟩
end Go.Am

end
section
namespace Go.Am

theorem zF {rs z : List aB} (hb : rs.length ≤ 1000000) (hz : z.Pairwise fun x y => x.Id < y.Id) (hm : ∀ x, x ∈ z ↔ x ∈ rs) : dD rs = some z := by
  obtain ⟨z', d1, d2, d3, d4, _⟩ := tF rs hb
  have hz' : z'.Pairwise fun x y => x.Id < y.Id := by
    refine List.pairwise_iff_getElem.2 fun i j hi hj hij => ?_
    have a1 := List.pairwise_iff_getElem.1 d2 i j hi hj hij
    have a2 := List.pairwise_iff_getElem.1 d3 i j hi hj hij
    rcases Int.lt_or_eq_of_le a1 with h | h
    · exact h
    · exact absurd (aBg hz _ ((hm _).2 ((d4 _).1 (List.getElem_mem hi))) _ ((hm _).2 ((d4 _).1 (List.getElem_mem hj))) h) a2
  rw [d1, qN (key := fun x : aB => x.Id) hz' hz fun x => (d4 x).trans (hm x).symm]
section del
end del
end Go.Am

end
section
namespace Go.Am

theorem zR {T : Type} (F : Nat → Int → T) (n : Nat) (K : T) (h1 : ∀ k i, i < n → F (k + 1) (i : Int) = F k ((i + 1 : Nat) : Int)) (h2 : ∀ k, F (k + 1) (n : Int) = K) (hn : n ≤ 1000000) : F BIG 0 = K := by
  have := kD F n (fun _ => true) K K (fun k i hi => h1 k i hi) h2 BIG (cG (by omega))
  rw [this, show (List.range n).all (fun _ => true) = true from List.all_eq_true.2 fun _ _ => rfl]; rfl
theorem aHj {l : aH} (hb : Bd l) : jF l l = some true := by
  obtain ⟨h1, h2, h3⟩ := hb
  unfold jF
  have d0 : ∀ n : Int, decide (n = n) = true := fun n => decide_eq_true rfl
  rw [d0, d0, d0, d0, d0, Bool.not_true, cond_false, Option.bind_some, cond_false, Option.bind_some, cond_false, Option.bind_some, cond_false, Option.bind_some, cond_false]
  refine Eq.trans (zR (fun k i => gX l l k i) l.Reports.length (mL l l) (fun k i hi => ?_) (fun k => ?_) (by omega)) ?_
  · have hlt : decide ((i : Int) < (l.Reports.length : Int)) = true := decide_eq_true (by omega)
    simp only [gX, hlt, cond_true, cE hi, Option.bind_some, decide_true, Bool.not_true, cond_false, bI (show i < 9223372036854775807 by omega)]
  · have hlt : decide ((l.Reports.length : Int) < (l.Reports.length : Int)) = false := decide_eq_false (by omega)
    simp only [gX, hlt, cond_false]
  unfold mL
  refine Eq.trans (zR (fun k i => gY l l k i) l.Bans.length (mM l l) (fun k i hi => ?_) (fun k => ?_) (by omega)) ?_
  · have hlt : decide ((i : Int) < (l.Bans.length : Int)) = true := decide_eq_true (by omega)
    simp only [gY, hlt, cond_true, cE hi, Option.bind_some, decide_true, Bool.not_true, cond_false, bI (show i < 9223372036854775807 by omega)]
  · have hlt : decide ((l.Bans.length : Int) < (l.Bans.length : Int)) = false := decide_eq_false (by omega)
    simp only [gY, hlt, cond_false]
  unfold mM
  refine Eq.trans (zR (fun k i => gZ l l k i) l.Frozen.length oT (fun k i hi => ?_) (fun k => ?_) (by omega)) rfl
  · have hlt : decide ((i : Int) < (l.Frozen.length : Int)) = true := decide_eq_true (by omega)
    simp only [gZ, hlt, cond_true, cE hi, Option.bind_some, decide_true, Bool.not_true, cond_false, bI (show i < 9223372036854775807 by omega)]
  · have hlt : decide ((l.Frozen.length : Int) < (l.Frozen.length : Int)) = false := decide_eq_false (by omega)
    simp only [gZ, hlt, cond_false]

/-- Two rows, one behind the other. -/
theorem aBy (a b : List aB) (ha : a.length ≤ 100000) (hb : b.length ≤ 100000) : fQ [a, b] = some (a ++ b) := by
  have e1 : ∀ k s, dF [a, b] 2 (k + 3) 0 s = (app 40 s a).bind fun x => (app 40 x b).bind fun y => some y := by
    intro k s
    have w1 : w64 (0 + 1) = 1 := rfl
    have w2 : w64 (1 + 1) = 2 := rfl
    have i0 : idx [a, b] 0 = some a := rfl
    have i1 : idx [a, b] 1 = some b := rfl
    have c0 : decide ((0 : Int) < 2) = true := rfl
    have c1 : decide ((1 : Int) < 2) = true := rfl
    have c2 : decide ((2 : Int) < 2) = false := rfl
    rw [dF, c0, cond_true, i0, Option.bind_some, w1]
    refine congrArg _ (funext fun x => ?_)
    rw [dF, c1, cond_true, i1, Option.bind_some, w2]
    refine congrArg _ (funext fun y => ?_)
    rw [dF, c2, cond_false]; rfl
  have hB : BIG = (18446744073709551616 - 3) + 3 := rfl
  have hL : (([a, b] : List (List aB)).length : Int) = 2 := rfl
  have g1 : w64 (0 + (a.length : Int)) = a.length := by rw [bY (by omega) (by omega)]; omega
  have g2 : w64 ((a.length : Int) + (b.length : Int)) = ((a.length + b.length : Nat) : Int) := by rw [bY (by omega) (by omega)]; omega
  have hgrow : iW ((a.length + b.length : Nat) : Int) = some [] := by
    unfold iW
    have w0 : w64 (0 - 0) = 0 := rfl
    rw [decide_eq_false (by omega), cond_false, w0, Int.sub_zero, bY (by omega) (by omega)]
    by_cases h0 : (0 : Int) < ((a.length + b.length : Nat) : Int)
    · have c1 : decide (((a.length + b.length : Nat) : Int) * ((40 : Nat) : Int) ≤ 140737488355328) = true := decide_eq_true (by omega)
      rw [decide_eq_true h0, cond_true, c1]; rfl
    · rw [decide_eq_false h0, cond_false]
  unfold fQ
  rw [hB, hL]
  have w1 : w64 (0 + 1) = 1 := rfl
  have w2 : w64 (1 + 1) = 2 := rfl
  have i0 : idx [a, b] 0 = some a := rfl
  have i1 : idx [a, b] 1 = some b := rfl
  have c0 : decide ((0 : Int) < 2) = true := rfl
  have c1 : decide ((1 : Int) < 2) = true := rfl
  have c2 : decide ((2 : Int) < 2) = false := rfl
  rw [dS, c0, cond_true, i0, Option.bind_some, g1, decide_eq_false (by omega), cond_false, w1, dS, c1, cond_true, i1, Option.bind_some, g2, decide_eq_false (by omega), cond_false, w2, dS, c2, cond_false]
  unfold kU
  rw [hgrow, Option.bind_some, hB, hL, e1, fY (by simp; omega), Option.bind_some, List.nil_append, fY (by omega), Option.bind_some]

/-- The keys of a map. -/
theorem aCh {α β : Type} [DecidableEq α] (a : α) (v : β) : ∀ m : List (α × β), (m.map (·.1)).Nodup → ((lX a v m).map (·.1)).Nodup ∧ ∀ x, x ∈ (lX a v m).map (·.1) ↔ x = a ∨ x ∈ m.map (·.1)
  | [], _ => by simp [lX]
  | (b, u) :: m, h => by
    rw [List.map_cons, List.nodup_cons] at h
    obtain ⟨h1, h2⟩ := aCh a v m h.2
    rw [lX]
    by_cases hab : a = b
    · subst hab
      rw [decide_eq_true rfl, cond_true, List.map_cons, List.map_cons]
      exact ⟨List.nodup_cons.2 h, fun x => by rw [List.mem_cons]; simp⟩
    · rw [decide_eq_false hab, cond_false, List.map_cons, List.map_cons, List.nodup_cons]
      refine ⟨⟨fun hm => ?_, h1⟩, fun x => ?_⟩
      · rcases (h2 b).1 hm with e | e
        · exact hab e.symm
        · exact h.1 e
      · rw [List.mem_cons, List.mem_cons, h2]
        constructor
        · rintro (e | e | e)
          · exact .inr (.inl e)
          · exact .inl e
          · exact .inr (.inr e)
        · rintro (e | e | e)
          · exact .inr (.inl e)
          · exact .inl e
          · exact .inr (.inr e)
theorem aBh : ∀ (xs : List aB) (m : List (aB × Int)), (m.map (·.1)).Nodup → ((xs.foldl (fun m r => lX r (w64 (lJ r 0 m + 1)) m) m).map (·.1)).Nodup ∧ ∀ x, x ∈ (xs.foldl (fun m r => lX r (w64 (lJ r 0 m + 1)) m) m).map (·.1) ↔ x ∈ xs ∨ x ∈ m.map (·.1)
  | [], m, h => ⟨h, by simp⟩
  | r :: xs, m, h => by
    rw [List.foldl_cons]
    obtain ⟨h1, h2⟩ := aCh r (w64 (lJ r 0 m + 1)) m h
    obtain ⟨h3, h4⟩ := aBh xs _ h1
    refine ⟨h3, fun x => ?_⟩
    rw [h4, h2, List.mem_cons]
    constructor
    · rintro (e | e | e)
      · exact .inl (.inr e)
      · exact .inl (.inl e)
      · exact .inr e
    · rintro ((e | e) | e)
      · exact .inr (.inl e)
      · exact .inl e
      · exact .inr (.inr e)
/-- The same ledger with other reports. -/
def gU (l : aH) (rs : List aB) : aH := ⟨l.Players, l.Counts, rs, l.Bans, l.Frozen⟩
def noL : aH := ⟨0, 0, [], [], []⟩
/-- What Merge answers. -/
def aAs (l : aH) (more : List aB) : aH × Int :=
  bif !decide (fZ l = 0) then (noL, fZ l) else bif !decide (fZ (gU l more) = 0) then (noL, fZ (gU l more)) else
    bif decide (40 < (((dD (l.Reports ++ more)).getD []).length : Int)) then (noL, 40) else bif lF ((dD (l.Reports ++ more)).getD []) then (noL, 41) else (gU l ((dD (l.Reports ++ more)).getD []), 0)
theorem zE {xs ys : List aB} (h : ∀ x, x ∈ xs ↔ x ∈ ys) : oC xs ↔ oC ys := by
  unfold oC
  constructor
  · rintro ⟨x, hx, y, hy, h1⟩; exact ⟨x, (h x).1 hx, y, (h y).1 hy, h1⟩
  · rintro ⟨x, hx, y, hy, h1⟩; exact ⟨x, (h x).2 hx, y, (h y).2 hy, h1⟩
theorem aHc {l : aH} (hb : Bd l) (more : List aB) (hm : more.length ≤ 1000) : iG l more = some (aAs l more) := by
  have hb' := hb
  obtain ⟨h1, h2, h3⟩ := hb
  unfold iG aAs
  rw [aDu l (by omega) (by omega) (by omega), Option.bind_some]
  by_cases hc : fZ l = 0
  · rw [decide_eq_true hc, Bool.not_true, cond_false, cond_false]
    show (mO (gU l more)).bind _ = _
    rw [aDu (gU l more) (by show more.length ≤ _; omega) (by show l.Bans.length ≤ _; omega) (by show l.Frozen.length ≤ _; omega), Option.bind_some]
    by_cases hc2 : fZ (gU l more) = 0
    · rw [decide_eq_true hc2, Bool.not_true, cond_false, cond_false, aBy _ _ (by omega) (by omega), Option.bind_some]
      obtain ⟨z1, g1⟩ := aAn hc
      obtain ⟨z2, g2⟩ := aAn hc2
      have i1 := (kP g1.led).2.2.2.2.2.1
      have i2 : ∀ r ∈ more, nS l.Players r = true := (kP g2.led).2.2.2.2.2.1
      obtain ⟨xs, hxs⟩ : ∃ xs, xs = l.Reports ++ more := ⟨_, rfl⟩
      have hxl : xs.length ≤ 2000 := by rw [hxs]; simp; omega
      have hid : ∀ x ∈ xs, 0 ≤ x.Id ∧ x.Id ≤ 99 := fun x hx => by
        rw [hxs] at hx
        rcases List.mem_append.1 hx with hx | hx
        · exact (vK (i1 x hx)).1
        · exact (vK (i2 x hx)).1
      rw [← hxs]
      obtain ⟨z, d1, d2, d3, d4, d5⟩ := tF xs (by omega)
      rw [d1, Option.getD_some]
      have main := jR (fun k i s => lD more xs (xs.length : Int) l (aH.mk 0 0 [] [] []) k i s) xs (fun m r => lX r (w64 (lJ r 0 m + 1)) m) (fun s => qL more l (aH.mk 0 0 [] [] []) s) [] ?_ ?_ BIG (cG (by omega))
      · refine Eq.trans main ?_
        obtain ⟨t1, t2⟩ := aBh xs [] List.nodup_nil
        have hlen : (xs.foldl (fun m r => lX r (w64 (lJ r 0 m + 1)) m) []).length = z.length := by
          have hp : ((xs.foldl (fun m r => lX r (w64 (lJ r 0 m + 1)) m) []).map (·.1)).Perm z := (List.perm_ext_iff_of_nodup t1 d3).2 fun x => by rw [t2, d4]; simp
          have := hp.length_eq
          rwa [List.length_map] at this
        unfold qL
        rw [hlen]
        cases h40 : decide (40 < (z.length : Int)) with
        | true => rw [cond_true, cond_true]; rfl
        | false =>
          have hzl := of_decide_eq_false h40
          rw [cond_false, cond_false, aBy _ _ (by omega) (by omega), Option.bind_some, ← hxs]
          rcases yF xs hid (by omega) with ⟨hcl, ho⟩ | ⟨hcl, zs, ho, hst, hmem, _⟩
          · rw [ho, Option.bind_some, (mK z).2 ((zE d4).2 hcl)]; rfl
          · have hcf : lF z = false := by
              rw [Bool.eq_false_iff]; intro hn
              exact hcl ((zE d4).1 ((mK z).1 hn))
            have hzz : z = zs := by
              have := zF (rs := xs) (by omega) hst hmem
              rw [d1] at this
              exact Option.some.inj this
            have hcb : dR l.Bans = some l.Bans := by
              unfold dR; rw [fY (by simp; omega)]; rfl
            have hcf' : dR l.Frozen = some l.Frozen := by
              unfold dR; rw [fY (by simp; omega)]; rfl
            rw [ho, Option.bind_some, hcf, Bool.not_true, cond_false, cond_false, hcb, Option.bind_some, hcf', Option.bind_some, hzz]; rfl
      · intro k i hi s hs
        have hlt : decide ((i : Int) < (xs.length : Int)) = true := decide_eq_true (by omega)
        simp only [lD, hlt, cond_true, cE hi, Option.bind_some, bI (show i < 9223372036854775807 by omega)]
      · intro k s
        have hlt : decide ((xs.length : Int) < (xs.length : Int)) = false := decide_eq_false (by omega)
        simp only [lD, hlt, cond_false]
    · rw [decide_eq_false hc2, Bool.not_false, cond_true, cond_true]; rfl
  · rw [decide_eq_false hc, Bool.not_false, cond_true, cond_true]; rfl
/-- Some of the reports, in any order and number, are valid too. -/
theorem xU {l : aH} {z : List aB} (h : GL l z) {rs : List aB} (hs : ∀ x ∈ rs, x ∈ l.Reports) (hl : rs.length ≤ 40) : fZ (gU l rs) = 0 := by
  have hr := h.rest
  have hf := kP h.led
  have hled : gF (gU l rs) = true := by
    unfold sN gF at hr
    unfold gF gU
    simp only [Bool.and_eq_true, decide_eq_true_eq] at hr ⊢
    obtain ⟨⟨⟨⟨⟨⟨g1, g2⟩, _⟩, g4⟩, g5⟩, _⟩, g7⟩ := hr
    exact ⟨⟨⟨⟨⟨⟨g1, g2⟩, hl⟩, g4⟩, g5⟩, List.all_eq_true.2 fun x hx => hf.2.2.2.2.2.1 x (hs x hx)⟩, g7⟩
  have hcl : lF rs = false := by
    rw [Bool.eq_false_iff]; intro hn
    obtain ⟨x, hx, y, hy, h1⟩ := (mK _).1 hn
    exact h.ncl ⟨x, hs x hx, y, hs y hy, h1⟩
  unfold fZ
  rw [hled]
  show (bif !true then 40 else bif lF rs then 41 else 0) = 0
  rw [hcl]; rfl
theorem aJe {l : aH} {z : List aB} (h : GL l z) {rs : List aB} (hs : ∀ x, x ∈ rs ↔ x ∈ l.Reports) (hl : rs.length ≤ 40) : GL (gU l rs) z := by
  obtain ⟨z', hz'⟩ := aAn (xU h (fun x hx => (hs x).1 hx) hl)
  rw [aGq h hz' fun x => (hs x).symm]
  exact hz'
theorem aDq {l : aH} {z : List aB} (h : GL l z) {a b : List aB} (ha : ∀ x ∈ a, x ∈ l.Reports) (hb : ∀ x ∈ b, x ∈ l.Reports) (hab : ∀ x ∈ l.Reports, x ∈ a ∨ x ∈ b) (hla : a.length ≤ 40) (hlb : b.length ≤ 40) : aAs (gU l a) b = (gU l z, 0) := by
  have hd : dD (a ++ b) = some z := zF (by simp; omega) h.st fun x => by
    rw [h.mem, List.mem_append]
    exact ⟨hab x, fun hx => hx.elim (ha x) (hb x)⟩
  have hcl : lF z = false := by
    rw [Bool.eq_false_iff]; intro hn
    obtain ⟨x, hx, y, hy, h1⟩ := (mK _).1 hn
    exact h.ncl ⟨x, (h.mem x).1 hx, y, (h.mem y).1 hy, h1⟩
  have hzl := h.len
  unfold aAs
  rw [decide_eq_true (xU h ha hla)]
  show (bif !true then _ else bif !decide (fZ (gU l b) = 0) then _ else bif decide (40 < (((dD (a ++ b)).getD []).length : Int)) then _ else bif lF ((dD (a ++ b)).getD []) then _ else (gU l ((dD (a ++ b)).getD []), 0)) = _
  rw [decide_eq_true (xU h hb hlb), hd, Option.getD_some, hcl, decide_eq_false (by omega)]; rfl
end Go.Am

end
section
namespace Go.Am
theorem zP : fX = some true := by kernel_rfl
end Go.Am

end
