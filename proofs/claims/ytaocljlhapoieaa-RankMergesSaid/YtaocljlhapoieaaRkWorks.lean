/- Plain laws, one behind the other. -/
import Derived.Test.YtaocljlhapoieaaRkPlain13
import Derived.Test.YtaocljlhapoieaaRkSh
import Derived.KernelRfl
section
namespace Go.Am

/-- Sizes that any statement looks at. -/
def Bd (l : aM) : Prop := l.Reports.length ≤ 1000 ∧ l.Bans.length ≤ 1000 ∧ l.Frozen.length ≤ 1000
theorem GL.bd {l : aM} {z : List aC} (h : GL l z) : Bd l := by have := nO h.led; unfold Bd; omega
theorem aEf {l : aM} (hb : Bd l) : lF l = some l := by
  obtain ⟨h1, h2, h3⟩ := hb
  unfold lF
  rw [gN (by simp; omega), Option.bind_some, gN (by simp; omega), Option.bind_some, gN (by simp; omega), Option.bind_some]
  simp
/-- What is too far for a statement. -/
theorem aFq {l : aM} (h : gE l = some false) : (l.Reports.length ≤ 60 ∧ l.Bans.length ≤ 20 ∧ l.Frozen.length ≤ 20) ∧ (jM l = 0 → l.Players ≤ 5 ∧ l.Reports.length ≤ 10 ∧ ∀ r ∈ l.Reports, r.Week ≤ 150) := by
  unfold gE at h
  rw [gQ, Option.bind_some, gQ, Option.bind_some] at h
  cases hf : (decide (60 < (l.Reports.length : Int)) || decide (20 < (l.Bans.length : Int)) || decide (20 < (l.Frozen.length : Int))) with
  | true => rw [hf] at h; simp at h
  | false =>
    simp only [Bool.or_eq_false_iff, decide_eq_false_iff_not] at hf
    refine ⟨by omega, fun hc => ?_⟩
    have hf' : (decide (60 < (l.Reports.length : Int)) || decide (20 < (l.Bans.length : Int)) || decide (20 < (l.Frozen.length : Int))) = false := by simp only [Bool.or_eq_false_iff, decide_eq_false_iff_not]; omega
    rw [hf', cond_false, zV l (by omega) (by omega) (by omega), Option.bind_some, hc] at h
    simp only [decide_true, Bool.not_true, cond_false] at h
    have main := lK (fun k i => fP l k i) l.Reports.length (fun i => !(fun r : aC => decide (150 < r.Week)) (l.Reports.getD i default)) (some true) (jU l) (fun k i hi => by
      have hlt : decide ((i : Int) < (l.Reports.length : Int)) = true := decide_eq_true (by omega)
      have ei : l.Reports.getD i default = l.Reports[i] := by simp [List.getD, List.getElem?_eq_getElem hi]
      simp only [fP, hlt, cond_true, dK hi, Option.bind_some, cI (show i < 9223372036854775807 by omega), ei]
      cases decide (150 < l.Reports[i].Week) <;> rfl) (fun k => by
      have hlt : decide ((l.Reports.length : Int) < (l.Reports.length : Int)) = false := decide_eq_false (by omega)
      simp only [fP, hlt, cond_false]) BIG (dF (by omega))
    rw [main, aBg l.Reports (fun r : aC => decide (150 < r.Week))] at h
    cases hw : l.Reports.any fun r => decide (150 < r.Week) with
    | true => rw [hw] at h; simp at h
    | false =>
      rw [hw] at h
      unfold jU at h
      simp only [Bool.not_false, cond_true, gQ, Option.bind_some, Option.some.injEq, Bool.or_eq_false_iff, decide_eq_false_iff_not] at h
      refine ⟨by omega, by omega, fun r hr => ?_⟩
      have := List.any_eq_false.1 hw r hr
      simp only [decide_eq_true_eq] at this
      omega
theorem aGl (l : aM) (hb : l.Reports.length ≤ 140737488355328 ∧ l.Bans.length ≤ 140737488355328 ∧ l.Frozen.length ≤ 140737488355328) : ∃ b, gE l = some b := by
  unfold gE
  rw [gQ, Option.bind_some, gQ, Option.bind_some]
  cases hf : (decide (60 < (l.Reports.length : Int)) || decide (20 < (l.Bans.length : Int)) || decide (20 < (l.Frozen.length : Int))) with
  | true => exact ⟨true, rfl⟩
  | false =>
    simp only [Bool.or_eq_false_iff, decide_eq_false_iff_not] at hf
    rw [cond_false, zV l (by omega) (by omega) (by omega), Option.bind_some]
    cases (!decide (jM l = 0)) with
    | true => exact ⟨false, rfl⟩
    | false =>
      rw [cond_false]
      have main := lK (fun k i => fP l k i) l.Reports.length (fun i => !(fun r : aC => decide (150 < r.Week)) (l.Reports.getD i default)) (some true) (jU l) (fun k i hi => by
        have hlt : decide ((i : Int) < (l.Reports.length : Int)) = true := decide_eq_true (by omega)
        have ei : l.Reports.getD i default = l.Reports[i] := by simp [List.getD, List.getElem?_eq_getElem hi]
        simp only [fP, hlt, cond_true, dK hi, Option.bind_some, cI (show i < 9223372036854775807 by omega), ei]
        cases decide (150 < l.Reports[i].Week) <;> rfl) (fun k => by
        have hlt : decide ((l.Reports.length : Int) < (l.Reports.length : Int)) = false := decide_eq_false (by omega)
        simp only [fP, hlt, cond_false]) BIG (dF (by omega))
      rw [main]
      unfold jU
      rw [gQ, Option.bind_some]
      cases (List.range l.Reports.length).all fun i => !(fun r : aC => decide (150 < r.Week)) (l.Reports.getD i default)
      · exact ⟨_, rfl⟩
      · exact ⟨_, rfl⟩
end Go.Am

end
section
namespace Go.Am

end Go.Am

end
section
namespace Go.Am

section del
end del

end Go.Am

end
section
namespace Go.Am

theorem aEb {α : Type} {R : α → α → Prop} [DecidableRel R] (hirr : ∀ x, ¬ R x x) (hasym : ∀ x y, R x y → ¬ R y x) {s : List α} (hs : s.Pairwise R) {i : Nat} (hi : i < s.length) : (s.filter fun q => decide (R q s[i])).length = i := by
  have es : s = s.take i ++ s[i] :: s.drop (i + 1) := by rw [← List.drop_eq_getElem_cons hi, List.take_append_drop]
  have h1 := List.pairwise_append.1 (es ▸ hs)
  have a1 : (s.take i).filter (fun q => decide (R q s[i])) = s.take i := List.filter_eq_self.2 fun q hq => decide_eq_true (h1.2.2 q hq _ List.mem_cons_self)
  have a2 : (s[i] :: s.drop (i + 1)).filter (fun q => decide (R q s[i])) = [] := List.filter_eq_nil_iff.2 fun q hq => by
    rw [decide_eq_true_eq]
    rcases List.mem_cons.1 hq with rfl | hq
    · exact hirr _
    · exact hasym _ _ ((List.pairwise_cons.1 h1.2.1).1 q hq)
  have a3 : s.filter (fun q => decide (R q s[i])) = s.take i := by
    conv => lhs; arg 2; rw [es]
    rw [List.filter_append, a1, a2, List.append_nil]
  rw [a3, List.length_take]; omega
theorem aGa {out : List Int} (hn : out.Nodup) {i : Nat} (hi : i < out.length) : wG out out[i] = i + 1 := by
  have : out.findIdx (fun x => decide (out[i] = x)) = i := by
    rw [List.findIdx_eq hi]
    refine ⟨by simp, fun j hj => ?_⟩
    rw [decide_eq_false_iff_not]
    exact fun he => absurd he.symm (List.pairwise_iff_getElem.1 hn j i (by omega) hi hj)
  unfold wG sJ
  rw [this, if_pos hi]
theorem IsList.nodup {l : aM} {z : List aC} {w : Int} {out : List Int} (h : IsList l z w out) : out.Nodup := h.st.imp fun {a b} hb he => by subst he; exact yM _ _ _ _ hb
/-- A place is one more than the number of those before. -/
theorem IsList.place {l : aM} {z : List aC} {w : Int} {out : List Int} (h : IsList l z w out) {p : Int} (hp : p ∈ out) : wG out p = (out.filter fun q => decide (bef l z w q p)).length + 1 := by
  obtain ⟨i, hi, rfl⟩ := List.getElem_of_mem hp
  rw [aGa h.nodup hi, aEb (yM l z w) (aCj l z w) h.st hi]
end Go.Am

end
section
namespace Go.Am

section ban
variable {l : aM} {z : List aC} (ban : aL) (w : Int)
end ban

section add
variable {l : aM} {z : List aC} {r : aC} (w : Int)
end add
end Go.Am

end
section
namespace Go.Am

/-- A ledger that a statement looks at. -/
structure Near (l : aM) : Prop where
  bd : Bd l
  pl : jM l = 0 → l.Players ≤ 5
theorem aIa {l : aM} (hb : l.Reports.length ≤ maxLen ∧ l.Bans.length ≤ maxLen ∧ l.Frozen.length ≤ maxLen) : gE l = some true ∨ gE l = some false ∧ Near l ∧ (jM l = 0 → l.Reports.length ≤ 10 ∧ ∀ r ∈ l.Reports, r.Week ≤ 150) := by
  unfold maxLen at hb
  have hff : (∃ b, gE l = some b) := by
    by_cases h : l.Reports.length ≤ 140737488355328 ∧ l.Bans.length ≤ 140737488355328 ∧ l.Frozen.length ≤ 140737488355328
    · exact aGl l h
    · unfold gE
      rw [gQ, Option.bind_some, gQ, Option.bind_some]
      have : (decide (60 < (l.Reports.length : Int)) || decide (20 < (l.Bans.length : Int)) || decide (20 < (l.Frozen.length : Int))) = true := by simp only [Bool.or_eq_true, decide_eq_true_eq]; omega
      rw [this]; exact ⟨true, rfl⟩
  obtain ⟨b, hf⟩ := hff
  cases b with
  | true => exact .inl hf
  | false =>
    obtain ⟨h1, h2⟩ := aFq hf
    exact .inr ⟨hf, ⟨by unfold Bd; omega, fun hc => (h2 hc).1⟩, fun hc => (h2 hc).2⟩
end Go.Am

end
section
namespace Go.Am

theorem aDm {rs z : List aC} (hb : rs.length ≤ 1000000) (hz : z.Pairwise fun x y => x.Id < y.Id) (hm : ∀ x, x ∈ z ↔ x ∈ rs) : dP rs = some z := by
  obtain ⟨z', d1, d2, d3, d4, _⟩ := qE rs hb
  have hz' : z'.Pairwise fun x y => x.Id < y.Id := by
    refine List.pairwise_iff_getElem.2 fun i j hi hj hij => ?_
    have a1 := List.pairwise_iff_getElem.1 d2 i j hi hj hij
    have a2 := List.pairwise_iff_getElem.1 d3 i j hi hj hij
    rcases Int.lt_or_eq_of_le a1 with h | h
    · exact h
    · exact absurd (aAs hz _ ((hm _).2 ((d4 _).1 (List.getElem_mem hi))) _ ((hm _).2 ((d4 _).1 (List.getElem_mem hj))) h) a2
  rw [d1, tI (key := fun x : aC => x.Id) hz' hz fun x => (d4 x).trans (hm x).symm]
section del
end del
end Go.Am

end
section
namespace Go.Am

theorem zF {T : Type} (F : Nat → Int → T) (n : Nat) (K : T) (h1 : ∀ k i, i < n → F (k + 1) (i : Int) = F k ((i + 1 : Nat) : Int)) (h2 : ∀ k, F (k + 1) (n : Int) = K) (hn : n ≤ 1000000) : F BIG 0 = K := by
  have := lK F n (fun _ => true) K K (fun k i hi => h1 k i hi) h2 BIG (dF (by omega))
  rw [this, show (List.range n).all (fun _ => true) = true from List.all_eq_true.2 fun _ _ => rfl]; rfl
theorem aGg {l : aM} (hb : Bd l) : mM l l = some true := by
  obtain ⟨h1, h2, h3⟩ := hb
  unfold mM
  have d0 : ∀ n : Int, decide (n = n) = true := fun n => decide_eq_true rfl
  rw [d0, d0, d0, d0, d0, Bool.not_true, cond_false, Option.bind_some, cond_false, Option.bind_some, cond_false, Option.bind_some, cond_false, Option.bind_some, cond_false]
  refine Eq.trans (zF (fun k i => iD l l k i) l.Reports.length (mN l l) (fun k i hi => ?_) (fun k => ?_) (by omega)) ?_
  · have hlt : decide ((i : Int) < (l.Reports.length : Int)) = true := decide_eq_true (by omega)
    simp only [iD, hlt, cond_true, dK hi, Option.bind_some, decide_true, Bool.not_true, cond_false, cI (show i < 9223372036854775807 by omega)]
  · have hlt : decide ((l.Reports.length : Int) < (l.Reports.length : Int)) = false := decide_eq_false (by omega)
    simp only [iD, hlt, cond_false]
  unfold mN
  refine Eq.trans (zF (fun k i => iE l l k i) l.Bans.length (mO l l) (fun k i hi => ?_) (fun k => ?_) (by omega)) ?_
  · have hlt : decide ((i : Int) < (l.Bans.length : Int)) = true := decide_eq_true (by omega)
    simp only [iE, hlt, cond_true, dK hi, Option.bind_some, decide_true, Bool.not_true, cond_false, cI (show i < 9223372036854775807 by omega)]
  · have hlt : decide ((l.Bans.length : Int) < (l.Bans.length : Int)) = false := decide_eq_false (by omega)
    simp only [iE, hlt, cond_false]
  unfold mO
  refine Eq.trans (zF (fun k i => iF l l k i) l.Frozen.length oU (fun k i hi => ?_) (fun k => ?_) (by omega)) rfl
  · have hlt : decide ((i : Int) < (l.Frozen.length : Int)) = true := decide_eq_true (by omega)
    simp only [iF, hlt, cond_true, dK hi, Option.bind_some, decide_true, Bool.not_true, cond_false, cI (show i < 9223372036854775807 by omega)]
  · have hlt : decide ((l.Frozen.length : Int) < (l.Frozen.length : Int)) = false := decide_eq_false (by omega)
    simp only [iF, hlt, cond_false]

/-- Two rows, one behind the other. -/
theorem aBj (a b : List aC) (ha : a.length ≤ 100000) (hb : b.length ≤ 100000) : gH [a, b] = some (a ++ b) := by
  have e1 : ∀ k s, eG [a, b] 2 (k + 3) 0 s = (app 40 s a).bind fun x => (app 40 x b).bind fun y => some y := by
    intro k s
    have w1 : w64 (0 + 1) = 1 := rfl
    have w2 : w64 (1 + 1) = 2 := rfl
    have i0 : idx [a, b] 0 = some a := rfl
    have i1 : idx [a, b] 1 = some b := rfl
    have c0 : decide ((0 : Int) < 2) = true := rfl
    have c1 : decide ((1 : Int) < 2) = true := rfl
    have c2 : decide ((2 : Int) < 2) = false := rfl
    rw [eG, c0, cond_true, i0, Option.bind_some, w1]
    refine congrArg _ (funext fun x => ?_)
    rw [eG, c1, cond_true, i1, Option.bind_some, w2]
    refine congrArg _ (funext fun y => ?_)
    rw [eG, c2, cond_false]; rfl
  have hB : BIG = (18446744073709551616 - 3) + 3 := rfl
  have hL : (([a, b] : List (List aC)).length : Int) = 2 := rfl
  have g1 : w64 (0 + (a.length : Int)) = a.length := by rw [cX (by omega) (by omega)]; omega
  have g2 : w64 ((a.length : Int) + (b.length : Int)) = ((a.length + b.length : Nat) : Int) := by rw [cX (by omega) (by omega)]; omega
  have hgrow : jF ((a.length + b.length : Nat) : Int) = some [] := by
    unfold jF
    have w0 : w64 (0 - 0) = 0 := rfl
    rw [decide_eq_false (by omega), cond_false, w0, Int.sub_zero, cX (by omega) (by omega)]
    by_cases h0 : (0 : Int) < ((a.length + b.length : Nat) : Int)
    · have c1 : decide (((a.length + b.length : Nat) : Int) * ((40 : Nat) : Int) ≤ 140737488355328) = true := decide_eq_true (by omega)
      rw [decide_eq_true h0, cond_true, c1]; rfl
    · rw [decide_eq_false h0, cond_false]
  unfold gH
  rw [hB, hL]
  have w1 : w64 (0 + 1) = 1 := rfl
  have w2 : w64 (1 + 1) = 2 := rfl
  have i0 : idx [a, b] 0 = some a := rfl
  have i1 : idx [a, b] 1 = some b := rfl
  have c0 : decide ((0 : Int) < 2) = true := rfl
  have c1 : decide ((1 : Int) < 2) = true := rfl
  have c2 : decide ((2 : Int) < 2) = false := rfl
  rw [eS, c0, cond_true, i0, Option.bind_some, g1, decide_eq_false (by omega), cond_false, w1, eS, c1, cond_true, i1, Option.bind_some, g2, decide_eq_false (by omega), cond_false, w2, eS, c2, cond_false]
  unfold kZ
  rw [hgrow, Option.bind_some, hB, hL, e1, gN (by simp; omega), Option.bind_some, List.nil_append, gN (by omega), Option.bind_some]

/-- The keys of a map. -/
theorem aBs {α β : Type} [DecidableEq α] (a : α) (v : β) : ∀ m : List (α × β), (m.map (·.1)).Nodup → ((mC a v m).map (·.1)).Nodup ∧ ∀ x, x ∈ (mC a v m).map (·.1) ↔ x = a ∨ x ∈ m.map (·.1)
  | [], _ => by simp [mC]
  | (b, u) :: m, h => by
    rw [List.map_cons, List.nodup_cons] at h
    obtain ⟨h1, h2⟩ := aBs a v m h.2
    rw [mC]
    by_cases hab : a = b
    · subst hab
      rw [decide_eq_true rfl, cond_true, List.map_cons, List.map_cons]
      exact ⟨List.nodup_cons.2 h, fun x => by rw [List.mem_cons]; simp⟩
    · rw [decide_eq_false hab, cond_false, List.map_cons, List.map_cons, List.nodup_cons]
      refine ⟨⟨fun hm => ?_, h1⟩, fun x => ?_⟩
      · rcases (h2 b).1 hm with e | e
        · exact hab e.symm
        · exact h.1 e
      · rw [List.mem_cons, List.mem_cons, h2]
        constructor
        · rintro (e | e | e)
          · exact .inr (.inl e)
          · exact .inl e
          · exact .inr (.inr e)
        · rintro (e | e | e)
          · exact .inr (.inl e)
          · exact .inl e
          · exact .inr (.inr e)
theorem aAt : ∀ (xs : List aC) (m : List (aC × Int)), (m.map (·.1)).Nodup → ((xs.foldl (fun m r => mC r (w64 (lP r 0 m + 1)) m) m).map (·.1)).Nodup ∧ ∀ x, x ∈ (xs.foldl (fun m r => mC r (w64 (lP r 0 m + 1)) m) m).map (·.1) ↔ x ∈ xs ∨ x ∈ m.map (·.1)
  | [], m, h => ⟨h, by simp⟩
  | r :: xs, m, h => by
    rw [List.foldl_cons]
    obtain ⟨h1, h2⟩ := aBs r (w64 (lP r 0 m + 1)) m h
    obtain ⟨h3, h4⟩ := aAt xs _ h1
    refine ⟨h3, fun x => ?_⟩
    rw [h4, h2, List.mem_cons]
    constructor
    · rintro (e | e | e)
      · exact .inl (.inr e)
      · exact .inl (.inl e)
      · exact .inr e
    · rintro ((e | e) | e)
      · exact .inr (.inl e)
      · exact .inl e
      · exact .inr (.inr e)
/-- The same ledger with other reports. -/
def sP (l : aM) (rs : List aC) : aM := ⟨l.Players, l.Counts, rs, l.Bans, l.Frozen⟩
def noL : aM := ⟨0, 0, [], [], []⟩
/-- What Merge answers. -/
def wC (l : aM) (more : List aC) : aM × Int :=
  bif !decide (jM l = 0) then (noL, jM l) else bif !decide (jM (sP l more) = 0) then (noL, jM (sP l more)) else
    bif decide (40 < (((dP (l.Reports ++ more)).getD []).length : Int)) then (noL, 40) else bif nN ((dP (l.Reports ++ more)).getD []) then (noL, 41) else (sP l ((dP (l.Reports ++ more)).getD []), 0)
theorem yV {xs ys : List aC} (h : ∀ x, x ∈ xs ↔ x ∈ ys) : oF xs ↔ oF ys := by
  unfold oF
  constructor
  · rintro ⟨x, hx, y, hy, h1⟩; exact ⟨x, (h x).1 hx, y, (h y).1 hy, h1⟩
  · rintro ⟨x, hx, y, hy, h1⟩; exact ⟨x, (h x).2 hx, y, (h y).2 hy, h1⟩
theorem aIw {l : aM} (hb : Bd l) (more : List aC) (hm : more.length ≤ 1000) : rH l more = some (wC l more) := by
  have hb' := hb
  obtain ⟨h1, h2, h3⟩ := hb
  unfold rH wC
  rw [aGb l (by omega) (by omega) (by omega), Option.bind_some]
  by_cases hc : jM l = 0
  · rw [decide_eq_true hc, Bool.not_true, cond_false, cond_false]
    show (mQ (sP l more)).bind _ = _
    rw [aGb (sP l more) (by show more.length ≤ _; omega) (by show l.Bans.length ≤ _; omega) (by show l.Frozen.length ≤ _; omega), Option.bind_some]
    by_cases hc2 : jM (sP l more) = 0
    · rw [decide_eq_true hc2, Bool.not_true, cond_false, cond_false, aBj _ _ (by omega) (by omega), Option.bind_some]
      obtain ⟨z1, g1⟩ := aHc hc
      obtain ⟨z2, g2⟩ := aHc hc2
      have i1 := (nO g1.led).2.2.2.2.2.1
      have i2 : ∀ r ∈ more, nV l.Players r = true := (nO g2.led).2.2.2.2.2.1
      obtain ⟨xs, hxs⟩ : ∃ xs, xs = l.Reports ++ more := ⟨_, rfl⟩
      have hxl : xs.length ≤ 2000 := by rw [hxs]; simp; omega
      have hid : ∀ x ∈ xs, 0 ≤ x.Id ∧ x.Id ≤ 99 := fun x hx => by
        rw [hxs] at hx
        rcases List.mem_append.1 hx with hx | hx
        · exact (vD (i1 x hx)).1
        · exact (vD (i2 x hx)).1
      rw [← hxs]
      obtain ⟨z, d1, d2, d3, d4, d5⟩ := qE xs (by omega)
      rw [d1, Option.getD_some]
      have main := kV (fun k i s => lL more xs (xs.length : Int) l (aM.mk 0 0 [] [] []) k i s) xs (fun m r => mC r (w64 (lP r 0 m + 1)) m) (fun s => qI more l (aM.mk 0 0 [] [] []) s) [] ?_ ?_ BIG (dF (by omega))
      · refine Eq.trans main ?_
        obtain ⟨t1, t2⟩ := aAt xs [] List.nodup_nil
        have hlen : (xs.foldl (fun m r => mC r (w64 (lP r 0 m + 1)) m) []).length = z.length := by
          have hp : ((xs.foldl (fun m r => mC r (w64 (lP r 0 m + 1)) m) []).map (·.1)).Perm z := (List.perm_ext_iff_of_nodup t1 d3).2 fun x => by rw [t2, d4]; simp
          have := hp.length_eq
          rwa [List.length_map] at this
        unfold qI
        rw [hlen]
        cases h40 : decide (40 < (z.length : Int)) with
        | true => rw [cond_true, cond_true]; rfl
        | false =>
          have hzl := of_decide_eq_false h40
          rw [cond_false, cond_false, aBj _ _ (by omega) (by omega), Option.bind_some, ← hxs]
          rcases xW xs hid (by omega) with ⟨hcl, ho⟩ | ⟨hcl, zs, ho, hst, hmem, _⟩
          · rw [ho, Option.bind_some, (rB z).2 ((yV d4).2 hcl)]; rfl
          · have hcf : nN z = false := by
              rw [Bool.eq_false_iff]; intro hn
              exact hcl ((yV d4).1 ((rB z).1 hn))
            have hzz : z = zs := by
              have := aDm (rs := xs) (by omega) hst hmem
              rw [d1] at this
              exact Option.some.inj this
            have hcb : eR l.Bans = some l.Bans := by
              unfold eR; rw [gN (by simp; omega)]; rfl
            have hcf' : eR l.Frozen = some l.Frozen := by
              unfold eR; rw [gN (by simp; omega)]; rfl
            rw [ho, Option.bind_some, hcf, Bool.not_true, cond_false, cond_false, hcb, Option.bind_some, hcf', Option.bind_some, hzz]; rfl
      · intro k i hi s hs
        have hlt : decide ((i : Int) < (xs.length : Int)) = true := decide_eq_true (by omega)
        simp only [lL, hlt, cond_true, dK hi, Option.bind_some, cI (show i < 9223372036854775807 by omega)]
      · intro k s
        have hlt : decide ((xs.length : Int) < (xs.length : Int)) = false := decide_eq_false (by omega)
        simp only [lL, hlt, cond_false]
    · rw [decide_eq_false hc2, Bool.not_false, cond_true, cond_true]; rfl
  · rw [decide_eq_false hc, Bool.not_false, cond_true, cond_true]; rfl
theorem aIq {l : aM} (hb : Bd l) (more : List aC) (hm : more.length ≤ 1000) : lY l more = some (wC l more) := by
  have hb' := hb
  obtain ⟨h1, h2, h3⟩ := hb
  unfold lY wC
  rw [zV l (by omega) (by omega) (by omega), Option.bind_some]
  by_cases hc : jM l = 0
  · rw [decide_eq_true hc, Bool.not_true, cond_false, cond_false, aEf hb', Option.bind_some]
    show (iG (sP l more)).bind _ = _
    rw [zV (sP l more) (by show more.length ≤ _; omega) (by show l.Bans.length ≤ _; omega) (by show l.Frozen.length ≤ _; omega), Option.bind_some]
    by_cases hc2 : jM (sP l more) = 0
    · obtain ⟨z, d1, d2, d3, d4, d5⟩ := qE (l.Reports ++ more) (by simp; omega)
      have hzl : z.length ≤ 2000 := by simp at d5; omega
      rw [decide_eq_true hc2, Bool.not_true, cond_false, cond_false, gN (by simp; omega), Option.bind_some, List.nil_append, gN (by omega), Option.bind_some, d1, Option.bind_some, Option.getD_some]
      cases h40 : decide (40 < (z.length : Int)) with
      | true => rw [cond_true, cond_true]; rfl
      | false =>
        rw [cond_false, cond_false, aFn z (by omega), Option.bind_some]
        cases nN z <;> rfl
    · rw [decide_eq_false hc2, Bool.not_false, cond_true, cond_true]; rfl
  · rw [decide_eq_false hc, Bool.not_false, cond_true, cond_true]; rfl
end Go.Am

end
section
namespace Go.Am
theorem aEc : kI = some true := by kernel_rfl
end Go.Am

end
