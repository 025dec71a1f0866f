/- The reports of a ledger, each once; those that count. -/
import Derived.Test.YtaocljlhapoieaaRkPlain8
namespace Go.Am

theorem zF {α : Type} {xs : List α} {i : Nat} (h : i ≤ xs.length) : sub xs (i : Int) (xs.length : Int) = some (xs.drop i) := by
  simp [sub]
  omega
theorem aAi (again : List aC → Int → Option (List aC)) (l out : List aC) {i : Nat} (hi : i < l.length) (hs : out.Pairwise fun x y => x.Id ≤ y.Id) (hb : out.length ≤ 1000000) :
    ∃ a : Nat, a ≤ out.length ∧ (∀ (j : Nat) (h : j < out.length), j < a → (out[j]).Id ≤ (l[i]).Id) ∧ (∀ (j : Nat) (h : j < out.length), a ≤ j → (l[i]).Id < (out[j]).Id) ∧
      eN again l out (i : Nat) BIG 0 false 0 = jD again l out (i : Nat) (a : Nat) (decide (l[i] ∈ out)) := by
  have main : ∀ (d j k a : Nat), out.length - j = d → d < k → j ≤ out.length → a ≤ j → (∀ (q : Nat) (h : q < out.length), q < a → (out[q]).Id ≤ (l[i]).Id) → (∀ (q : Nat) (h : q < out.length), a ≤ q → q < j → (l[i]).Id < (out[q]).Id) →
      ∃ a' : Nat, a' ≤ out.length ∧ (∀ (j : Nat) (h : j < out.length), j < a' → (out[j]).Id ≤ (l[i]).Id) ∧ (∀ (j : Nat) (h : j < out.length), a' ≤ j → (l[i]).Id < (out[j]).Id) ∧
        eN again l out (i : Nat) k (a : Nat) (decide (l[i] ∈ out.take j)) (j : Nat) = jD again l out (i : Nat) (a' : Nat) (decide (l[i] ∈ out)) := by
    intro d
    induction d with
    | zero =>
      intro j k a hd hk hj haj h1 h2
      obtain ⟨k, rfl⟩ : ∃ q, k = q + 1 := ⟨k - 1, by omega⟩
      have : j = out.length := by omega
      subst this
      have hlt : decide ((out.length : Int) < (out.length : Int)) = false := decide_eq_false (by omega)
      exact ⟨a, haj, h1, fun q h hq => h2 q h hq h, by simp only [eN, hlt, cond_false, List.take_length]⟩
    | succ d ih =>
      intro j k a hd hk hj haj h1 h2
      obtain ⟨k, rfl⟩ : ∃ q, k = q + 1 := ⟨k - 1, by omega⟩
      have hjl : j < out.length := by omega
      have hlt : decide ((j : Int) < (out.length : Int)) = true := decide_eq_true (by omega)
      have hkn : (bif decide (l[i] ∈ out.take j) then some true else some (decide (out[j] = l[i]))) = some (decide (l[i] ∈ out.take (j + 1))) := by
        rw [fO, Option.some.injEq, List.take_succ_eq_append_getElem hjl, Bool.eq_iff_iff, Bool.or_eq_true, decide_eq_true_eq, decide_eq_true_eq, decide_eq_true_eq, List.mem_append, List.mem_singleton]
        exact or_congr_right eq_comm
      simp only [eN, hlt, cond_true, dK hjl, dK hi, Option.bind_some, hkn, cP (show j < 9223372036854775807 by omega)]
      by_cases h : (out[j]).Id ≤ (l[i]).Id
      · rw [decide_eq_true h, cond_true]
        refine ih (j + 1) k (j + 1) (by omega) (by omega) (by omega) (Nat.le_refl _) (fun q hq hqa => ?_) fun q hq h3 h4 => by omega
        rcases Nat.eq_or_lt_of_le (Nat.le_of_lt_succ hqa) with rfl | h5
        · exact h
        · have := List.pairwise_iff_getElem.1 hs q j hq hjl h5; omega
      · rw [decide_eq_false h, cond_false]
        refine ih (j + 1) k a (by omega) (by omega) (by omega) (by omega) h1 fun q hq h3 h4 => ?_
        rcases Nat.eq_or_lt_of_le (Nat.le_of_lt_succ h4) with rfl | h5
        · omega
        · exact h2 q hq h3 h5
  have := main out.length 0 BIG 0 rfl (dD (by omega)) (Nat.zero_le _) (Nat.le_refl _) (fun q h hq => by omega) (fun q h h3 h4 => by omega)
  simpa using this
theorem aBm (xs : List aC) (hb : xs.length ≤ 1000000) : ∃ z, iY xs = some z ∧ z.Pairwise (fun x y => x.Id ≤ y.Id) ∧ z.Nodup ∧ (∀ x, x ∈ z ↔ x ∈ xs) ∧ z.length ≤ xs.length := by
  have main : ∀ (d i k : Nat) (out : List aC), xs.length - i = d → d < k → i ≤ xs.length → out.Pairwise (fun x y => x.Id ≤ y.Id) → out.Nodup → (∀ x, x ∈ out ↔ x ∈ xs.take i) → out.length ≤ i →
      ∃ z, eM xs k out (i : Nat) = some z ∧ z.Pairwise (fun x y => x.Id ≤ y.Id) ∧ z.Nodup ∧ (∀ x, x ∈ z ↔ x ∈ xs) ∧ z.length ≤ xs.length := by
    intro d
    induction d with
    | zero =>
      intro i k out hd hk hi h1 h2 h3 h4
      obtain ⟨k, rfl⟩ : ∃ q, k = q + 1 := ⟨k - 1, by omega⟩
      have : i = xs.length := by omega
      subst this
      have hlt : decide ((xs.length : Int) < (xs.length : Int)) = false := decide_eq_false (by omega)
      exact ⟨out, by simp only [eM, hlt, cond_false, nA], h1, h2, fun x => by rw [h3, List.take_length], h4⟩
    | succ d ih =>
      intro i k out hd hk hi h1 h2 h3 h4
      obtain ⟨k, rfl⟩ : ∃ q, k = q + 1 := ⟨k - 1, by omega⟩
      have hil : i < xs.length := by omega
      have hlt : decide ((i : Int) < (xs.length : Int)) = true := decide_eq_true (by omega)
      obtain ⟨a, ha, hlo, hhi, he⟩ := aAi (eM xs k) xs out hil h1 (by omega)
      simp only [eM, hlt, cond_true, he]
      unfold jD
      by_cases hm : xs[i] ∈ out
      · rw [decide_eq_true hm, Bool.not_true, cond_false]
        unfold gO
        rw [cP (by omega)]
        refine ih (i + 1) k out (by omega) (by omega) (by omega) h1 h2 (fun x => ?_) (by omega)
        rw [List.take_succ_eq_append_getElem hil, List.mem_append, List.mem_singleton, h3]
        exact ⟨.inl, fun h => h.elim id fun h => (h3 x).1 (h ▸ hm)⟩
      · rw [decide_eq_false hm, Bool.not_false, cond_true, dK hil, Option.bind_some, zF ha, Option.bind_some, jL (by simp; omega), Option.bind_some, vU ha, Option.bind_some, jL (by simp; omega), Option.bind_some, jL (by simp; omega), Option.bind_some]
        unfold gO
        rw [cP (by omega)]
        have e1 : [] ++ out.take a ++ ([xs[i]] ++ out.drop a) = out.take a ++ xs[i] :: out.drop a := by simp
        rw [e1]
        have hp : (out.take a ++ xs[i] :: out.drop a).Perm (xs[i] :: out) := by
          have : (out.take a ++ xs[i] :: out.drop a).Perm (xs[i] :: (out.take a ++ out.drop a)) := List.perm_middle
          rwa [List.take_append_drop] at this
        refine ih (i + 1) k _ (by omega) (by omega) (by omega) ?_ (hp.nodup_iff.2 (List.nodup_cons.2 ⟨hm, h2⟩)) (fun x => ?_) (by rw [hp.length_eq]; simp; omega)
        · have h5 := List.pairwise_append.1 (show (out.take a ++ out.drop a).Pairwise (fun x y => x.Id ≤ y.Id) by rw [List.take_append_drop]; exact h1)
          refine List.pairwise_append.2 ⟨h5.1, List.pairwise_cons.2 ⟨fun y hy => ?_, h5.2.1⟩, fun x hx y hy => ?_⟩
          · obtain ⟨q, hq, rfl⟩ := List.getElem_of_mem hy
            simp only [List.length_drop] at hq
            rw [List.getElem_drop]
            have := hhi (a + q) (by omega) (by omega)
            omega
          · rcases List.mem_cons.1 hy with rfl | hy
            · obtain ⟨q, hq, rfl⟩ := List.getElem_of_mem hx
              simp only [List.length_take] at hq
              rw [List.getElem_take]
              exact hlo q (by omega) (by omega)
            · exact h5.2.2 x hx y hy
        · rw [hp.mem_iff, List.mem_cons, h3, List.take_succ_eq_append_getElem hil, List.mem_append, List.mem_singleton]
          exact or_comm
  exact main xs.length 0 BIG [] rfl (dD (by omega)) (Nat.zero_le _) .nil List.nodup_nil (fun x => by simp) (Nat.le_refl _)

/-- A valid ledger, and its reports in the order of their Ids. -/
structure GL (l : aP) (z : List aC) : Prop where
  led : jA l = true
  once : mU l.Reports = some (z, true)
  dist : iY l.Reports = some z
  st : z.Pairwise fun x y => x.Id < y.Id
  mem : ∀ x, x ∈ z ↔ x ∈ l.Reports
  len : z.length ≤ 40
  ncl : ¬ rR l.Reports
theorem mD {l : aP} (h : jA l = true) : (1 ≤ l.Players ∧ l.Players ≤ 16) ∧ (1 ≤ l.Counts ∧ l.Counts ≤ 20) ∧ l.Reports.length ≤ 40 ∧ (l.Bans.length ≤ 8 ∧ ∀ a ∈ l.Bans, kE l.Players a = true) ∧ (l.Frozen.length ≤ 8 ∧ ∀ a ∈ l.Frozen, kE l.Players a = true) ∧ (∀ r ∈ l.Reports, oP l.Players r = true) ∧ nP l.Frozen = true := by
  unfold jA inB at h
  simp only [Bool.and_eq_true, decide_eq_true_eq, List.all_eq_true] at h
  obtain ⟨⟨⟨⟨⟨⟨h1, h2⟩, h3⟩, h4⟩, h5⟩, h6⟩, h7⟩ := h
  exact ⟨h1, h2, h3, h4, h5, h6, h7⟩
theorem xR {P : Int} {r : aC} (h : oP P r = true) : (0 ≤ r.Id ∧ r.Id ≤ 99) ∧ (0 ≤ r.Player ∧ r.Player ≤ P - 1) ∧ (0 ≤ r.Week ∧ r.Week ≤ 400) ∧ (0 ≤ r.Points ∧ r.Points ≤ 2000) := by
  unfold oP inB at h
  simp only [Bool.and_eq_true, decide_eq_true_eq] at h
  exact ⟨h.1.1.1, h.1.1.2, h.1.2, h.2⟩
theorem aEy {P : Int} {a : aZ} (h : kE P a = true) : (0 ≤ a.Player ∧ a.Player ≤ P - 1) ∧ 0 ≤ a.From ∧ a.From ≤ a.To ∧ a.To ≤ 400 := by
  unfold kE inB at h
  simp only [Bool.and_eq_true, decide_eq_true_eq] at h
  exact ⟨h.1.1.1, h.1.1.2, h.1.2, h.2⟩
theorem aGp {l : aP} (h : oA l = 0) : ∃ z, GL l z := by
  unfold oA at h
  cases hl : jA l with
  | false => rw [hl] at h; simp at h
  | true =>
    cases hc : pY l.Reports with
    | true => rw [hl, hc] at h; simp at h
    | false =>
      have hncl : ¬ rR l.Reports := fun hn => by rw [(tE _).2 hn] at hc; cases hc
      obtain ⟨_, _, h3, _, _, h6, _⟩ := mD hl
      have hid : ∀ x ∈ l.Reports, 0 ≤ x.Id ∧ x.Id ≤ 99 := fun x hx => (xR (h6 x hx)).1
      rcases aBf l.Reports hid (by omega) with ⟨hn, _⟩ | ⟨_, z, h7, h8, h9, h10⟩
      · exact absurd hn hncl
      · obtain ⟨z', d1, d2, d3, d4, _⟩ := aBm l.Reports (by omega)
        have hz' : z'.Pairwise fun x y => x.Id < y.Id := by
          refine List.pairwise_iff_getElem.2 fun i j hi hj hij => ?_
          have a1 := List.pairwise_iff_getElem.1 d2 i j hi hj hij
          have a2 := List.pairwise_iff_getElem.1 d3 i j hi hj hij
          rcases Int.lt_or_eq_of_le a1 with h | h
          · exact h
          · exact absurd (Classical.byContradiction fun hne => hncl ⟨_, (d4 _).1 (List.getElem_mem hi), _, (d4 _).1 (List.getElem_mem hj), h, hne⟩) a2
        have : z' = z := sZ hz' h8 fun x => (d4 x).trans (h9 x).symm
        subst this
        exact ⟨z', hl, h7, d1, h8, h9, by omega, hncl⟩
theorem aFw {l : aP} {z : List aC} (h : GL l z) : oA l = 0 := by
  have : pY l.Reports = false := by rw [Bool.eq_false_iff]; exact fun hn => h.ncl ((tE _).1 hn)
  unfold oA
  rw [h.led, this]; rfl

/-- What counts. -/
def uU (l : aP) (p w : Int) (r : aC) : Bool := decide (r.Player = p) && decide (r.Week ≤ w) && decide (tM l.Frozen r w < 52) && !kF l.Bans p r.Week
def dZ (l : aP) (z : List aC) (p w : Int) : List aC := z.filter (uU l p w)
/-- The book of a ledger. -/
def gK (l : aP) (z : List aC) : bY := ⟨⟨l.Players, l.Counts, z, l.Bans, l.Frozen⟩⟩
/-- What a ledger says beside its reports. -/
def sF (l : aP) : Bool := jA ⟨l.Players, l.Counts, [], l.Bans, l.Frozen⟩
theorem nY {l : aP} (h : sF l = true) : (1 ≤ l.Players ∧ l.Players ≤ 16) ∧ (1 ≤ l.Counts ∧ l.Counts ≤ 20) ∧ True ∧ (l.Bans.length ≤ 8 ∧ ∀ a ∈ l.Bans, kE l.Players a = true) ∧ (l.Frozen.length ≤ 8 ∧ ∀ a ∈ l.Frozen, kE l.Players a = true) ∧ True ∧ nP l.Frozen = true := by
  have a := mD h
  exact ⟨a.1, a.2.1, trivial, a.2.2.2.1, a.2.2.2.2.1, trivial, a.2.2.2.2.2.2⟩
theorem aHw {l : aP} (h : jA l = true) : sF l = true := by
  unfold sF
  unfold jA at h ⊢
  simp only [Bool.and_eq_true, decide_eq_true_eq] at h ⊢
  simp only [List.length_nil, List.all_nil, Nat.zero_le, and_true, true_and]
  exact ⟨⟨⟨⟨h.1.1.1.1.1.1, h.1.1.1.1.1.2⟩, h.1.1.1.2⟩, h.1.1.2⟩, h.2⟩
/-- A report with any Id. -/
def rZ (P : Int) (r : aC) : Bool := inB r.Id 0 10000 && inB r.Player 0 (P - 1) && inB r.Week 0 400 && inB r.Points 0 2000
theorem wF {P : Int} {r : aC} (h : rZ P r = true) : (0 ≤ r.Id ∧ r.Id ≤ 10000) ∧ (0 ≤ r.Player ∧ r.Player ≤ P - 1) ∧ (0 ≤ r.Week ∧ r.Week ≤ 400) ∧ (0 ≤ r.Points ∧ r.Points ≤ 2000) := by
  unfold rZ inB at h
  simp only [Bool.and_eq_true, decide_eq_true_eq] at h
  exact ⟨h.1.1.1, h.1.1.2, h.1.2, h.2⟩
theorem aHv {P : Int} {r : aC} (h : oP P r = true) : rZ P r = true := by
  have := xR h
  unfold rZ inB
  simp only [Bool.and_eq_true, decide_eq_true_eq]
  omega
theorem GL.rest {l : aP} {z : List aC} (h : GL l z) : sF l = true := aHw h.led
section count
variable {l : aP} {z : List aC} (hl : sF l = true) (hz : ∀ x ∈ z, rZ l.Players x = true) (hlen : z.length ≤ 1000) {p w : Int} (hw : 0 ≤ w) (hw1 : w ≤ 1000)
include hl hz hlen hw hw1
omit hw in
theorem aFl : lF (gK l z) p w = some (dZ l z p w) := by
  obtain ⟨_, _, _, hbans, hfz, _, hap⟩ := nY hl
  unfold lF
  refine uW (fun k i s => gI (gK l z) p w z (z.length : Int) k i s) z (uU l p w) (fun s => some s) (fun k i hi s hs => ?_) (fun k s => ?_) BIG (dD (by omega))
  · have hlt : decide ((i : Int) < (z.length : Int)) = true := decide_eq_true (by omega)
    have hr := wF (hz _ (List.getElem_mem hi))
    have hsl : s.length ≤ i := by rw [hs]; exact Nat.le_trans (List.length_filter_le _ _) (by simp; omega)
    have hage : z[i].Week ≤ w → mL (gK l z) z[i] w = some (tM l.Frozen z[i] w) := fun h => aJe (gK l z) z[i] w (fun f hf => by have := aEy (hfz.2 f hf); omega) hfz.1 hap hr.2.2.1.1 h hw1
    have haw : mS (gK l z).Ledger.Bans p z[i].Week = some (kF l.Bans p z[i].Week) := aGr _ _ _ (show l.Bans.length ≤ 1000000 by omega)
    simp only [gI, hlt, cond_true, dK hi, Option.bind_some, gC, cP (show i < 9223372036854775807 by omega), jL (show (s.length + [z[i]].length) * 40 ≤ 140737488355328 by simp; omega)]
    unfold uU
    by_cases h1 : z[i].Player = p <;> by_cases h2 : z[i].Week ≤ w
    · have ha := hage h2
      by_cases h3 : tM l.Frozen z[i] w < 52
      · simp only [h1, h2, h3, decide_true, Bool.true_and, cond_true, ha, Option.bind_some, haw]
        cases kF l.Bans p z[i].Week <;> rfl
      · simp only [h1, h2, h3, decide_true, decide_false, Bool.true_and, Bool.and_true, Bool.and_false, Bool.false_and, cond_true, cond_false, ha, Option.bind_some]
    · simp [h1, h2]
    · simp [h1, h2]
    · simp [h1, h2]
  · have hlt : decide ((z.length : Int) < (z.length : Int)) = false := decide_eq_false (by omega)
    simp only [gI, hlt, cond_false, pC]
theorem aHc : eL p w z l BIG 0 [] = some (dZ l z p w) := by
  obtain ⟨_, _, _, hbans, hfz, _, hap⟩ := nY hl
  refine uW (fun k i s => eL p w z l k i s) z (uU l p w) (fun s => some s) (fun k i hi s hs => ?_) (fun k s => ?_) BIG (dD (by omega))
  · have hlt : decide ((i : Int) < (z.length : Int)) = true := decide_eq_true (by omega)
    have hr := wF (hz _ (List.getElem_mem hi))
    have hsl : s.length ≤ i := by rw [hs]; exact Nat.le_trans (List.length_filter_le _ _) (by simp; omega)
    have hage : lX l z[i] w = some (tM l.Frozen z[i] w) := aJc l z[i] w (by omega) hr.2.2.1.1 (by omega) hw1 hw
    have haw : iX l.Bans p z[i].Week = some (kF l.Bans p z[i].Week) := aEg _ _ _ (by omega)
    simp only [eL, hlt, cond_true, dK hi, Option.bind_some, gC, cP (show i < 9223372036854775807 by omega), jL (show (s.length + [z[i]].length) * 40 ≤ 140737488355328 by simp; omega), hage, haw]
    unfold uU
    cases (decide (z[i].Player = p) && decide (z[i].Week ≤ w) && decide (tM l.Frozen z[i] w < 52) && !kF l.Bans p z[i].Week) <;> rfl
  · have hlt : decide ((z.length : Int) < (z.length : Int)) = false := decide_eq_false (by omega)
    simp only [eL, hlt, cond_false, mZ]
end count
theorem GL.reps {l : aP} {z : List aC} (h : GL l z) : ∀ x ∈ z, rZ l.Players x = true := fun x hx => aHv ((mD h.led).2.2.2.2.2.1 x ((h.mem x).1 hx))
/-- What the document needs of a ledger. -/
structure GD (l : aP) (z : List aC) : Prop where
  rest : sF l = true
  dist : iY l.Reports = some z
  st : z.Pairwise fun x y => x.Id < y.Id
  reps : ∀ x ∈ z, rZ l.Players x = true
  len : z.length ≤ 100
theorem GL.gd {l : aP} {z : List aC} (h : GL l z) : GD l z := ⟨h.rest, h.dist, h.st, h.reps, Nat.le_trans h.len (by omega)⟩
theorem GD.count {l : aP} {z : List aC} (h : GD l z) {p w : Int} (hw : 0 ≤ w) (hw1 : w ≤ 1000) : fZ l p w = some (dZ l z p w) := by
  unfold fZ
  rw [h.dist, Option.bind_some]
  exact aHc h.rest h.reps (Nat.le_trans h.len (by omega)) hw hw1
end Go.Am
