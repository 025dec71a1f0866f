/- The reports of a ledger, each once; those that count. -/
import Derived.Test.YtaocljlhapoieaaRkPlain8
namespace Go.Am

theorem yW {α : Type} {xs : List α} {i : Nat} (h : i ≤ xs.length) : sub xs (i : Int) (xs.length : Int) = some (xs.drop i) := by
  simp [sub]
  omega
theorem zY (again : List aD → Int → Option (List aD)) (l out : List aD) {i : Nat} (hi : i < l.length) (hs : out.Pairwise fun x y => x.Id ≤ y.Id) (hb : out.length ≤ 1000000) :
    ∃ a : Nat, a ≤ out.length ∧ (∀ (j : Nat) (h : j < out.length), j < a → (out[j]).Id ≤ (l[i]).Id) ∧ (∀ (j : Nat) (h : j < out.length), a ≤ j → (l[i]).Id < (out[j]).Id) ∧
      eN again l out (i : Nat) BIG 0 false 0 = jG again l out (i : Nat) (a : Nat) (decide (l[i] ∈ out)) := by
  have main : ∀ (d j k a : Nat), out.length - j = d → d < k → j ≤ out.length → a ≤ j → (∀ (q : Nat) (h : q < out.length), q < a → (out[q]).Id ≤ (l[i]).Id) → (∀ (q : Nat) (h : q < out.length), a ≤ q → q < j → (l[i]).Id < (out[q]).Id) →
      ∃ a' : Nat, a' ≤ out.length ∧ (∀ (j : Nat) (h : j < out.length), j < a' → (out[j]).Id ≤ (l[i]).Id) ∧ (∀ (j : Nat) (h : j < out.length), a' ≤ j → (l[i]).Id < (out[j]).Id) ∧
        eN again l out (i : Nat) k (a : Nat) (decide (l[i] ∈ out.take j)) (j : Nat) = jG again l out (i : Nat) (a' : Nat) (decide (l[i] ∈ out)) := by
    intro d
    induction d with
    | zero =>
      intro j k a hd hk hj haj h1 h2
      obtain ⟨k, rfl⟩ : ∃ q, k = q + 1 := ⟨k - 1, by omega⟩
      have : j = out.length := by omega
      subst this
      have hlt : decide ((out.length : Int) < (out.length : Int)) = false := decide_eq_false (by omega)
      exact ⟨a, haj, h1, fun q h hq => h2 q h hq h, by simp only [eN, hlt, cond_false, List.take_length]⟩
    | succ d ih =>
      intro j k a hd hk hj haj h1 h2
      obtain ⟨k, rfl⟩ : ∃ q, k = q + 1 := ⟨k - 1, by omega⟩
      have hjl : j < out.length := by omega
      have hlt : decide ((j : Int) < (out.length : Int)) = true := decide_eq_true (by omega)
      have hkn : (bif decide (l[i] ∈ out.take j) then some true else some (decide (out[j] = l[i]))) = some (decide (l[i] ∈ out.take (j + 1))) := by
        rw [fP, Option.some.injEq, List.take_succ_eq_append_getElem hjl, Bool.eq_iff_iff, Bool.or_eq_true, decide_eq_true_eq, decide_eq_true_eq, decide_eq_true_eq, List.mem_append, List.mem_singleton]
        exact or_congr_right eq_comm
      simp only [eN, hlt, cond_true, dL hjl, dL hi, Option.bind_some, hkn, cN (show j < 9223372036854775807 by omega)]
      by_cases h : (out[j]).Id ≤ (l[i]).Id
      · rw [decide_eq_true h, cond_true]
        refine ih (j + 1) k (j + 1) (by omega) (by omega) (by omega) (Nat.le_refl _) (fun q hq hqa => ?_) fun q hq h3 h4 => by omega
        rcases Nat.eq_or_lt_of_le (Nat.le_of_lt_succ hqa) with rfl | h5
        · exact h
        · have := List.pairwise_iff_getElem.1 hs q j hq hjl h5; omega
      · rw [decide_eq_false h, cond_false]
        refine ih (j + 1) k a (by omega) (by omega) (by omega) (by omega) h1 fun q hq h3 h4 => ?_
        rcases Nat.eq_or_lt_of_le (Nat.le_of_lt_succ h4) with rfl | h5
        · omega
        · exact h2 q hq h3 h5
  have := main out.length 0 BIG 0 rfl (dG (by omega)) (Nat.zero_le _) (Nat.le_refl _) (fun q h hq => by omega) (fun q h h3 h4 => by omega)
  simpa using this
theorem aBc (xs : List aD) (hb : xs.length ≤ 1000000) : ∃ z, jC xs = some z ∧ z.Pairwise (fun x y => x.Id ≤ y.Id) ∧ z.Nodup ∧ (∀ x, x ∈ z ↔ x ∈ xs) ∧ z.length ≤ xs.length := by
  have main : ∀ (d i k : Nat) (out : List aD), xs.length - i = d → d < k → i ≤ xs.length → out.Pairwise (fun x y => x.Id ≤ y.Id) → out.Nodup → (∀ x, x ∈ out ↔ x ∈ xs.take i) → out.length ≤ i →
      ∃ z, eM xs k out (i : Nat) = some z ∧ z.Pairwise (fun x y => x.Id ≤ y.Id) ∧ z.Nodup ∧ (∀ x, x ∈ z ↔ x ∈ xs) ∧ z.length ≤ xs.length := by
    intro d
    induction d with
    | zero =>
      intro i k out hd hk hi h1 h2 h3 h4
      obtain ⟨k, rfl⟩ : ∃ q, k = q + 1 := ⟨k - 1, by omega⟩
      have : i = xs.length := by omega
      subst this
      have hlt : decide ((xs.length : Int) < (xs.length : Int)) = false := decide_eq_false (by omega)
      exact ⟨out, by simp only [eM, hlt, cond_false, mT], h1, h2, fun x => by rw [h3, List.take_length], h4⟩
    | succ d ih =>
      intro i k out hd hk hi h1 h2 h3 h4
      obtain ⟨k, rfl⟩ : ∃ q, k = q + 1 := ⟨k - 1, by omega⟩
      have hil : i < xs.length := by omega
      have hlt : decide ((i : Int) < (xs.length : Int)) = true := decide_eq_true (by omega)
      obtain ⟨a, ha, hlo, hhi, he⟩ := zY (eM xs k) xs out hil h1 (by omega)
      simp only [eM, hlt, cond_true, he]
      unfold jG
      by_cases hm : xs[i] ∈ out
      · rw [decide_eq_true hm, Bool.not_true, cond_false]
        unfold gQ
        rw [cN (by omega)]
        refine ih (i + 1) k out (by omega) (by omega) (by omega) h1 h2 (fun x => ?_) (by omega)
        rw [List.take_succ_eq_append_getElem hil, List.mem_append, List.mem_singleton, h3]
        exact ⟨.inl, fun h => h.elim id fun h => (h3 x).1 (h ▸ hm)⟩
      · rw [decide_eq_false hm, Bool.not_false, cond_true, dL hil, Option.bind_some, yW ha, Option.bind_some, kS (by simp; omega), Option.bind_some, vH ha, Option.bind_some, kS (by simp; omega), Option.bind_some, kS (by simp; omega), Option.bind_some]
        unfold gQ
        rw [cN (by omega)]
        have e1 : [] ++ out.take a ++ ([xs[i]] ++ out.drop a) = out.take a ++ xs[i] :: out.drop a := by simp
        rw [e1]
        have hp : (out.take a ++ xs[i] :: out.drop a).Perm (xs[i] :: out) := by
          have : (out.take a ++ xs[i] :: out.drop a).Perm (xs[i] :: (out.take a ++ out.drop a)) := List.perm_middle
          rwa [List.take_append_drop] at this
        refine ih (i + 1) k _ (by omega) (by omega) (by omega) ?_ (hp.nodup_iff.2 (List.nodup_cons.2 ⟨hm, h2⟩)) (fun x => ?_) (by rw [hp.length_eq]; simp; omega)
        · have h5 := List.pairwise_append.1 (show (out.take a ++ out.drop a).Pairwise (fun x y => x.Id ≤ y.Id) by rw [List.take_append_drop]; exact h1)
          refine List.pairwise_append.2 ⟨h5.1, List.pairwise_cons.2 ⟨fun y hy => ?_, h5.2.1⟩, fun x hx y hy => ?_⟩
          · obtain ⟨q, hq, rfl⟩ := List.getElem_of_mem hy
            simp only [List.length_drop] at hq
            rw [List.getElem_drop]
            have := hhi (a + q) (by omega) (by omega)
            omega
          · rcases List.mem_cons.1 hy with rfl | hy
            · obtain ⟨q, hq, rfl⟩ := List.getElem_of_mem hx
              simp only [List.length_take] at hq
              rw [List.getElem_take]
              exact hlo q (by omega) (by omega)
            · exact h5.2.2 x hx y hy
        · rw [hp.mem_iff, List.mem_cons, h3, List.take_succ_eq_append_getElem hil, List.mem_append, List.mem_singleton]
          exact or_comm
  exact main xs.length 0 BIG [] rfl (dG (by omega)) (Nat.zero_le _) .nil List.nodup_nil (fun x => by simp) (Nat.le_refl _)

/-- A valid ledger, and its reports in the order of their Ids. -/
structure GL (l : aR) (z : List aD) : Prop where
  led : jE l = true
  once : mM l.Reports = some (z, true)
  dist : jC l.Reports = some z
  st : z.Pairwise fun x y => x.Id < y.Id
  mem : ∀ x, x ∈ z ↔ x ∈ l.Reports
  len : z.length ≤ 40
  ncl : ¬ rQ l.Reports
theorem nH {l : aR} (h : jE l = true) : (1 ≤ l.Players ∧ l.Players ≤ 16) ∧ (1 ≤ l.Counts ∧ l.Counts ≤ 20) ∧ l.Reports.length ≤ 40 ∧ (l.Bans.length ≤ 8 ∧ ∀ a ∈ l.Bans, jZ l.Players a = true) ∧ (l.Frozen.length ≤ 8 ∧ ∀ a ∈ l.Frozen, jZ l.Players a = true) ∧ (∀ r ∈ l.Reports, oF l.Players r = true) ∧ nG l.Frozen = true := by
  unfold jE inB at h
  simp only [Bool.and_eq_true, decide_eq_true_eq, List.all_eq_true] at h
  obtain ⟨⟨⟨⟨⟨⟨h1, h2⟩, h3⟩, h4⟩, h5⟩, h6⟩, h7⟩ := h
  exact ⟨h1, h2, h3, h4, h5, h6, h7⟩
theorem aAu {P : Int} {r : aD} (h : oF P r = true) : (0 ≤ r.Id ∧ r.Id ≤ 99) ∧ (0 ≤ r.Player ∧ r.Player ≤ P - 1) ∧ (0 ≤ r.Week ∧ r.Week ≤ 400) ∧ (0 ≤ r.Points ∧ r.Points ≤ 2000) := by
  unfold oF inB at h
  simp only [Bool.and_eq_true, decide_eq_true_eq] at h
  exact ⟨h.1.1.1, h.1.1.2, h.1.2, h.2⟩
theorem aEr {P : Int} {a : bD} (h : jZ P a = true) : (0 ≤ a.Player ∧ a.Player ≤ P - 1) ∧ 0 ≤ a.From ∧ a.From ≤ a.To ∧ a.To ≤ 400 := by
  unfold jZ inB at h
  simp only [Bool.and_eq_true, decide_eq_true_eq] at h
  exact ⟨h.1.1.1, h.1.1.2, h.1.2, h.2⟩
theorem aIo {l : aR} (h : oK l = 0) : ∃ z, GL l z := by
  unfold oK at h
  cases hl : jE l with
  | false => rw [hl] at h; simp at h
  | true =>
    cases hc : pN l.Reports with
    | true => rw [hl, hc] at h; simp at h
    | false =>
      have hncl : ¬ rQ l.Reports := fun hn => by rw [(sW _).2 hn] at hc; cases hc
      obtain ⟨_, _, h3, _, _, h6, _⟩ := nH hl
      have hid : ∀ x ∈ l.Reports, 0 ≤ x.Id ∧ x.Id ≤ 99 := fun x hx => (aAu (h6 x hx)).1
      rcases aAt l.Reports hid (by omega) with ⟨hn, _⟩ | ⟨_, z, h7, h8, h9, h10⟩
      · exact absurd hn hncl
      · obtain ⟨z', d1, d2, d3, d4, _⟩ := aBc l.Reports (by omega)
        have hz' : z'.Pairwise fun x y => x.Id < y.Id := by
          refine List.pairwise_iff_getElem.2 fun i j hi hj hij => ?_
          have a1 := List.pairwise_iff_getElem.1 d2 i j hi hj hij
          have a2 := List.pairwise_iff_getElem.1 d3 i j hi hj hij
          rcases Int.lt_or_eq_of_le a1 with h | h
          · exact h
          · exact absurd (Classical.byContradiction fun hne => hncl ⟨_, (d4 _).1 (List.getElem_mem hi), _, (d4 _).1 (List.getElem_mem hj), h, hne⟩) a2
        have : z' = z := sT hz' h8 fun x => (d4 x).trans (h9 x).symm
        subst this
        exact ⟨z', hl, h7, d1, h8, h9, by omega, hncl⟩
theorem aFo {l : aR} {z : List aD} (h : GL l z) : oK l = 0 := by
  have : pN l.Reports = false := by rw [Bool.eq_false_iff]; exact fun hn => h.ncl ((sW _).1 hn)
  unfold oK
  rw [h.led, this]; rfl

/-- What counts. -/
def zX (l : aR) (p w : Int) (r : aD) : Bool := decide (r.Player = p) && decide (r.Week ≤ w) && decide (tE l.Frozen r w < 52) && !kA l.Bans p r.Week
def eA (l : aR) (z : List aD) (p w : Int) : List aD := z.filter (zX l p w)
/-- The book of a ledger. -/
def gM (l : aR) (z : List aD) : cB := ⟨⟨l.Players, l.Counts, z, l.Bans, l.Frozen⟩⟩
/-- What a ledger says beside its reports. -/
def sZ (l : aR) : Bool := jE ⟨l.Players, l.Counts, [], l.Bans, l.Frozen⟩
theorem mN {l : aR} (h : sZ l = true) : (1 ≤ l.Players ∧ l.Players ≤ 16) ∧ (1 ≤ l.Counts ∧ l.Counts ≤ 20) ∧ True ∧ (l.Bans.length ≤ 8 ∧ ∀ a ∈ l.Bans, jZ l.Players a = true) ∧ (l.Frozen.length ≤ 8 ∧ ∀ a ∈ l.Frozen, jZ l.Players a = true) ∧ True ∧ nG l.Frozen = true := by
  have a := nH h
  exact ⟨a.1, a.2.1, trivial, a.2.2.2.1, a.2.2.2.2.1, trivial, a.2.2.2.2.2.2⟩
theorem aHo {l : aR} (h : jE l = true) : sZ l = true := by
  unfold sZ
  unfold jE at h ⊢
  simp only [Bool.and_eq_true, decide_eq_true_eq] at h ⊢
  simp only [List.length_nil, List.all_nil, Nat.zero_le, and_true, true_and]
  exact ⟨⟨⟨⟨h.1.1.1.1.1.1, h.1.1.1.1.1.2⟩, h.1.1.1.2⟩, h.1.1.2⟩, h.2⟩
/-- A report with any Id. -/
def tV (P : Int) (r : aD) : Bool := inB r.Id 0 10000 && inB r.Player 0 (P - 1) && inB r.Week 0 400 && inB r.Points 0 2000
theorem vV {P : Int} {r : aD} (h : tV P r = true) : (0 ≤ r.Id ∧ r.Id ≤ 10000) ∧ (0 ≤ r.Player ∧ r.Player ≤ P - 1) ∧ (0 ≤ r.Week ∧ r.Week ≤ 400) ∧ (0 ≤ r.Points ∧ r.Points ≤ 2000) := by
  unfold tV inB at h
  simp only [Bool.and_eq_true, decide_eq_true_eq] at h
  exact ⟨h.1.1.1, h.1.1.2, h.1.2, h.2⟩
theorem aHn {P : Int} {r : aD} (h : oF P r = true) : tV P r = true := by
  have := aAu h
  unfold tV inB
  simp only [Bool.and_eq_true, decide_eq_true_eq]
  omega
theorem GL.rest {l : aR} {z : List aD} (h : GL l z) : sZ l = true := aHo h.led
section count
variable {l : aR} {z : List aD} (hl : sZ l = true) (hz : ∀ x ∈ z, tV l.Players x = true) (hlen : z.length ≤ 1000) {p w : Int} (hw : 0 ≤ w) (hw1 : w ≤ 1000)
include hl hz hlen hw hw1
omit hw in
theorem aCf : jS (gM l z) p w = some (eA l z p w) := by
  obtain ⟨_, _, _, hbans, hfz, _, hap⟩ := mN hl
  unfold jS
  refine uM (fun k i s => gK (gM l z) p w z (z.length : Int) k i s) z (zX l p w) (fun s => some s) (fun k i hi s hs => ?_) (fun k s => ?_) BIG (dG (by omega))
  · have hlt : decide ((i : Int) < (z.length : Int)) = true := decide_eq_true (by omega)
    have hr := vV (hz _ (List.getElem_mem hi))
    have hsl : s.length ≤ i := by rw [hs]; exact Nat.le_trans (List.length_filter_le _ _) (by simp; omega)
    have hage : z[i].Week ≤ w → mD (gM l z) z[i] w = some (tE l.Frozen z[i] w) := fun h => aIt (gM l z) z[i] w (fun f hf => by have := aEr (hfz.2 f hf); omega) hfz.1 hap hr.2.2.1.1 h hw1
    have haw : mK (gM l z).Ledger.Bans p z[i].Week = some (kA l.Bans p z[i].Week) := aGj _ _ _ (show l.Bans.length ≤ 1000000 by omega)
    simp only [gK, hlt, cond_true, dL hi, Option.bind_some, gL, cN (show i < 9223372036854775807 by omega), kS (show (s.length + [z[i]].length) * 40 ≤ 140737488355328 by simp; omega)]
    unfold zX
    by_cases h1 : z[i].Player = p <;> by_cases h2 : z[i].Week ≤ w
    · have ha := hage h2
      by_cases h3 : tE l.Frozen z[i] w < 52
      · simp only [h1, h2, h3, decide_true, Bool.true_and, cond_true, ha, Option.bind_some, haw]
        cases kA l.Bans p z[i].Week <;> rfl
      · simp only [h1, h2, h3, decide_true, decide_false, Bool.true_and, Bool.and_true, Bool.and_false, Bool.false_and, cond_true, cond_false, ha, Option.bind_some]
    · simp [h1, h2]
    · simp [h1, h2]
    · simp [h1, h2]
  · have hlt : decide ((z.length : Int) < (z.length : Int)) = false := decide_eq_false (by omega)
    simp only [gK, hlt, cond_false, oP]
theorem aGt : eL p w z l BIG 0 [] = some (eA l z p w) := by
  obtain ⟨_, _, _, hbans, hfz, _, hap⟩ := mN hl
  refine uM (fun k i s => eL p w z l k i s) z (zX l p w) (fun s => some s) (fun k i hi s hs => ?_) (fun k s => ?_) BIG (dG (by omega))
  · have hlt : decide ((i : Int) < (z.length : Int)) = true := decide_eq_true (by omega)
    have hr := vV (hz _ (List.getElem_mem hi))
    have hsl : s.length ≤ i := by rw [hs]; exact Nat.le_trans (List.length_filter_le _ _) (by simp; omega)
    have hage : lR l z[i] w = some (tE l.Frozen z[i] w) := aIr l z[i] w (by omega) hr.2.2.1.1 (by omega) hw1 hw
    have haw : jB l.Bans p z[i].Week = some (kA l.Bans p z[i].Week) := aEa _ _ _ (by omega)
    simp only [eL, hlt, cond_true, dL hi, Option.bind_some, gL, cN (show i < 9223372036854775807 by omega), kS (show (s.length + [z[i]].length) * 40 ≤ 140737488355328 by simp; omega), hage, haw]
    unfold zX
    cases (decide (z[i].Player = p) && decide (z[i].Week ≤ w) && decide (tE l.Frozen z[i] w < 52) && !kA l.Bans p z[i].Week) <;> rfl
  · have hlt : decide ((z.length : Int) < (z.length : Int)) = false := decide_eq_false (by omega)
    simp only [eL, hlt, cond_false, mS]
end count
theorem GL.reps {l : aR} {z : List aD} (h : GL l z) : ∀ x ∈ z, tV l.Players x = true := fun x hx => aHn ((nH h.led).2.2.2.2.2.1 x ((h.mem x).1 hx))
/-- What the document needs of a ledger. -/
structure GD (l : aR) (z : List aD) : Prop where
  rest : sZ l = true
  dist : jC l.Reports = some z
  st : z.Pairwise fun x y => x.Id < y.Id
  reps : ∀ x ∈ z, tV l.Players x = true
  len : z.length ≤ 100
theorem GL.gd {l : aR} {z : List aD} (h : GL l z) : GD l z := ⟨h.rest, h.dist, h.st, h.reps, Nat.le_trans h.len (by omega)⟩
theorem GD.count {l : aR} {z : List aD} (h : GD l z) {p w : Int} (hw : 0 ≤ w) (hw1 : w ≤ 1000) : eT l p w = some (eA l z p w) := by
  unfold eT
  rw [h.dist, Option.bind_some]
  exact aGt h.rest h.reps (Nat.le_trans h.len (by omega)) hw hw1
theorem aHz {l : aR} {z : List aD} (h : GL l z) {p w : Int} (hw : 0 ≤ w) (hw1 : w ≤ 1000) : eT l p w = some (eA l z p w) := h.gd.count hw hw1
end Go.Am
